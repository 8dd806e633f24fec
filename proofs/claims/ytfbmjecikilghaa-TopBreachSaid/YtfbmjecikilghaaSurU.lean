/- surge: the cells ahead of a cell, as a function that is ranged over. -/
import Derived.Test.YtfbmjecikilghaaSurC
import Derived.Test.YtfbmjecikilghaaAround
import Derived.Laws.EntriesVeiled
import Derived.Test.YtfbmjecikilghaaCheckS
namespace Go.Proofs.Ytfbmjecikilghaa
open Go.RowKit Go.Shelf
attribute [local go_sem] Oper.semAt_some

abbrev compassC : Array Value := #[.int .i64 1, .int .i64 0, .int .i64 1, .int .i64 1, .int .i64 0, .int .i64 1, .int .i64 (-1), .int .i64 1, .int .i64 (-1), .int .i64 0, .int .i64 (-1), .int .i64 (-1), .int .i64 0, .int .i64 (-1), .int .i64 1, .int .i64 (-1)]
set_option maxHeartbeats 2000000 in
set_option maxRecDepth 100000 in
theorem compass_any (w : World) :
    Calls Try.prog 111 #[] w fun e w' => e = .returned (.agg #[.int .i64 1, .int .i64 0, .int .i64 1, .int .i64 1, .int .i64 0, .int .i64 1, .int .i64 (-1), .int .i64 1, .int .i64 (-1), .int .i64 0, .int .i64 (-1), .int .i64 (-1), .int .i64 0, .int .i64 (-1), .int .i64 1, .int .i64 (-1)]) ∧ Below w.heap.size w w' := by
  go_enter Try.func111, Try.ntmps111
  go_wp2
  ((try simp only [Exit.inBlock, Exit.then]); refine bodyPost_ret (v := .agg #[.int .i64 1, .int .i64 0, .int .i64 1, .int .i64 1, .int .i64 0, .int .i64 1, .int .i64 (-1), .int .i64 1, .int .i64 (-1), .int .i64 0, .int .i64 (-1), .int .i64 (-1), .int .i64 0, .int .i64 (-1), .int .i64 1, .int .i64 (-1)]) (by simp [results, Try.results111, go_sem, *]) rfl ?_)
  exact ⟨rfl, (by repeat (first | exact Below.refl _ _ | (refine bl_setCell ?_ _ _ ?_; rotate_left; focus (first | omega | (simp; done) | (simp; omega))) | refine bl_alloc ?_ _ | refine bl_step ?_ (by assumption) | refine bl_drew ?_ | refine bl_drewN ?_ _))⟩

/-- How many cells may still come. -/
def measR (W H dx dy x y : Int) : Int := if dx = 1 then W - x else if dx = -1 then x + 1 else if dy = 1 then H - y else y + 1
theorem rayF_out {W H dx dy x y : Int} (h : ¬ (0 ≤ x ∧ x < W ∧ 0 ≤ y ∧ y < H)) (f : Nat) : rayF W H dx dy f x y = [] := by
  cases f with
  | zero => rfl
  | succ f => rw [rayF, if_neg h]
theorem rayF_in {W H dx dy x y : Int} {f : Nat} (hd : (dx = -1 ∨ dx = 0 ∨ dx = 1) ∧ (dy = -1 ∨ dy = 0 ∨ dy = 1)) (h : 0 ≤ x ∧ x < W ∧ 0 ≤ y ∧ y < H) (hf : measR W H dx dy x y ≤ f) :
    ∃ f', rayF W H dx dy f x y = (y * W + x).toNat :: rayF W H dx dy f' (x + dx) (y + dy) ∧ measR W H dx dy (x + dx) (y + dy) ≤ f' ∨ (dx = 0 ∧ dy = 0) := by
  cases f with
  | zero =>
    refine ⟨0, ?_⟩
    unfold measR at hf
    split at hf
    · omega
    · split at hf
      · omega
      · split at hf <;> omega
  | succ f =>
    refine ⟨f, ?_⟩
    by_cases h0 : dx = 0 ∧ dy = 0
    · exact .inr h0
    · refine .inl ⟨by rw [rayF, if_pos h], ?_⟩
      unfold measR at hf ⊢
      split <;> rename_i h1
      · rw [if_pos h1] at hf; push_cast at hf; omega
      · rw [if_neg h1] at hf
        split <;> rename_i h2
        · rw [if_pos h2] at hf; push_cast at hf; omega
        · rw [if_neg h2] at hf
          split <;> rename_i h3
          · rw [if_pos h3] at hf; push_cast at hf; omega
          · rw [if_neg h3] at hf; push_cast at hf; omega

/-- What a round that goes on keeps. -/
structure KpR (b1 b2 b3 : Nat) (W W' : World) : Prop where
  size : W.heap.size ≤ W'.heap.size
  k1 : W'.heap[b1]? = W.heap[b1]?
  k2 : W'.heap[b2]? = W.heap[b2]?
  k3 : W'.heap[b3]? = W.heap[b3]?
  arr : ∀ (k : Nat) (cs : Array Value), W.heap[k]? = some (.cells cs 191 (0, 0)) → W'.heap[k]? = some (.cells cs 191 (0, 0))
theorem kpR_t {b1 b2 b3 : Nat} {A B C : World} (h : KpR b1 b2 b3 A B) (k : KpR b1 b2 b3 B C) : KpR b1 b2 b3 A C := ⟨Nat.le_trans h.size k.size, k.k1.trans h.k1, k.k2.trans h.k2, k.k3.trans h.k3, fun i cs hi => k.arr i cs (h.arr i cs hi)⟩
theorem kpR_b {b1 b2 b3 : Nat} {w : World} (h1 : b1 < w.heap.size) (h2 : b2 < w.heap.size) (h3 : b3 < w.heap.size) (W : World) (l : Nat) (o o' : Obj) (hl : w.heap.size ≤ l) (ho : W.heap[l]? = some o) (hc : o.isCells = false) (_ : o.isWalk = false) : KpR b1 b2 b3 W (W.putObj l o') :=
  ⟨by simp, World.putObj_heap_other (by omega), World.putObj_heap_other (by omega), World.putObj_heap_other (by omega), fun k cs hk => (World.putObj_heap_other (fun e => by rw [e, ho] at hk; cases hk; cases hc)).trans hk⟩

/-- Between two cells. -/
def RayI (W H dx dy : Int) (L : List Nat) (J : List Nat → World → Prop) (dir cell : Int) (cs : Array Value) (b1 b2 b3 q : Nat) (xv yv : Value) (wr : World) : Prop :=
  ∃ (x y : Int) (f : Nat) (pre : List Nat), xv = .int .i64 x ∧ yv = .int .i64 y ∧ -10 ≤ x ∧ x ≤ 10 ∧ -10 ≤ y ∧ y ≤ 10 ∧ L = pre ++ rayF W H dx dy f x y ∧ measR W H dx dy x y ≤ f ∧ J pre wr ∧
    wr.heap[b1]? = some (.cells #[.int .i64 dir] 3 (0, 0)) ∧ wr.heap[b2]? = some (.cells #[.int .i64 cell] 3 (0, 0)) ∧ wr.heap[b3]? = some (.cells cs 117 (0, 0)) ∧ wr.heap[q]? = some (.cells #[.int .i64 dx, .int .i64 dy] 191 (0, 0))
end Go.Proofs.Ytfbmjecikilghaa
namespace Go.Proofs.Ytfbmjecikilghaa
open Go.RowKit Go.Shelf
theorem t_step (h : 191 < Try.prog.types.size) : (Try.prog.types[191]'h).size = 2 := by kernel_rfl
attribute [local go_sem] Oper.semAt_some t_step

set_option maxHeartbeats 8000000 in
set_option maxRecDepth 100000 in
theorem ray1_in (F : Fence) (n : Nat) (hF : F.fn 110) (hw : F = Fence.wide) (hn : 1 ≤ n) (l b1 b2 b3 W H cell dir : Nat) (sz s0 s1 : Int) (a : Option Addr) (gn cap : Nat) (h0 : 1 ≤ W) (h1 : W ≤ 4) (h2 : 1 ≤ H) (h3 : H ≤ 4) (hc : cell < W * H) (hd8 : dir < 8)
    (J Jx : List Nat → World → Prop) (w : World) (hJ : AbidesFrom w.heap.size J)
    (hY : ∀ pre x rest W1, J pre W1 → rayL W H cell dir = pre ++ x :: rest → YieldAt F (n - 1) Try.prog l #[.int .i64 (x : Nat)] W1 fun e W' =>
      (e = .returned (.bool true) ∧ J (pre ++ [x]) W' ∧ KpR b1 b2 b3 W1 W') ∨ (e = .returned (.bool false) ∧ Jx (pre ++ [x]) W'))
    (x1 : w.heap[b1]? = some (.cells #[.int .i64 dir] 3 (0, 0))) (x2 : w.heap[b2]? = some (.cells #[.int .i64 cell] 3 (0, 0))) (x3 : w.heap[b3]? = some (.cells #[.int .i64 W, .int .i64 H, .int .i64 sz, .slice a gn cap, .int .i64 s0, .int .i64 s1] 117 (0, 0))) (hj0 : J [] w) :
    CallsIn F n Try.prog 110 #[.func (.yield l) #[] #[], .pointer (some ⟨b1, 0, none⟩), .pointer (some ⟨b2, 0, none⟩), .pointer (some ⟨b3, 0, none⟩)] w fun e W' => (∃ v, e = .returned v) ∧
      (J (rayL W H cell dir) W' ∨ (∃ pre, pre <+: rayL W H cell dir ∧ Jx pre W')) := by
  subst hw
  obtain ⟨L, hL⟩ : ∃ L, rayL W H cell dir = L := ⟨_, rfl⟩
  have hL' := hL
  unfold rayL at hL'
  obtain ⟨dx, hdx⟩ : ∃ x, (compassD dir).1 = x := ⟨_, rfl⟩
  obtain ⟨dy, hdy⟩ : ∃ x, (compassD dir).2 = x := ⟨_, rfl⟩
  rw [hdx, hdy] at hL'
  obtain ⟨wI, hwI⟩ : ∃ C : Int, (W : Int) = C := ⟨_, rfl⟩
  obtain ⟨hI', hhI⟩ : ∃ C : Int, (H : Int) = C := ⟨_, rfl⟩
  obtain ⟨C, hC⟩ : ∃ C : Int, (cell : Int) = C := ⟨_, rfl⟩
  obtain ⟨D, hD⟩ : ∃ C : Int, (dir : Int) = C := ⟨_, rfl⟩
  obtain ⟨x, ex⟩ : ∃ x : Int, C % wI = x := ⟨_, rfl⟩
  obtain ⟨y, ey⟩ : ∃ x : Int, C / wI = x := ⟨_, rfl⟩
  have C0 : 0 ≤ C := by omega
  have cb : C ≤ 16 := by have := Nat.mul_le_mul h1 h3; omega
  have wI0 : 1 ≤ wI := by omega
  have wI1 : ¬ wI = 0 := by omega
  have wI4 : wI ≤ 4 := by omega
  have hI0 : 1 ≤ hI' := by omega
  have hI4 : hI' ≤ 4 := by omega
  have x00 : 0 ≤ x := by rw [← ex]; exact Int.emod_nonneg _ wI1
  have x01 : x < wI := by rw [← ex]; exact Int.emod_lt_of_pos _ (by omega)
  have y00 : 0 ≤ y := by rw [← ey]; exact Int.ediv_nonneg C0 (by omega)
  have y01 : y < hI' := by
    rw [← ey]
    refine Int.ediv_lt_of_lt_mul (by omega) ?_
    rw [← hC, ← hhI, ← hwI, Int.mul_comm]; exact_mod_cast hc
  rw [hC, hwI, ex, ey, hhI] at hL'
  rw [hD] at x1
  rw [hC] at x2
  rw [hwI, hhI] at x3
  rw [hL] at hY ⊢
  have x1c := cells_of x1
  have x2c := cells_of x2
  have x3c := cells_of x3
  have l1 := lt_of_heap x1
  have l2 := lt_of_heap x2
  have l3 := lt_of_heap x3
  have Hx1 := Lib.hid x1; clear x1; have Hx2 := Lib.hid x2; clear x2; have Hx3 := Lib.hid x3; clear x3; have HhL := Lib.hid hL; clear hL; have HhL' := Lib.hid hL'; clear hL'; have HhwI := Lib.hid hwI; clear hwI; have HhhI := Lib.hid hhI; clear hhI; have HhC := Lib.hid hC; clear hC; have Hhc := Lib.hid hc; clear hc; have Hh0 := Lib.hid h0; clear h0; have Hh1 := Lib.hid h1; clear h1; have Hh2 := Lib.hid h2; clear h2; have Hh3 := Lib.hid h3; clear h3
  refine callsIn_of_wp Try.func110 rfl hF ?_ rfl
  simp only [Try.ntmps110, List.size_toArray, List.length_cons, List.length_nil, Nat.reduceAdd, Nat.reduceSub, Array.replicate_succ, Array.replicate_zero, List.push_toArray, List.append_toArray, List.nil_append, List.cons_append]
  refine wpIn_wide.2 ?_
  go_upto_region 0 with fail
  have hI : Below w.heap.size w w.drew := (Below.refl _ _).drew
  have hcd : (dx = -1 ∨ dx = 0 ∨ dx = 1) ∧ (dy = -1 ∨ dy = 0 ∨ dy = 1) ∧ ¬ (dx = 0 ∧ dy = 0) := by
    rw [← hdx, ← hdy]
    have hd' : dir = 0 ∨ dir = 1 ∨ dir = 2 ∨ dir = 3 ∨ dir = 4 ∨ dir = 5 ∨ dir = 6 ∨ dir = 7 := by omega
    rcases hd' with rfl | rfl | rfl | rfl | rfl | rfl | rfl | rfl <;> decide
  go_cut [5] from 8 to 11 (fun v wx => ∃ q, v = .pointer (some ⟨q, 0, none⟩) ∧ w.heap.size ≤ q ∧ wx.heap[q]? = some (.cells #[.int .i64 dx, .int .i64 dy] 191 (0, 0)) ∧ Below w.heap.size w wx)
  case first =>
    have hd' : dir = 0 ∨ dir = 1 ∨ dir = 2 ∨ dir = 3 ∨ dir = 4 ∨ dir = 5 ∨ dir = 6 ∨ dir = 7 := by omega
    clear hcd hd8
    clear x2c x3c l2 l3
    rcases hd' with rfl | rfl | rfl | rfl | rfl | rfl | rfl | rfl
    · as_aux_lemma =>
      obtain rfl : (1 : Int) = dx := hdx
      obtain rfl : (0 : Int) = dy := hdy
      obtain rfl : (0 : Int) = D := hD
      refine wp_region_ordT (fun W => Below w.heap.size w W) (.two [1] 0 (.one [2] 3 (.fin [] (some 4))) 3 (.one [] 0 (.fin [2] (some 4)))) (by kernel_rfl) (by kernel_rfl) hI ?_
      refine otTwo ?_
      (apply StI_plain (w0 := w.drew) hI rfl rfl rfl rfl; (focus (intro W hW K hK; obtain ⟨_, _⟩ := bk b1 hW l1; go_step; exact hK)); (focus rfl))
      refine StI_nil ⟨?_, ?_⟩
      · (apply wpOp_eff rfl; go_wp2_with (first | (go_at_call 111; refine (compass_any _).mono ?_; rintro e v1 ⟨rfl, hb1⟩)))
        have hI1 : Below w.heap.size w v1 := below_mid hI (Nat.le_refl _) hb1
        refine otN hI1 (otOne ?_)
        (apply StI_plain (w0 := v1) hI1 rfl rfl rfl rfl; (focus (intro W hW K hK; skip; go_step; exact hK)); (focus rfl))
        (apply StI_eff rfl; go_wp2_with (first | fail))
        have hI2 : Below w.heap.size w (v1.alloc (.cells #[.int .i64 0, .int .i64 0] 191)) := hI1.alloc hI1.size _
        have hq := hI1.size
        have xq := heap_alloc_at v1 (.cells #[.int .i64 0, .int .i64 0] 191)
        generalize (v1.alloc (.cells #[.int .i64 0, .int .i64 0] 191)) = v2 at hI2 xq ⊢
        refine otN hI2 (otSnkI ?_)
        have xqc := cells_of xq
        have xqf := frozen_of xq
        have xql := lt_of_heap xq
        have Hxq := Lib.hid xq; clear xq; have HhI2 := Lib.hid hI2; clear hI2
        (apply StI_eff rfl; go_wp2_with (first | fail))
        refine onNormal_last ?_
        go_wp2_with fail
        go_meet
        exact ⟨_, rfl, hq, (heap_setCell_at ((heap_setCell_at Hxq.out _).trans rfl) _).trans rfl, below_set2 HhI2.out hq⟩
      · (apply wpOp_eff rfl; go_wp2_with (first | fail))
        have hI2 : Below w.heap.size w (w.alloc (.cells #[.int .i64 0, .int .i64 0] 191)).drew := ((Below.refl _ _).alloc (Nat.le_refl _) _).drew
        have xq : (w.alloc (.cells #[.int .i64 0, .int .i64 0] 191)).drew.heap[w.heap.size]? = some (.cells #[.int .i64 0, .int .i64 0] 191 (0, 0)) := heap_drew' (heap_alloc_at w (.cells #[.int .i64 0, .int .i64 0] 191))
        generalize (w.alloc (.cells #[.int .i64 0, .int .i64 0] 191)).drew = v2 at hI2 xq ⊢
        refine otN hI2 (otOne ?_)
        (apply StI_eff rfl; go_wp2_with (first | (go_at_call 111; refine (compass_any _).mono ?_; rintro e v3 ⟨rfl, hb1⟩)))
        have hI3 : Below w.heap.size w v3 := below_mid hI2 (Nat.le_refl _) hb1
        replace xq := heap_below hb1 xq
        refine otN hI3 (otSnkI ?_)
        (apply StI_plain (w0 := v3) hI3 rfl rfl rfl rfl; (focus (intro W hW K hK; skip; go_step; exact hK)); (focus rfl))
        have xqc := cells_of xq
        have xqf := frozen_of xq
        have xql := lt_of_heap xq
        have Hxq := Lib.hid xq; clear xq; have HhI3 := Lib.hid hI3; clear hI3
        (apply StI_eff rfl; go_wp2_with (first | fail))
        refine onNormal_last ?_
        go_wp2_with fail
        go_meet
        exact ⟨_, rfl, Nat.le_refl _, (heap_setCell_at ((heap_setCell_at Hxq.out _).trans rfl) _).trans rfl, below_set2 HhI3.out (Nat.le_refl _)⟩
    · as_aux_lemma =>
      obtain rfl : (1 : Int) = dx := hdx
      obtain rfl : (1 : Int) = dy := hdy
      obtain rfl : (1 : Int) = D := hD
      refine wp_region_ordT (fun W => Below w.heap.size w W) (.two [1] 0 (.one [2] 3 (.fin [] (some 4))) 3 (.one [] 0 (.fin [2] (some 4)))) (by kernel_rfl) (by kernel_rfl) hI ?_
      refine otTwo ?_
      (apply StI_plain (w0 := w.drew) hI rfl rfl rfl rfl; (focus (intro W hW K hK; obtain ⟨_, _⟩ := bk b1 hW l1; go_step; exact hK)); (focus rfl))
      refine StI_nil ⟨?_, ?_⟩
      · (apply wpOp_eff rfl; go_wp2_with (first | (go_at_call 111; refine (compass_any _).mono ?_; rintro e v1 ⟨rfl, hb1⟩)))
        have hI1 : Below w.heap.size w v1 := below_mid hI (Nat.le_refl _) hb1
        refine otN hI1 (otOne ?_)
        (apply StI_plain (w0 := v1) hI1 rfl rfl rfl rfl; (focus (intro W hW K hK; skip; go_step; exact hK)); (focus rfl))
        (apply StI_eff rfl; go_wp2_with (first | fail))
        have hI2 : Below w.heap.size w (v1.alloc (.cells #[.int .i64 0, .int .i64 0] 191)) := hI1.alloc hI1.size _
        have hq := hI1.size
        have xq := heap_alloc_at v1 (.cells #[.int .i64 0, .int .i64 0] 191)
        generalize (v1.alloc (.cells #[.int .i64 0, .int .i64 0] 191)) = v2 at hI2 xq ⊢
        refine otN hI2 (otSnkI ?_)
        have xqc := cells_of xq
        have xqf := frozen_of xq
        have xql := lt_of_heap xq
        have Hxq := Lib.hid xq; clear xq; have HhI2 := Lib.hid hI2; clear hI2
        (apply StI_eff rfl; go_wp2_with (first | fail))
        refine onNormal_last ?_
        go_wp2_with fail
        go_meet
        exact ⟨_, rfl, hq, (heap_setCell_at ((heap_setCell_at Hxq.out _).trans rfl) _).trans rfl, below_set2 HhI2.out hq⟩
      · (apply wpOp_eff rfl; go_wp2_with (first | fail))
        have hI2 : Below w.heap.size w (w.alloc (.cells #[.int .i64 0, .int .i64 0] 191)).drew := ((Below.refl _ _).alloc (Nat.le_refl _) _).drew
        have xq : (w.alloc (.cells #[.int .i64 0, .int .i64 0] 191)).drew.heap[w.heap.size]? = some (.cells #[.int .i64 0, .int .i64 0] 191 (0, 0)) := heap_drew' (heap_alloc_at w (.cells #[.int .i64 0, .int .i64 0] 191))
        generalize (w.alloc (.cells #[.int .i64 0, .int .i64 0] 191)).drew = v2 at hI2 xq ⊢
        refine otN hI2 (otOne ?_)
        (apply StI_eff rfl; go_wp2_with (first | (go_at_call 111; refine (compass_any _).mono ?_; rintro e v3 ⟨rfl, hb1⟩)))
        have hI3 : Below w.heap.size w v3 := below_mid hI2 (Nat.le_refl _) hb1
        replace xq := heap_below hb1 xq
        refine otN hI3 (otSnkI ?_)
        (apply StI_plain (w0 := v3) hI3 rfl rfl rfl rfl; (focus (intro W hW K hK; skip; go_step; exact hK)); (focus rfl))
        have xqc := cells_of xq
        have xqf := frozen_of xq
        have xql := lt_of_heap xq
        have Hxq := Lib.hid xq; clear xq; have HhI3 := Lib.hid hI3; clear hI3
        (apply StI_eff rfl; go_wp2_with (first | fail))
        refine onNormal_last ?_
        go_wp2_with fail
        go_meet
        exact ⟨_, rfl, Nat.le_refl _, (heap_setCell_at ((heap_setCell_at Hxq.out _).trans rfl) _).trans rfl, below_set2 HhI3.out (Nat.le_refl _)⟩
    · as_aux_lemma =>
      obtain rfl : (0 : Int) = dx := hdx
      obtain rfl : (1 : Int) = dy := hdy
      obtain rfl : (2 : Int) = D := hD
      refine wp_region_ordT (fun W => Below w.heap.size w W) (.two [1] 0 (.one [2] 3 (.fin [] (some 4))) 3 (.one [] 0 (.fin [2] (some 4)))) (by kernel_rfl) (by kernel_rfl) hI ?_
      refine otTwo ?_
      (apply StI_plain (w0 := w.drew) hI rfl rfl rfl rfl; (focus (intro W hW K hK; obtain ⟨_, _⟩ := bk b1 hW l1; go_step; exact hK)); (focus rfl))
      refine StI_nil ⟨?_, ?_⟩
      · (apply wpOp_eff rfl; go_wp2_with (first | (go_at_call 111; refine (compass_any _).mono ?_; rintro e v1 ⟨rfl, hb1⟩)))
        have hI1 : Below w.heap.size w v1 := below_mid hI (Nat.le_refl _) hb1
        refine otN hI1 (otOne ?_)
        (apply StI_plain (w0 := v1) hI1 rfl rfl rfl rfl; (focus (intro W hW K hK; skip; go_step; exact hK)); (focus rfl))
        (apply StI_eff rfl; go_wp2_with (first | fail))
        have hI2 : Below w.heap.size w (v1.alloc (.cells #[.int .i64 0, .int .i64 0] 191)) := hI1.alloc hI1.size _
        have hq := hI1.size
        have xq := heap_alloc_at v1 (.cells #[.int .i64 0, .int .i64 0] 191)
        generalize (v1.alloc (.cells #[.int .i64 0, .int .i64 0] 191)) = v2 at hI2 xq ⊢
        refine otN hI2 (otSnkI ?_)
        have xqc := cells_of xq
        have xqf := frozen_of xq
        have xql := lt_of_heap xq
        have Hxq := Lib.hid xq; clear xq; have HhI2 := Lib.hid hI2; clear hI2
        (apply StI_eff rfl; go_wp2_with (first | fail))
        refine onNormal_last ?_
        go_wp2_with fail
        go_meet
        exact ⟨_, rfl, hq, (heap_setCell_at ((heap_setCell_at Hxq.out _).trans rfl) _).trans rfl, below_set2 HhI2.out hq⟩
      · (apply wpOp_eff rfl; go_wp2_with (first | fail))
        have hI2 : Below w.heap.size w (w.alloc (.cells #[.int .i64 0, .int .i64 0] 191)).drew := ((Below.refl _ _).alloc (Nat.le_refl _) _).drew
        have xq : (w.alloc (.cells #[.int .i64 0, .int .i64 0] 191)).drew.heap[w.heap.size]? = some (.cells #[.int .i64 0, .int .i64 0] 191 (0, 0)) := heap_drew' (heap_alloc_at w (.cells #[.int .i64 0, .int .i64 0] 191))
        generalize (w.alloc (.cells #[.int .i64 0, .int .i64 0] 191)).drew = v2 at hI2 xq ⊢
        refine otN hI2 (otOne ?_)
        (apply StI_eff rfl; go_wp2_with (first | (go_at_call 111; refine (compass_any _).mono ?_; rintro e v3 ⟨rfl, hb1⟩)))
        have hI3 : Below w.heap.size w v3 := below_mid hI2 (Nat.le_refl _) hb1
        replace xq := heap_below hb1 xq
        refine otN hI3 (otSnkI ?_)
        (apply StI_plain (w0 := v3) hI3 rfl rfl rfl rfl; (focus (intro W hW K hK; skip; go_step; exact hK)); (focus rfl))
        have xqc := cells_of xq
        have xqf := frozen_of xq
        have xql := lt_of_heap xq
        have Hxq := Lib.hid xq; clear xq; have HhI3 := Lib.hid hI3; clear hI3
        (apply StI_eff rfl; go_wp2_with (first | fail))
        refine onNormal_last ?_
        go_wp2_with fail
        go_meet
        exact ⟨_, rfl, Nat.le_refl _, (heap_setCell_at ((heap_setCell_at Hxq.out _).trans rfl) _).trans rfl, below_set2 HhI3.out (Nat.le_refl _)⟩
    · as_aux_lemma =>
      obtain rfl : (-1 : Int) = dx := hdx
      obtain rfl : (1 : Int) = dy := hdy
      obtain rfl : (3 : Int) = D := hD
      refine wp_region_ordT (fun W => Below w.heap.size w W) (.two [1] 0 (.one [2] 3 (.fin [] (some 4))) 3 (.one [] 0 (.fin [2] (some 4)))) (by kernel_rfl) (by kernel_rfl) hI ?_
      refine otTwo ?_
      (apply StI_plain (w0 := w.drew) hI rfl rfl rfl rfl; (focus (intro W hW K hK; obtain ⟨_, _⟩ := bk b1 hW l1; go_step; exact hK)); (focus rfl))
      refine StI_nil ⟨?_, ?_⟩
      · (apply wpOp_eff rfl; go_wp2_with (first | (go_at_call 111; refine (compass_any _).mono ?_; rintro e v1 ⟨rfl, hb1⟩)))
        have hI1 : Below w.heap.size w v1 := below_mid hI (Nat.le_refl _) hb1
        refine otN hI1 (otOne ?_)
        (apply StI_plain (w0 := v1) hI1 rfl rfl rfl rfl; (focus (intro W hW K hK; skip; go_step; exact hK)); (focus rfl))
        (apply StI_eff rfl; go_wp2_with (first | fail))
        have hI2 : Below w.heap.size w (v1.alloc (.cells #[.int .i64 0, .int .i64 0] 191)) := hI1.alloc hI1.size _
        have hq := hI1.size
        have xq := heap_alloc_at v1 (.cells #[.int .i64 0, .int .i64 0] 191)
        generalize (v1.alloc (.cells #[.int .i64 0, .int .i64 0] 191)) = v2 at hI2 xq ⊢
        refine otN hI2 (otSnkI ?_)
        have xqc := cells_of xq
        have xqf := frozen_of xq
        have xql := lt_of_heap xq
        have Hxq := Lib.hid xq; clear xq; have HhI2 := Lib.hid hI2; clear hI2
        (apply StI_eff rfl; go_wp2_with (first | fail))
        refine onNormal_last ?_
        go_wp2_with fail
        go_meet
        exact ⟨_, rfl, hq, (heap_setCell_at ((heap_setCell_at Hxq.out _).trans rfl) _).trans rfl, below_set2 HhI2.out hq⟩
      · (apply wpOp_eff rfl; go_wp2_with (first | fail))
        have hI2 : Below w.heap.size w (w.alloc (.cells #[.int .i64 0, .int .i64 0] 191)).drew := ((Below.refl _ _).alloc (Nat.le_refl _) _).drew
        have xq : (w.alloc (.cells #[.int .i64 0, .int .i64 0] 191)).drew.heap[w.heap.size]? = some (.cells #[.int .i64 0, .int .i64 0] 191 (0, 0)) := heap_drew' (heap_alloc_at w (.cells #[.int .i64 0, .int .i64 0] 191))
        generalize (w.alloc (.cells #[.int .i64 0, .int .i64 0] 191)).drew = v2 at hI2 xq ⊢
        refine otN hI2 (otOne ?_)
        (apply StI_eff rfl; go_wp2_with (first | (go_at_call 111; refine (compass_any _).mono ?_; rintro e v3 ⟨rfl, hb1⟩)))
        have hI3 : Below w.heap.size w v3 := below_mid hI2 (Nat.le_refl _) hb1
        replace xq := heap_below hb1 xq
        refine otN hI3 (otSnkI ?_)
        (apply StI_plain (w0 := v3) hI3 rfl rfl rfl rfl; (focus (intro W hW K hK; skip; go_step; exact hK)); (focus rfl))
        have xqc := cells_of xq
        have xqf := frozen_of xq
        have xql := lt_of_heap xq
        have Hxq := Lib.hid xq; clear xq; have HhI3 := Lib.hid hI3; clear hI3
        (apply StI_eff rfl; go_wp2_with (first | fail))
        refine onNormal_last ?_
        go_wp2_with fail
        go_meet
        exact ⟨_, rfl, Nat.le_refl _, (heap_setCell_at ((heap_setCell_at Hxq.out _).trans rfl) _).trans rfl, below_set2 HhI3.out (Nat.le_refl _)⟩
    · as_aux_lemma =>
      obtain rfl : (-1 : Int) = dx := hdx
      obtain rfl : (0 : Int) = dy := hdy
      obtain rfl : (4 : Int) = D := hD
      refine wp_region_ordT (fun W => Below w.heap.size w W) (.two [1] 0 (.one [2] 3 (.fin [] (some 4))) 3 (.one [] 0 (.fin [2] (some 4)))) (by kernel_rfl) (by kernel_rfl) hI ?_
      refine otTwo ?_
      (apply StI_plain (w0 := w.drew) hI rfl rfl rfl rfl; (focus (intro W hW K hK; obtain ⟨_, _⟩ := bk b1 hW l1; go_step; exact hK)); (focus rfl))
      refine StI_nil ⟨?_, ?_⟩
      · (apply wpOp_eff rfl; go_wp2_with (first | (go_at_call 111; refine (compass_any _).mono ?_; rintro e v1 ⟨rfl, hb1⟩)))
        have hI1 : Below w.heap.size w v1 := below_mid hI (Nat.le_refl _) hb1
        refine otN hI1 (otOne ?_)
        (apply StI_plain (w0 := v1) hI1 rfl rfl rfl rfl; (focus (intro W hW K hK; skip; go_step; exact hK)); (focus rfl))
        (apply StI_eff rfl; go_wp2_with (first | fail))
        have hI2 : Below w.heap.size w (v1.alloc (.cells #[.int .i64 0, .int .i64 0] 191)) := hI1.alloc hI1.size _
        have hq := hI1.size
        have xq := heap_alloc_at v1 (.cells #[.int .i64 0, .int .i64 0] 191)
        generalize (v1.alloc (.cells #[.int .i64 0, .int .i64 0] 191)) = v2 at hI2 xq ⊢
        refine otN hI2 (otSnkI ?_)
        have xqc := cells_of xq
        have xqf := frozen_of xq
        have xql := lt_of_heap xq
        have Hxq := Lib.hid xq; clear xq; have HhI2 := Lib.hid hI2; clear hI2
        (apply StI_eff rfl; go_wp2_with (first | fail))
        refine onNormal_last ?_
        go_wp2_with fail
        go_meet
        exact ⟨_, rfl, hq, (heap_setCell_at ((heap_setCell_at Hxq.out _).trans rfl) _).trans rfl, below_set2 HhI2.out hq⟩
      · (apply wpOp_eff rfl; go_wp2_with (first | fail))
        have hI2 : Below w.heap.size w (w.alloc (.cells #[.int .i64 0, .int .i64 0] 191)).drew := ((Below.refl _ _).alloc (Nat.le_refl _) _).drew
        have xq : (w.alloc (.cells #[.int .i64 0, .int .i64 0] 191)).drew.heap[w.heap.size]? = some (.cells #[.int .i64 0, .int .i64 0] 191 (0, 0)) := heap_drew' (heap_alloc_at w (.cells #[.int .i64 0, .int .i64 0] 191))
        generalize (w.alloc (.cells #[.int .i64 0, .int .i64 0] 191)).drew = v2 at hI2 xq ⊢
        refine otN hI2 (otOne ?_)
        (apply StI_eff rfl; go_wp2_with (first | (go_at_call 111; refine (compass_any _).mono ?_; rintro e v3 ⟨rfl, hb1⟩)))
        have hI3 : Below w.heap.size w v3 := below_mid hI2 (Nat.le_refl _) hb1
        replace xq := heap_below hb1 xq
        refine otN hI3 (otSnkI ?_)
        (apply StI_plain (w0 := v3) hI3 rfl rfl rfl rfl; (focus (intro W hW K hK; skip; go_step; exact hK)); (focus rfl))
        have xqc := cells_of xq
        have xqf := frozen_of xq
        have xql := lt_of_heap xq
        have Hxq := Lib.hid xq; clear xq; have HhI3 := Lib.hid hI3; clear hI3
        (apply StI_eff rfl; go_wp2_with (first | fail))
        refine onNormal_last ?_
        go_wp2_with fail
        go_meet
        exact ⟨_, rfl, Nat.le_refl _, (heap_setCell_at ((heap_setCell_at Hxq.out _).trans rfl) _).trans rfl, below_set2 HhI3.out (Nat.le_refl _)⟩
    · as_aux_lemma =>
      obtain rfl : (-1 : Int) = dx := hdx
      obtain rfl : (-1 : Int) = dy := hdy
      obtain rfl : (5 : Int) = D := hD
      refine wp_region_ordT (fun W => Below w.heap.size w W) (.two [1] 0 (.one [2] 3 (.fin [] (some 4))) 3 (.one [] 0 (.fin [2] (some 4)))) (by kernel_rfl) (by kernel_rfl) hI ?_
      refine otTwo ?_
      (apply StI_plain (w0 := w.drew) hI rfl rfl rfl rfl; (focus (intro W hW K hK; obtain ⟨_, _⟩ := bk b1 hW l1; go_step; exact hK)); (focus rfl))
      refine StI_nil ⟨?_, ?_⟩
      · (apply wpOp_eff rfl; go_wp2_with (first | (go_at_call 111; refine (compass_any _).mono ?_; rintro e v1 ⟨rfl, hb1⟩)))
        have hI1 : Below w.heap.size w v1 := below_mid hI (Nat.le_refl _) hb1
        refine otN hI1 (otOne ?_)
        (apply StI_plain (w0 := v1) hI1 rfl rfl rfl rfl; (focus (intro W hW K hK; skip; go_step; exact hK)); (focus rfl))
        (apply StI_eff rfl; go_wp2_with (first | fail))
        have hI2 : Below w.heap.size w (v1.alloc (.cells #[.int .i64 0, .int .i64 0] 191)) := hI1.alloc hI1.size _
        have hq := hI1.size
        have xq := heap_alloc_at v1 (.cells #[.int .i64 0, .int .i64 0] 191)
        generalize (v1.alloc (.cells #[.int .i64 0, .int .i64 0] 191)) = v2 at hI2 xq ⊢
        refine otN hI2 (otSnkI ?_)
        have xqc := cells_of xq
        have xqf := frozen_of xq
        have xql := lt_of_heap xq
        have Hxq := Lib.hid xq; clear xq; have HhI2 := Lib.hid hI2; clear hI2
        (apply StI_eff rfl; go_wp2_with (first | fail))
        refine onNormal_last ?_
        go_wp2_with fail
        go_meet
        exact ⟨_, rfl, hq, (heap_setCell_at ((heap_setCell_at Hxq.out _).trans rfl) _).trans rfl, below_set2 HhI2.out hq⟩
      · (apply wpOp_eff rfl; go_wp2_with (first | fail))
        have hI2 : Below w.heap.size w (w.alloc (.cells #[.int .i64 0, .int .i64 0] 191)).drew := ((Below.refl _ _).alloc (Nat.le_refl _) _).drew
        have xq : (w.alloc (.cells #[.int .i64 0, .int .i64 0] 191)).drew.heap[w.heap.size]? = some (.cells #[.int .i64 0, .int .i64 0] 191 (0, 0)) := heap_drew' (heap_alloc_at w (.cells #[.int .i64 0, .int .i64 0] 191))
        generalize (w.alloc (.cells #[.int .i64 0, .int .i64 0] 191)).drew = v2 at hI2 xq ⊢
        refine otN hI2 (otOne ?_)
        (apply StI_eff rfl; go_wp2_with (first | (go_at_call 111; refine (compass_any _).mono ?_; rintro e v3 ⟨rfl, hb1⟩)))
        have hI3 : Below w.heap.size w v3 := below_mid hI2 (Nat.le_refl _) hb1
        replace xq := heap_below hb1 xq
        refine otN hI3 (otSnkI ?_)
        (apply StI_plain (w0 := v3) hI3 rfl rfl rfl rfl; (focus (intro W hW K hK; skip; go_step; exact hK)); (focus rfl))
        have xqc := cells_of xq
        have xqf := frozen_of xq
        have xql := lt_of_heap xq
        have Hxq := Lib.hid xq; clear xq; have HhI3 := Lib.hid hI3; clear hI3
        (apply StI_eff rfl; go_wp2_with (first | fail))
        refine onNormal_last ?_
        go_wp2_with fail
        go_meet
        exact ⟨_, rfl, Nat.le_refl _, (heap_setCell_at ((heap_setCell_at Hxq.out _).trans rfl) _).trans rfl, below_set2 HhI3.out (Nat.le_refl _)⟩
    · as_aux_lemma =>
      obtain rfl : (0 : Int) = dx := hdx
      obtain rfl : (-1 : Int) = dy := hdy
      obtain rfl : (6 : Int) = D := hD
      refine wp_region_ordT (fun W => Below w.heap.size w W) (.two [1] 0 (.one [2] 3 (.fin [] (some 4))) 3 (.one [] 0 (.fin [2] (some 4)))) (by kernel_rfl) (by kernel_rfl) hI ?_
      refine otTwo ?_
      (apply StI_plain (w0 := w.drew) hI rfl rfl rfl rfl; (focus (intro W hW K hK; obtain ⟨_, _⟩ := bk b1 hW l1; go_step; exact hK)); (focus rfl))
      refine StI_nil ⟨?_, ?_⟩
      · (apply wpOp_eff rfl; go_wp2_with (first | (go_at_call 111; refine (compass_any _).mono ?_; rintro e v1 ⟨rfl, hb1⟩)))
        have hI1 : Below w.heap.size w v1 := below_mid hI (Nat.le_refl _) hb1
        refine otN hI1 (otOne ?_)
        (apply StI_plain (w0 := v1) hI1 rfl rfl rfl rfl; (focus (intro W hW K hK; skip; go_step; exact hK)); (focus rfl))
        (apply StI_eff rfl; go_wp2_with (first | fail))
        have hI2 : Below w.heap.size w (v1.alloc (.cells #[.int .i64 0, .int .i64 0] 191)) := hI1.alloc hI1.size _
        have hq := hI1.size
        have xq := heap_alloc_at v1 (.cells #[.int .i64 0, .int .i64 0] 191)
        generalize (v1.alloc (.cells #[.int .i64 0, .int .i64 0] 191)) = v2 at hI2 xq ⊢
        refine otN hI2 (otSnkI ?_)
        have xqc := cells_of xq
        have xqf := frozen_of xq
        have xql := lt_of_heap xq
        have Hxq := Lib.hid xq; clear xq; have HhI2 := Lib.hid hI2; clear hI2
        (apply StI_eff rfl; go_wp2_with (first | fail))
        refine onNormal_last ?_
        go_wp2_with fail
        go_meet
        exact ⟨_, rfl, hq, (heap_setCell_at ((heap_setCell_at Hxq.out _).trans rfl) _).trans rfl, below_set2 HhI2.out hq⟩
      · (apply wpOp_eff rfl; go_wp2_with (first | fail))
        have hI2 : Below w.heap.size w (w.alloc (.cells #[.int .i64 0, .int .i64 0] 191)).drew := ((Below.refl _ _).alloc (Nat.le_refl _) _).drew
        have xq : (w.alloc (.cells #[.int .i64 0, .int .i64 0] 191)).drew.heap[w.heap.size]? = some (.cells #[.int .i64 0, .int .i64 0] 191 (0, 0)) := heap_drew' (heap_alloc_at w (.cells #[.int .i64 0, .int .i64 0] 191))
        generalize (w.alloc (.cells #[.int .i64 0, .int .i64 0] 191)).drew = v2 at hI2 xq ⊢
        refine otN hI2 (otOne ?_)
        (apply StI_eff rfl; go_wp2_with (first | (go_at_call 111; refine (compass_any _).mono ?_; rintro e v3 ⟨rfl, hb1⟩)))
        have hI3 : Below w.heap.size w v3 := below_mid hI2 (Nat.le_refl _) hb1
        replace xq := heap_below hb1 xq
        refine otN hI3 (otSnkI ?_)
        (apply StI_plain (w0 := v3) hI3 rfl rfl rfl rfl; (focus (intro W hW K hK; skip; go_step; exact hK)); (focus rfl))
        have xqc := cells_of xq
        have xqf := frozen_of xq
        have xql := lt_of_heap xq
        have Hxq := Lib.hid xq; clear xq; have HhI3 := Lib.hid hI3; clear hI3
        (apply StI_eff rfl; go_wp2_with (first | fail))
        refine onNormal_last ?_
        go_wp2_with fail
        go_meet
        exact ⟨_, rfl, Nat.le_refl _, (heap_setCell_at ((heap_setCell_at Hxq.out _).trans rfl) _).trans rfl, below_set2 HhI3.out (Nat.le_refl _)⟩
    · as_aux_lemma =>
      obtain rfl : (1 : Int) = dx := hdx
      obtain rfl : (-1 : Int) = dy := hdy
      obtain rfl : (7 : Int) = D := hD
      refine wp_region_ordT (fun W => Below w.heap.size w W) (.two [1] 0 (.one [2] 3 (.fin [] (some 4))) 3 (.one [] 0 (.fin [2] (some 4)))) (by kernel_rfl) (by kernel_rfl) hI ?_
      refine otTwo ?_
      (apply StI_plain (w0 := w.drew) hI rfl rfl rfl rfl; (focus (intro W hW K hK; obtain ⟨_, _⟩ := bk b1 hW l1; go_step; exact hK)); (focus rfl))
      refine StI_nil ⟨?_, ?_⟩
      · (apply wpOp_eff rfl; go_wp2_with (first | (go_at_call 111; refine (compass_any _).mono ?_; rintro e v1 ⟨rfl, hb1⟩)))
        have hI1 : Below w.heap.size w v1 := below_mid hI (Nat.le_refl _) hb1
        refine otN hI1 (otOne ?_)
        (apply StI_plain (w0 := v1) hI1 rfl rfl rfl rfl; (focus (intro W hW K hK; skip; go_step; exact hK)); (focus rfl))
        (apply StI_eff rfl; go_wp2_with (first | fail))
        have hI2 : Below w.heap.size w (v1.alloc (.cells #[.int .i64 0, .int .i64 0] 191)) := hI1.alloc hI1.size _
        have hq := hI1.size
        have xq := heap_alloc_at v1 (.cells #[.int .i64 0, .int .i64 0] 191)
        generalize (v1.alloc (.cells #[.int .i64 0, .int .i64 0] 191)) = v2 at hI2 xq ⊢
        refine otN hI2 (otSnkI ?_)
        have xqc := cells_of xq
        have xqf := frozen_of xq
        have xql := lt_of_heap xq
        have Hxq := Lib.hid xq; clear xq; have HhI2 := Lib.hid hI2; clear hI2
        (apply StI_eff rfl; go_wp2_with (first | fail))
        refine onNormal_last ?_
        go_wp2_with fail
        go_meet
        exact ⟨_, rfl, hq, (heap_setCell_at ((heap_setCell_at Hxq.out _).trans rfl) _).trans rfl, below_set2 HhI2.out hq⟩
      · (apply wpOp_eff rfl; go_wp2_with (first | fail))
        have hI2 : Below w.heap.size w (w.alloc (.cells #[.int .i64 0, .int .i64 0] 191)).drew := ((Below.refl _ _).alloc (Nat.le_refl _) _).drew
        have xq : (w.alloc (.cells #[.int .i64 0, .int .i64 0] 191)).drew.heap[w.heap.size]? = some (.cells #[.int .i64 0, .int .i64 0] 191 (0, 0)) := heap_drew' (heap_alloc_at w (.cells #[.int .i64 0, .int .i64 0] 191))
        generalize (w.alloc (.cells #[.int .i64 0, .int .i64 0] 191)).drew = v2 at hI2 xq ⊢
        refine otN hI2 (otOne ?_)
        (apply StI_eff rfl; go_wp2_with (first | (go_at_call 111; refine (compass_any _).mono ?_; rintro e v3 ⟨rfl, hb1⟩)))
        have hI3 : Below w.heap.size w v3 := below_mid hI2 (Nat.le_refl _) hb1
        replace xq := heap_below hb1 xq
        refine otN hI3 (otSnkI ?_)
        (apply StI_plain (w0 := v3) hI3 rfl rfl rfl rfl; (focus (intro W hW K hK; skip; go_step; exact hK)); (focus rfl))
        have xqc := cells_of xq
        have xqf := frozen_of xq
        have xql := lt_of_heap xq
        have Hxq := Lib.hid xq; clear xq; have HhI3 := Lib.hid hI3; clear hI3
        (apply StI_eff rfl; go_wp2_with (first | fail))
        refine onNormal_last ?_
        go_wp2_with fail
        go_meet
        exact ⟨_, rfl, Nat.le_refl _, (heap_setCell_at ((heap_setCell_at Hxq.out _).trans rfl) _).trans rfl, below_set2 HhI3.out (Nat.le_refl _)⟩
  case rest =>
    obtain ⟨q, rfl, hq, z5, hbq⟩ := hcut
    have z1 := heap_below hbq Hx1.out
    have z2 := heap_below hbq Hx2.out
    have z3 := heap_below hbq Hx3.out
    have hj1 : J [] wc := abides_below hJ hj0 hbq
    have hsz := hbq.size
    obtain ⟨w1, hw1⟩ : ∃ x, wc = x := ⟨_, rfl⟩
    rw [hw1] at z1 z2 z3 z5 hj1 hsz ⊢
    clear hI x1c x2c x3c l1 l2 l3 hbq hj0 hw1 hD Hx1 Hx2 Hx3 hdx hdy
    have z2c := cells_of z2
    have z3c := cells_of z3
    have z5c := cells_of z5
    have l2 := lt_of_heap z2
    have l3 := lt_of_heap z3
    have l5 := lt_of_heap z5
    obtain ⟨c1, c2, c3⟩ := hcd
    have dx0 : -1 ≤ dx := by omega
    have dx1 : dx ≤ 1 := by omega
    have dy0 : -1 ≤ dy := by omega
    have dy1 : dy ≤ 1 := by omega
    have hI : Below w1.heap.size w1 w1.drew := (Below.refl _ _).drew
    have Hz1 := Lib.hid z1; clear z1; have Hz2 := Lib.hid z2; clear z2; have Hz3 := Lib.hid z3; clear z3; have Hz5 := Lib.hid z5; clear z5; have Hhj1 := Lib.hid hj1; clear hj1; have Hc1 := Lib.hid c1; clear c1; have Hc2 := Lib.hid c2; clear c2; have Hc3 := Lib.hid c3; clear c3
    go_upto_region 1 with fail
    refine wp_region_ord (fun W => Below w1.heap.size w1 W) [] [0, 1, 2, 3, 4, 5, 6, 7, 8, 9, 10, 11, 12, 13, 14, 15, 16, 17] none (by kernel_rfl) (by kernel_rfl) hI ?_
    refine OrdI_fin ?_
    (apply StI_plain (w0 := w1.drew) hI rfl rfl rfl rfl; (focus (intro W hW K hK; obtain ⟨_, _⟩ := bk b2 hW l2; obtain ⟨_, _⟩ := bk b3 hW l3; obtain ⟨_, _⟩ := bk q hW l5; go_step; exact hK)); (focus rfl)); (apply StI_plain (w0 := w1.drew) hI rfl rfl rfl rfl; (focus (intro W hW K hK; obtain ⟨_, _⟩ := bk b2 hW l2; obtain ⟨_, _⟩ := bk b3 hW l3; obtain ⟨_, _⟩ := bk q hW l5; go_step; exact hK)); (focus rfl)); (apply StI_plain (w0 := w1.drew) hI rfl rfl rfl rfl; (focus (intro W hW K hK; obtain ⟨_, _⟩ := bk b2 hW l2; obtain ⟨_, _⟩ := bk b3 hW l3; obtain ⟨_, _⟩ := bk q hW l5; go_step; exact hK)); (focus rfl)); (apply StI_plain (w0 := w1.drew) hI rfl rfl rfl rfl; (focus (intro W hW K hK; obtain ⟨_, _⟩ := bk b2 hW l2; obtain ⟨_, _⟩ := bk b3 hW l3; obtain ⟨_, _⟩ := bk q hW l5; go_step; exact hK)); (focus rfl)); (apply StI_plain (w0 := w1.drew) hI rfl rfl rfl rfl; (focus (intro W hW K hK; obtain ⟨_, _⟩ := bk b2 hW l2; obtain ⟨_, _⟩ := bk b3 hW l3; obtain ⟨_, _⟩ := bk q hW l5; go_step; exact hK)); (focus rfl)); (apply StI_plain (w0 := w1.drew) hI rfl rfl rfl rfl; (focus (intro W hW K hK; obtain ⟨_, _⟩ := bk b2 hW l2; obtain ⟨_, _⟩ := bk b3 hW l3; obtain ⟨_, _⟩ := bk q hW l5; go_step; exact hK)); (focus rfl)); (apply StI_plain (w0 := w1.drew) hI rfl rfl rfl rfl; (focus (intro W hW K hK; obtain ⟨_, _⟩ := bk b2 hW l2; obtain ⟨_, _⟩ := bk b3 hW l3; obtain ⟨_, _⟩ := bk q hW l5; go_step; exact hK)); (focus rfl)); (apply StI_plain (w0 := w1.drew) hI rfl rfl rfl rfl; (focus (intro W hW K hK; obtain ⟨_, _⟩ := bk b2 hW l2; obtain ⟨_, _⟩ := bk b3 hW l3; obtain ⟨_, _⟩ := bk q hW l5; go_step; exact hK)); (focus rfl)); (apply StI_plain (w0 := w1.drew) hI rfl rfl rfl rfl; (focus (intro W hW K hK; obtain ⟨_, _⟩ := bk b2 hW l2; obtain ⟨_, _⟩ := bk b3 hW l3; obtain ⟨_, _⟩ := bk q hW l5; go_step; exact hK)); (focus rfl)); (apply StI_plain (w0 := w1.drew) hI rfl rfl rfl rfl; (focus (intro W hW K hK; obtain ⟨_, _⟩ := bk b2 hW l2; obtain ⟨_, _⟩ := bk b3 hW l3; obtain ⟨_, _⟩ := bk q hW l5; go_step; exact hK)); (focus rfl)); (apply StI_plain (w0 := w1.drew) hI rfl rfl rfl rfl; (focus (intro W hW K hK; obtain ⟨_, _⟩ := bk b2 hW l2; obtain ⟨_, _⟩ := bk b3 hW l3; obtain ⟨_, _⟩ := bk q hW l5; go_step; exact hK)); (focus rfl)); (apply StI_plain (w0 := w1.drew) hI rfl rfl rfl rfl; (focus (intro W hW K hK; obtain ⟨_, _⟩ := bk b2 hW l2; obtain ⟨_, _⟩ := bk b3 hW l3; obtain ⟨_, _⟩ := bk q hW l5; go_step; exact hK)); (focus rfl)); (apply StI_plain (w0 := w1.drew) hI rfl rfl rfl rfl; (focus (intro W hW K hK; obtain ⟨_, _⟩ := bk b2 hW l2; obtain ⟨_, _⟩ := bk b3 hW l3; obtain ⟨_, _⟩ := bk q hW l5; go_step; exact hK)); (focus rfl)); (apply StI_plain (w0 := w1.drew) hI rfl rfl rfl rfl; (focus (intro W hW K hK; obtain ⟨_, _⟩ := bk b2 hW l2; obtain ⟨_, _⟩ := bk b3 hW l3; obtain ⟨_, _⟩ := bk q hW l5; go_step; exact hK)); (focus rfl)); (apply StI_plain (w0 := w1.drew) hI rfl rfl rfl rfl; (focus (intro W hW K hK; obtain ⟨_, _⟩ := bk b2 hW l2; obtain ⟨_, _⟩ := bk b3 hW l3; obtain ⟨_, _⟩ := bk q hW l5; go_step; exact hK)); (focus rfl)); (apply StI_plain (w0 := w1.drew) hI rfl rfl rfl rfl; (focus (intro W hW K hK; obtain ⟨_, _⟩ := bk b2 hW l2; obtain ⟨_, _⟩ := bk b3 hW l3; obtain ⟨_, _⟩ := bk q hW l5; go_step; exact hK)); (focus rfl)); (apply StI_plain (w0 := w1.drew) hI rfl rfl rfl rfl; (focus (intro W hW K hK; obtain ⟨_, _⟩ := bk b2 hW l2; obtain ⟨_, _⟩ := bk b3 hW l3; obtain ⟨_, _⟩ := bk q hW l5; go_step; exact hK)); (focus rfl)); (apply StI_plain (w0 := w1.drew) hI rfl rfl rfl rfl; (focus (intro W hW K hK; obtain ⟨_, _⟩ := bk b2 hW l2; obtain ⟨_, _⟩ := bk b3 hW l3; obtain ⟨_, _⟩ := bk q hW l5; go_step; exact hK)); (focus rfl))
    refine StI_nil ?_
    have y1 := heap_below hI Hz1.out
    have y2 := heap_below hI Hz2.out
    have y3 := heap_below hI Hz3.out
    have y5 := heap_below hI Hz5.out
    have hj2 : J [] w1.drew := hJ [] w1 _ none Hhj1.out (below_grown hI) (fun r e => by cases e)
    have hsz2 : w.heap.size ≤ w1.drew.heap.size := hsz
    generalize w1.drew = w2 at y1 y2 y3 y5 hj2 hsz2 ⊢
    clear hI z2c z3c z5c l2 l3 l5 Hz1 Hz2 Hz3 Hz5 Hhj1 hsz
    have Hy1 := Lib.hid y1; clear y1; have Hy2 := Lib.hid y2; clear y2; have Hy3 := Lib.hid y3; clear y3; have Hy5 := Lib.hid y5; clear y5; have Hhj2 := Lib.hid hj2; clear hj2
    go_wp2_with fail
    refine (wpIn_wide (n := n)).1 ?_
    gi_loopw [6, 7] (fun xv yv wr => RayI wI hI' dx dy L J D C #[.int .i64 wI, .int .i64 hI', .int .i64 sz, .slice a gn cap, .int .i64 s0, .int .i64 s1] b1 b2 b3 q xv yv wr) (fun xv yv _ => (measR wI hI' dx dy (intOf xv) (intOf yv)).toNat)
    case atStart =>
      refine ⟨x + dx, y + dy, 5, [], rfl, rfl, by omega, by omega, by omega, by omega, by rw [List.nil_append]; exact HhL'.out.symm, ?_, Hhj2.out, Hy1.out, Hy2.out, Hy3.out, Hy5.out⟩
      unfold measR
      split
      · omega
      · split
        · omega
        · split <;> omega
    case round =>
      obtain ⟨u, v, f, pre, rfl, rfl, u0, u1, v0, v1, hLp, hms, hJs, k1, k2, k3, k5⟩ := hrel
      have k3c := cells_of k3
      have k5c := cells_of k5
      have k3l := lt_of_heap k3
      have k5l := lt_of_heap k5
      by_cases hin : 0 ≤ u ∧ u < wI ∧ 0 ≤ v ∧ v < hI'
      · obtain ⟨f', hf⟩ := rayF_in (f := f) ⟨Hc1.out, Hc2.out⟩ hin hms
        rcases hf with ⟨hr, hm'⟩ | hf
        · obtain ⟨i0, i1, i2, i3⟩ := hin
          have hmul0 : 0 ≤ v * wI := Int.mul_nonneg i2 (by omega)
          have hmul1 : v * wI ≤ 4 * 4 := Int.mul_le_mul (by omega) wI4 (by omega) (by omega)
          obtain ⟨m, hm⟩ : ∃ m, v * wI = m := ⟨_, rfl⟩
          rw [hm] at hr hmul0 hmul1
          obtain ⟨e, he⟩ : ∃ e, m + u = e := ⟨_, rfl⟩
          rw [he] at hr
          have e0 : 0 ≤ e := by omega
          rw [hr] at hLp
          obtain ⟨fn, tmps, assign, body, hy, hR⟩ := hY pre e.toNat _ wr hJs hLp
          rw [Int.toNat_of_nonneg e0] at hy
          have hms1 : measR wI hI' dx dy (u + dx) (v + dy) + 1 ≤ measR wI hI' dx dy u v := by
            have h1 := Hc1.out
            have h2 := Hc2.out
            have h3 := Hc3.out
            unfold measR
            split
            · omega
            · split
              · omega
              · split <;> omega
          have hms0 : 0 < measR wI hI' dx dy u v := by
            unfold measR
            split
            · omega
            · split
              · omega
              · split <;> omega
          have HJ := Lib.hid hJs
          clear hJs hY
          have Hk1 := Lib.hid k1; clear k1; have Hk2 := Lib.hid k2; clear k2; have Hk3 := Lib.hid k3; clear k3; have Hk5 := Lib.hid k5; clear k5; have HhLp := Lib.hid hLp; clear hLp; have Hhr := Lib.hid hr; clear hr; have Hhms := Lib.hid hms; clear hms; have Hhm' := Lib.hid hm'; clear hm'; have Hhms1 := Lib.hid hms1; clear hms1; have Hhms0 := Lib.hid hms0; clear hms0
          gi_wp2_with fail
          refine hR.mono ?_
          rintro e' W3 (⟨rfl, hJ3, hk3⟩ | ⟨rfl, hJx3⟩)
          · have q1 := hk3.k1.trans Hk1.out
            have q2 := hk3.k2.trans Hk2.out
            have q3 := hk3.k3.trans Hk3.out
            have q5 := hk3.arr _ _ Hk5.out
            clear hy hR k3c k5c k3l k5l
            have q5c := cells_of q5
            have q5l := lt_of_heap q5
            have HhJ3 := Lib.hid hJ3; clear hJ3; have Hq1 := Lib.hid q1; clear q1; have Hq2 := Lib.hid q2; clear q2; have Hq3 := Lib.hid q3; clear q3; have Hq5 := Lib.hid q5; clear q5; have Hhk3 := Lib.hid hk3; clear hk3
            gi_wp2_with fail
            refine wpIn_wide.2 ?_
            have hI3 : Below W3.heap.size W3 W3.drew := (Below.refl _ _).drew
            refine wp_region_ord (fun W => Below W3.heap.size W3 W) [] [0, 1, 2, 3, 4, 5, 6, 7, 8, 9] none (by kernel_rfl) (by kernel_rfl) hI3 ?_
            refine OrdI_fin ?_
            (apply StI_plain (w0 := W3.drew) hI3 rfl rfl rfl rfl; (focus (intro W hW K hK; obtain ⟨_, _⟩ := bk q hW q5l; go_step; exact hK)); (focus rfl)); (apply StI_plain (w0 := W3.drew) hI3 rfl rfl rfl rfl; (focus (intro W hW K hK; obtain ⟨_, _⟩ := bk q hW q5l; go_step; exact hK)); (focus rfl)); (apply StI_plain (w0 := W3.drew) hI3 rfl rfl rfl rfl; (focus (intro W hW K hK; obtain ⟨_, _⟩ := bk q hW q5l; go_step; exact hK)); (focus rfl)); (apply StI_plain (w0 := W3.drew) hI3 rfl rfl rfl rfl; (focus (intro W hW K hK; obtain ⟨_, _⟩ := bk q hW q5l; go_step; exact hK)); (focus rfl)); (apply StI_plain (w0 := W3.drew) hI3 rfl rfl rfl rfl; (focus (intro W hW K hK; obtain ⟨_, _⟩ := bk q hW q5l; go_step; exact hK)); (focus rfl)); (apply StI_plain (w0 := W3.drew) hI3 rfl rfl rfl rfl; (focus (intro W hW K hK; obtain ⟨_, _⟩ := bk q hW q5l; go_step; exact hK)); (focus rfl)); (apply StI_plain (w0 := W3.drew) hI3 rfl rfl rfl rfl; (focus (intro W hW K hK; obtain ⟨_, _⟩ := bk q hW q5l; go_step; exact hK)); (focus rfl)); (apply StI_plain (w0 := W3.drew) hI3 rfl rfl rfl rfl; (focus (intro W hW K hK; obtain ⟨_, _⟩ := bk q hW q5l; go_step; exact hK)); (focus rfl)); (apply StI_plain (w0 := W3.drew) hI3 rfl rfl rfl rfl; (focus (intro W hW K hK; obtain ⟨_, _⟩ := bk q hW q5l; go_step; exact hK)); (focus rfl)); (apply StI_plain (w0 := W3.drew) hI3 rfl rfl rfl rfl; (focus (intro W hW K hK; obtain ⟨_, _⟩ := bk q hW q5l; go_step; exact hK)); (focus rfl))
            refine StI_nil ?_
            have r1 := heap_below hI3 Hq1.out
            have r2 := heap_below hI3 Hq2.out
            have r3 := heap_below hI3 Hq3.out
            have r5 := heap_below hI3 Hq5.out
            have hj3 : J (pre ++ [e.toNat]) W3.drew := hJ _ W3 _ none HhJ3.out (below_grown hI3) (fun r e => by cases e)
            generalize W3.drew = W4 at r1 r2 r3 r5 hj3 ⊢
            clear hI3 q5c q5l Hq1 Hq2 Hq3 Hq5 HhJ3 Hhk3
            gi_wp2_with fail
            refine ⟨⟨u + dx, v + dy, f', pre ++ [e.toNat], rfl, rfl, by omega, by omega, by omega, by omega, by rw [List.append_assoc]; exact HhLp.out, Hhm'.out, hj3, r1, r2, r3, r5⟩, ?_⟩
            have h1 := Hhms1.out
            have h0 := Hhms0.out
            simp only [intOf]
            omega
          · clear hy hR
            gi_wp2
            refine bodyPost_end (results_none rfl _ _ _) rfl ?_
            exact ⟨⟨_, rfl⟩, .inr ⟨_, ⟨_, by rw [HhLp.out, List.append_assoc]; rfl⟩, hJx3⟩⟩
        · exact absurd hf Hc3.out
      · have hLe : L = pre := by rw [hLp, rayF_out hin, List.append_nil]
        have hJL : J L wr := by rw [hLe]; exact hJs
        have HJ := Lib.hid hJL
        clear hJs hY hLe hJL
        have Hk1 := Lib.hid k1; clear k1; have Hk2 := Lib.hid k2; clear k2; have HhLp := Lib.hid hLp; clear hLp; have Hhms := Lib.hid hms; clear hms
        have hout : u < 0 ∨ (0 ≤ u ∧ wI ≤ u) ∨ (0 ≤ u ∧ u < wI ∧ v < 0) ∨ (0 ≤ u ∧ u < wI ∧ 0 ≤ v ∧ hI' ≤ v) := by omega
        clear hin
        rcases hout with o1 | ⟨o1, o2⟩ | ⟨o1, o2, o3⟩ | ⟨o1, o2, o3, o4⟩
        all_goals
          gi_wp2_with fail
          refine ⟨fun _ h => (by cases h), ?_⟩
          gi_wp2_with fail
          refine bodyPost_end (results_none rfl _ _ _) rfl ?_
          exact ⟨⟨_, rfl⟩, .inl HJ.out⟩
end Go.Proofs.Ytfbmjecikilghaa
namespace Go.Proofs.Ytfbmjecikilghaa
open Go.RowKit Go.Shelf

theorem rayF_len {W H dx dy : Int} : ∀ (f : Nat) (x y : Int), (rayF W H dx dy f x y).length ≤ f
  | 0, _, _ => by simp [rayF]
  | f + 1, x, y => by
    unfold rayF
    split
    · have := rayF_len (W := W) (H := H) (dx := dx) (dy := dy) f (x + dx) (y + dy)
      simp; omega
    · simp
abbrev Ry (W H cell dir : Nat) := { d : Nat // d ∈ rayL W H cell dir }
/-- The cells ahead, for a loop over them. -/
theorem ray_stops (n : Nat) (hn : 1 ≤ n) (b1 b2 b3 W H cell dir : Nat) (sz s0 s1 : Int) (a : Option Addr) (gn cap : Nat) (h0 : 1 ≤ W) (h1 : W ≤ 4) (h2 : 1 ≤ H) (h3 : H ≤ 4) (hc : cell < W * H) (hd8 : dir < 8) (w : World)
    (x1 : w.heap[b1]? = some (.cells #[.int .i64 dir] 3 (0, 0))) (x2 : w.heap[b2]? = some (.cells #[.int .i64 cell] 3 (0, 0))) (x3 : w.heap[b3]? = some (.cells #[.int .i64 W, .int .i64 H, .int .i64 sz, .slice a gn cap, .int .i64 s0, .int .i64 s1] 117 (0, 0))) :
    SeqStopsK Fence.wide n Try.prog 110 #[.pointer (some ⟨b1, 0, none⟩), .pointer (some ⟨b2, 0, none⟩), .pointer (some ⟨b3, 0, none⟩)] (fun x : Ry W H cell dir => #[.int .i64 (x.1 : Nat)]) (KpR b1 b2 b3) (fun ys => ys.map Subtype.val = rayL W H cell dir) (fun ys => ys.map Subtype.val <+: rayL W H cell dir) 5 w := fun l J Jx W' hW hJ _ hY hj0 => by
  refine (ray1_in Fence.wide n trivial rfl hn l b1 b2 b3 W H cell dir sz s0 s1 a gn cap h0 h1 h2 h3 hc hd8 (fun pre W => ∃ ys : List (Ry _ _ cell dir), ys.map Subtype.val = pre ∧ J ys W) (fun pre W => ∃ ys : List (Ry _ _ cell dir), ys.map Subtype.val = pre ∧ Jx ys W) W'
    (fun pre W W' row ⟨ys, hy, hj⟩ hg hr => ⟨ys, hy, hJ ys W W' row hj hg hr⟩) ?_ ((hW.block b1 (lt_of_heap x1)).trans x1) ((hW.block b2 (lt_of_heap x2)).trans x2) ((hW.block b3 (lt_of_heap x3)).trans x3) ⟨[], rfl, hj0⟩).mono ?_
  · rintro pre x rest W1 ⟨ys, rfl, hj⟩ hx
    have hlen := rayF_len (W := W) (H := H) (dx := (compassD dir).1) (dy := (compassD dir).2) 5 ((cell : Int) % W + (compassD dir).1) ((cell : Int) / W + (compassD dir).2)
    have hlen' : (rayL W H cell dir).length ≤ 5 := hlen
    rw [hx] at hlen'
    have hmem : x ∈ rayL W H cell dir := by rw [hx]; simp
    obtain ⟨fn, tmps, assign, body, hy, hR⟩ := hY ys ⟨x, hmem⟩ W1 hj (by simp at hlen'; omega)
    refine ⟨fn, tmps, assign, body, hy, hR.mono fun e W' h => ?_⟩
    rcases h with ⟨he, hj', hk⟩ | ⟨he, hj'⟩
    · exact .inl ⟨he, ⟨ys ++ [⟨x, hmem⟩], by simp, hj'⟩, hk⟩
    · exact .inr ⟨he, ⟨ys ++ [⟨x, hmem⟩], by simp, hj'⟩⟩
  · rintro e W' ⟨hv, ⟨ys, hz, hj⟩ | ⟨pre, hp, zs, rfl, hj⟩⟩
    · exact ⟨hv, .inl ⟨ys, hz, hj⟩⟩
    · exact ⟨hv, .inr ⟨zs, hp, hj⟩⟩
end Go.Proofs.Ytfbmjecikilghaa
namespace Go.Proofs.Ytfbmjecikilghaa
open Go.RowKit

set_option maxHeartbeats 2000000 in
set_option maxRecDepth 100000 in
theorem uwind_any (a b d c e : Int) (hs : vldB a b 0 10000 = true) (hd0 : 1 ≤ d) (hd1 : d ≤ 255) (hl : vldB c e (-20000) 20000 = true) (w : World) :
    Calls Try.prog 54 #[.agg #[.int .i64 a, .int .i64 b, .int .i64 d, .int .i64 c, .int .i64 e]] w fun e w' => e = .returned (.int .i64 0) ∧ Below w.heap.size w w' := by
  have h1 := uwithin_any a b 0 10000
  have h2 := uwithin_any c e (-20000) 20000
  rw [hs] at h1
  rw [hl] at h2
  go_enter Try.func54, Try.ntmps54
  go_wp2_with fail
  refine (h1 _).mono ?_
  rintro x w1 ⟨rfl, hb1⟩
  have y := heap_below hb1 (heap_alloc_at w (.cells #[.int .i64 a, .int .i64 b, .int .i64 d, .int .i64 c, .int .i64 e] 67))
  have hbw : Below w.heap.size w w1 := (by repeat (first | exact Below.refl _ _ | (refine bl_setCell ?_ _ _ ?_; rotate_left; focus (first | omega | (simp; done) | (simp; omega))) | refine bl_alloc ?_ _ | refine bl_step ?_ (by assumption) | refine bl_drew ?_ | refine bl_drewN ?_ _))
  have yc := cells_of y
  have yl := lt_of_heap y
  clear hb1 y
  have Hhbw := Lib.hid hbw; clear hbw
  go_wp2_with fail
  refine (h2 _).mono ?_
  rintro x w2 ⟨rfl, hb2⟩
  have hbv := bl_step Hhbw.out hb2
  go_wp2_with fail
  go_ret
  exact ⟨rfl, hbv⟩

theorem hull_snoc (p : Int × Int) (l : List (Int × Int)) (k : Nat) (h : k < l.length) : hullS p (l.take (k + 1)) = (min (hullS p (l.take k)).1 l[k].1, max (hullS p (l.take k)).2 l[k].2) := by
  rw [List.take_succ_eq_append_getElem h]
  unfold hullS
  rw [List.foldl_append]
  rfl
def AllI (w : World) (p : Int × Int) (l : List (Int × Int)) (i : Value) (wr : World) : Prop :=
  ∃ k : Nat, k ≤ l.length ∧ i = .int .i64 k ∧ wr.heap[w.heap.size]? = some (.cells #[.int .i64 (hullS p (l.take k)).1, .int .i64 (hullS p (l.take k)).2] 122 (0, 0)) ∧ wr.heap[w.heap.size + 1]? = some (.cells #[.int .i64 0, .int .i64 0] 122 (0, 0)) ∧ Below w.heap.size w wr ∧ w.heap.size + 2 ≤ wr.heap.size

set_option maxHeartbeats 4000000 in
set_option maxRecDepth 100000 in
theorem uall_any (B : Nat) (p : Int × Int) (l : List (Int × Int)) (a : Option Addr) (c : Nat) (w : World) (hS : Sl SpanE 2 B w a l) (hB : B ≤ w.heap.size) (x y : Int) (hx : (hullS p l).1 = x) (hy : (hullS p l).2 = y) :
    Calls Try.prog 83 #[.agg #[.int .i64 p.1, .int .i64 p.2], .slice a l.length c] w fun e w' => e = .returned (.agg #[.int .i64 x, .int .i64 y]) ∧ Below w.heap.size w w' := by
  have HS := Lib.hid hS
  have hlen := hS.1
  have HX := Lib.hid hx
  have HY := Lib.hid hy
  clear hS hx hy
  go_enter Try.func83, Try.ntmps83
  go_wp2_with fail
  go_loopw [9] (fun i wr => AllI w p l i wr) (fun i _ => l.length - (intOf i).toNat)
  case atStart => exact ⟨0, Nat.zero_le _, rfl, heap_alloc_off (heap_alloc_at' _ _ rfl) _, heap_alloc_at' _ _ (by simp), (by repeat (first | exact Below.refl _ _ | (refine bl_setCell ?_ _ _ ?_; rotate_left; focus (first | omega | (simp; done) | (simp; omega))) | refine bl_alloc ?_ _ | refine bl_step ?_ (by assumption) | refine bl_drew ?_ | refine bl_drewN ?_ _)), by simp⟩
  case round =>
    obtain ⟨k, hk, rfl, x0, x1, hb, hsz⟩ := hrel
    by_cases hlt : k < l.length
    · obtain ⟨b, off, rfl, hbB, he⟩ := (HS.out.below (ek_span B) (hb.mono hB)).2 k hlt
      have hsn := hull_snoc p l k hlt
      obtain ⟨u, hu⟩ : ∃ u, l[k] = u := ⟨_, rfl⟩
      rw [hu] at he hsn
      obtain ⟨u1, u2⟩ := u
      obtain ⟨e0, e1⟩ := he
      simp only at e0 e1 hsn
      obtain ⟨h1, hh1⟩ : ∃ h, (hullS p (l.take k)).1 = h := ⟨_, rfl⟩
      obtain ⟨h2, hh2⟩ : ∃ h, (hullS p (l.take k)).2 = h := ⟨_, rfl⟩
      rw [hh1, hh2] at x0 hsn
      have hbw : b < wr.heap.size := World.block_lt_of_cell? wr _ e0
      have x0c := cells_of x0
      have x0l := lt_of_heap x0
      clear hh1 hh2
      have Hhu := Lib.hid hu; clear hu; have Hhb := Lib.hid hb; clear hb; have Hhsn := Lib.hid hsn; clear hsn; have Hx0 := Lib.hid x0; clear x0; have Hx1 := Lib.hid x1; clear x1
      go_wp2_with fail
      refine (uof_any _ _ _).mono ?_
      rintro e w1 ⟨rfl, hb1⟩
      have y0 := heap_below hb1 (heap_alloc_off Hx0.out (.cells #[.int .i64 u1, .int .i64 u2] 122))
      have y1 := heap_below hb1 (heap_alloc_off Hx1.out (.cells #[.int .i64 u1, .int .i64 u2] 122))
      have hbx := bl_step (bl_alloc Hhb.out (.cells #[.int .i64 u1, .int .i64 u2] 122)) hb1
      have hs1 := hb1.size
      rw [World.size_alloc] at hs1
      have y0c := cells_of y0
      have y0f := frozen_of y0
      have y0l := lt_of_heap y0
      clear x0c x0l e0 e1 hb1
      have Hy0 := Lib.hid y0; clear y0; have Hy1 := Lib.hid y1; clear y1; have Hhbx := Lib.hid hbx; clear hbx
      go_wp2_with fail
      refine ⟨⟨k + 1, hlt, by go_num, ?_, heap_setCell_off (heap_setCell_off Hy1.out _ (by omega)) _ (by omega), bl_setCell (bl_setCell Hhbx.out _ _ (Nat.le_refl _)) _ _ (Nat.le_refl _), by simp; omega⟩, by simp [intOf]; omega⟩
      rw [Hhsn.out]
      exact (heap_setCell_at ((heap_setCell_at Hy0.out _).trans rfl) _).trans rfl
    · obtain rfl : k = l.length := by omega
      rw [List.take_length, HX.out, HY.out] at x0
      have x0c := cells_of x0
      have x0l := lt_of_heap x0
      have x1c := cells_of x1
      have x1f := frozen_of x1
      have x1l := lt_of_heap x1
      have Hx0 := Lib.hid x0; clear x0; have Hx1 := Lib.hid x1; clear x1; have Hhb := Lib.hid hb; clear hb
      go_wp2_with fail
      ((try simp only [Exit.inBlock, Exit.then]); refine bodyPost_ret (v := .agg #[.int .i64 x, .int .i64 y]) (by simp [results, Try.results83, go_sem, *]) rfl ?_)
      exact ⟨rfl, bl_setCell (bl_setCell Hhb.out _ _ (by show _ ≤ w.heap.size + 1; omega)) _ _ (by show _ ≤ w.heap.size + 1; omega)⟩
end Go.Proofs.Ytfbmjecikilghaa
