/- grid: the neighbors of a cell, as a function that is ranged over. -/
import Derived.Test.YtfbmjecikilghaaCut
import Derived.Test.YtfbmjecikilghaaGridA
import Derived.Test.YtfbmjecikilghaaEbbD
import Derived.Sort.QuietIn
import Derived.Outline
namespace Go.Proofs.Ytfbmjecikilghaa
open Go.RowKit Go.Shelf
attribute [local go_sem] Oper.semAt_some

set_option maxHeartbeats 2000000 in
set_option maxRecDepth 100000 in
theorem around_any (W H sz c : Int) (a : Option Addr) (n cap : Nat) (w : World) :
    Calls Try.prog 75 #[.agg #[.int .i64 W, .int .i64 H, .int .i64 sz, .slice a n cap], .int .i64 c] w fun e w' => e = .returned (.func (.func 90) #[] #[.pointer (some ⟨w.heap.size + 1, 0, none⟩), .pointer (some ⟨w.heap.size, 0, none⟩)]) ∧
      Below w.heap.size w w' ∧ w'.heap.size = w.heap.size + 2 ∧ w'.heap[w.heap.size]? = some (.cells #[.int .i64 W, .int .i64 H, .int .i64 sz, .slice a n cap] 36 (0, 0)) ∧ w'.heap[w.heap.size + 1]? = some (.cells #[.int .i64 c] 3 (0, 0)) := by
  go_enter Try.func75, Try.ntmps75
  go_wp2
  go_ret
  exact ⟨rfl, (by repeat (first | exact Below.refl _ _ | (refine bl_setCell ?_ _ _ ?_; rotate_left; focus (first | omega | (simp; done) | (simp; omega))) | refine bl_alloc ?_ _ | refine bl_step ?_ (by assumption) | refine bl_drew ?_ | refine bl_drewN ?_ _)), by simp, heap_alloc_off (heap_alloc_at' _ _ rfl) _, heap_alloc_at' _ _ (by simp)⟩

theorem abides_below {B : Nat} {J : List Nat → World → Prop} (hJ : AbidesFrom B J) {s : List Nat} {W W' : World} (h : J s W) (hb : Below W.heap.size W W') : J s W' := hJ s W W' none h (below_grown hb) (fun r e => by cases e)

theorem in_val (n lo hi : Int) (v : Bool) (hv : inB n lo hi = v) (w : World) :
    Calls Try.prog 67 #[.int .i64 n, .int .i64 lo, .int .i64 hi] w fun e w' => e = .returned (.bool v) ∧ w = w' := by
  subst hv; exact in_any n lo hi w

/-- The neighbor in a direction, if there is one. -/
def nbI (W H c k : Nat) : List Nat :=
  match k with
  | 0 => if c % W + 1 < W then [c + 1] else []
  | 1 => if c / W + 1 < H then [c + W] else []
  | 2 => if 0 < c % W then [c - 1] else []
  | _ => if 0 < c / W then [c - W] else []
def nbTo (W H c : Nat) : Nat → List Nat
  | 0 => []
  | k + 1 => nbTo W H c k ++ nbI W H c k
theorem nbTo_4 (W H c : Nat) : nbTo W H c 4 = nbrs W H c := by simp [nbTo, nbI, nbrs]

theorem nbTo_le (W H c : Nat) : ∀ k, (nbTo W H c k).length ≤ k
  | 0 => Nat.le_refl _
  | k + 1 => by
    have h1 := nbTo_le W H c k
    have h2 : (nbI W H c k).length ≤ 1 := by unfold nbI; split <;> split <;> simp
    rw [nbTo, List.length_append]; omega
theorem mem_nbrs {W H c k d : Nat} (hk : k < 4) (h : d ∈ nbI W H c k) : d ∈ nbrs W H c := by
  rw [← nbTo_4]
  have e : nbTo W H c 4 = (((nbTo W H c 0 ++ nbI W H c 0) ++ nbI W H c 1) ++ nbI W H c 2) ++ nbI W H c 3 := rfl
  rw [e]
  have hk4 : k = 0 ∨ k = 1 ∨ k = 2 ∨ k = 3 := by omega
  rcases hk4 with rfl | rfl | rfl | rfl <;> simp [h]
theorem mul_of {wI C : Int} {wd c x y : Nat} (h1 : (wd : Int) = wI) (h2 : (c : Int) = C) (h3 : c % wd = x) (h4 : c / wd = y) : (y : Int) * wI + x = C ∧ 0 ≤ (y : Int) * wI := by
  subst h1 h2 h3 h4
  have h := Nat.div_add_mod c wd
  have h' : (c / wd) * wd + c % wd = c := by rw [Nat.mul_comm]; exact h
  constructor
  · exact_mod_cast h'
  · exact_mod_cast Nat.zero_le _

/-- Between two directions. -/
def ArI (W H c : Nat) (cs : Array Value) (J : List Nat → World → Prop) (b1 b2 q : Nat) (p : Value) (wr : World) : Prop :=
  ∃ k : Nat, k ≤ 4 ∧ p = .int .i64 k ∧ J (nbTo W H c k) wr ∧ wr.heap[b1]? = some (.cells #[.int .i64 c] 3 (0, 0)) ∧ wr.heap[b2]? = some (.cells cs 36 (0, 0)) ∧
    wr.heap[q]? = some (.cells #[.int .i64 1, .int .i64 0, .int .i64 0, .int .i64 1, .int .i64 (-1), .int .i64 0, .int .i64 0, .int .i64 (-1)] 162 (0, 0))

/-- What a round that goes on keeps. -/
structure KpA (b1 b2 : Nat) (W W' : World) : Prop where
  size : W.heap.size ≤ W'.heap.size
  k1 : W'.heap[b1]? = W.heap[b1]?
  k2 : W'.heap[b2]? = W.heap[b2]?
  arr : ∀ (k : Nat) (cs : Array Value), W.heap[k]? = some (.cells cs 162 (0, 0)) → W'.heap[k]? = some (.cells cs 162 (0, 0))
theorem kpA_t {b1 b2 : Nat} {A B C : World} (h : KpA b1 b2 A B) (k : KpA b1 b2 B C) : KpA b1 b2 A C := ⟨Nat.le_trans h.size k.size, k.k1.trans h.k1, k.k2.trans h.k2, fun i cs hi => k.arr i cs (h.arr i cs hi)⟩
theorem kpA_b {b1 b2 : Nat} {w : World} (h1 : b1 < w.heap.size) (h2 : b2 < w.heap.size) (W : World) (l : Nat) (o o' : Obj) (hl : w.heap.size ≤ l) (ho : W.heap[l]? = some o) (hc : o.isCells = false) (_ : o.isWalk = false) : KpA b1 b2 W (W.putObj l o') :=
  ⟨by simp, World.putObj_heap_other (by omega), World.putObj_heap_other (by omega), fun k cs hk => (World.putObj_heap_other (fun e => by rw [e, ho] at hk; cases hk; cases hc)).trans hk⟩

set_option maxHeartbeats 4000000 in
set_option maxRecDepth 100000 in
theorem around1_in (F : Fence) (n : Nat) (hF : F.fn 90) (hw : F = Fence.wide) (hn : 1 ≤ n) (l b1 b2 wd ht c : Nat) (sz : Int) (a : Option Addr) (gn cap : Nat) (h0 : 1 ≤ wd) (h1 : wd ≤ 4) (h2 : 1 ≤ ht) (h3 : ht ≤ 4) (hc : c < wd * ht)
    (J Jx : List Nat → World → Prop) (w : World) (hJ : AbidesFrom w.heap.size J)
    (hY : ∀ pre x W1, J pre W1 → x ∈ nbrs wd ht c → pre.length < 4 → YieldAt F (n - 1) Try.prog l #[.int .i64 (x : Nat)] W1 fun e W' =>
      (e = .returned (.bool true) ∧ J (pre ++ [x]) W' ∧ KpA b1 b2 W1 W') ∨ (e = .returned (.bool false) ∧ Jx (pre ++ [x]) W'))
    (x1 : w.heap[b1]? = some (.cells #[.int .i64 c] 3 (0, 0))) (x2 : w.heap[b2]? = some (.cells #[.int .i64 wd, .int .i64 ht, .int .i64 sz, .slice a gn cap] 36 (0, 0))) (hj0 : J [] w) :
    CallsIn F n Try.prog 90 #[.func (.yield l) #[] #[], .pointer (some ⟨b1, 0, none⟩), .pointer (some ⟨b2, 0, none⟩)] w fun e W' => (∃ v, e = .returned v) ∧
      ((∃ ys, ys = nbrs wd ht c ∧ J ys W') ∨ (∃ pre, True ∧ Jx pre W')) := by
  subst hw
  have x1c := cells_of x1
  have x2c := cells_of x2
  have l1 := lt_of_heap x1
  have l2 := lt_of_heap x2
  obtain ⟨x, hx⟩ : ∃ x : Nat, c % wd = x := ⟨_, rfl⟩
  obtain ⟨y, hy⟩ : ∃ y : Nat, c / wd = y := ⟨_, rfl⟩
  have ex : (c : Int) % (wd : Int) = (x : Int) := by rw [← hx]; rfl
  have ey : (c : Int) / (wd : Int) = (y : Int) := by rw [← hy]; rfl
  have cb : (c : Int) ≤ 16 := by have := Nat.mul_le_mul h1 h3; omega
  have x9 : (x : Int) ≤ 16 := by have := Nat.mod_lt c h0; omega
  have y9 : (y : Int) ≤ 16 := by have := Nat.div_le_self c wd; omega
  have wy : wrap64 (y : Int) = y := w64 _ (by omega) (by omega)
  obtain ⟨C, hC⟩ : ∃ C : Int, (c : Int) = C := ⟨_, rfl⟩
  obtain ⟨wI, hwI⟩ : ∃ C : Int, (wd : Int) = C := ⟨_, rfl⟩
  obtain ⟨hI', hhI⟩ : ∃ C : Int, (ht : Int) = C := ⟨_, rfl⟩
  have C0 : 0 ≤ C := by omega
  have wI0 : 1 ≤ wI := by omega
  have wI1 : ¬ wI = 0 := by omega
  have wI4 : wI ≤ 4 := by omega
  have hI0 : 1 ≤ hI' := by omega
  have hI4 : hI' ≤ 4 := by omega
  rw [hC] at x1 x1c
  rw [hwI, hhI] at x2 x2c
  rw [hC, hwI] at ex ey
  rw [hC] at cb
  refine callsIn_of_wp Try.func90 rfl hF ?_ rfl
  simp only [Try.ntmps90, List.size_toArray, List.length_cons, List.length_nil, Nat.reduceAdd, Nat.reduceSub, Array.replicate_succ, Array.replicate_zero, List.push_toArray, List.append_toArray, List.nil_append, List.cons_append]
  have Hx1 := Lib.hid x1; clear x1; have Hx2 := Lib.hid x2; clear x2; have Hhx := Lib.hid hx; clear hx; have Hhy := Lib.hid hy; clear hy; have HhC := Lib.hid hC; clear hC; have HhwI := Lib.hid hwI; clear hwI; have HhhI := Lib.hid hhI; clear hhI; have Hhc := Lib.hid hc; clear hc; have Hh0 := Lib.hid h0; clear h0; have Hh1 := Lib.hid h1; clear h1; have Hh2 := Lib.hid h2; clear h2; have Hh3 := Lib.hid h3; clear h3
  refine wpIn_wide.2 ?_
  go_upto_region 0 with fail
  have hI : Below w.heap.size w w.drew := (Below.refl _ _).drew
  refine wp_region_ord (fun W => Below w.heap.size w W) [] [0, 1, 2, 3, 4, 5, 6, 7, 8, 9] none (by kernel_rfl) (by kernel_rfl) hI ?_
  refine OrdI_fin ?_
  (apply StI_plain (w0 := w.drew) hI rfl rfl rfl rfl; (focus (intro W hW K hK; obtain ⟨_, _⟩ := bk b1 hW l1; obtain ⟨_, _⟩ := bk b2 hW l2; go_step; exact hK)); (focus rfl)); (apply StI_plain (w0 := w.drew) hI rfl rfl rfl rfl; (focus (intro W hW K hK; obtain ⟨_, _⟩ := bk b1 hW l1; obtain ⟨_, _⟩ := bk b2 hW l2; go_step; exact hK)); (focus rfl)); (apply StI_plain (w0 := w.drew) hI rfl rfl rfl rfl; (focus (intro W hW K hK; obtain ⟨_, _⟩ := bk b1 hW l1; obtain ⟨_, _⟩ := bk b2 hW l2; go_step; exact hK)); (focus rfl)); (apply StI_plain (w0 := w.drew) hI rfl rfl rfl rfl; (focus (intro W hW K hK; obtain ⟨_, _⟩ := bk b1 hW l1; obtain ⟨_, _⟩ := bk b2 hW l2; go_step; exact hK)); (focus rfl)); (apply StI_plain (w0 := w.drew) hI rfl rfl rfl rfl; (focus (intro W hW K hK; obtain ⟨_, _⟩ := bk b1 hW l1; obtain ⟨_, _⟩ := bk b2 hW l2; go_step; exact hK)); (focus rfl)); (apply StI_plain (w0 := w.drew) hI rfl rfl rfl rfl; (focus (intro W hW K hK; obtain ⟨_, _⟩ := bk b1 hW l1; obtain ⟨_, _⟩ := bk b2 hW l2; go_step; exact hK)); (focus rfl)); (apply StI_plain (w0 := w.drew) hI rfl rfl rfl rfl; (focus (intro W hW K hK; obtain ⟨_, _⟩ := bk b1 hW l1; obtain ⟨_, _⟩ := bk b2 hW l2; go_step; exact hK)); (focus rfl)); (apply StI_plain (w0 := w.drew) hI rfl rfl rfl rfl; (focus (intro W hW K hK; obtain ⟨_, _⟩ := bk b1 hW l1; obtain ⟨_, _⟩ := bk b2 hW l2; go_step; exact hK)); (focus rfl)); (apply StI_plain (w0 := w.drew) hI rfl rfl rfl rfl; (focus (intro W hW K hK; obtain ⟨_, _⟩ := bk b1 hW l1; obtain ⟨_, _⟩ := bk b2 hW l2; go_step; exact hK)); (focus rfl)); (apply StI_plain (w0 := w.drew) hI rfl rfl rfl rfl; (focus (intro W hW K hK; obtain ⟨_, _⟩ := bk b1 hW l1; obtain ⟨_, _⟩ := bk b2 hW l2; go_step; exact hK)); (focus rfl))
  refine StI_nil ?_
  have z1 : w.drew.heap[b1]? = some (.cells #[.int .i64 C] 3 (0, 0)) := Hx1.out
  have z2 : w.drew.heap[b2]? = some (.cells #[.int .i64 wI, .int .i64 hI', .int .i64 sz, .slice a gn cap] 36 (0, 0)) := Hx2.out
  have hj1 : J [] w.drew := hJ [] w _ none hj0 (below_grown hI) (fun r e => by cases e)
  have hsz : w.drew.heap.size = w.heap.size := rfl
  generalize w.drew = w1 at hI z1 z2 hj1 hsz ⊢
  clear x1c x2c ex ey hj0
  have Hz1 := Lib.hid z1; clear z1; have Hz2 := Lib.hid z2; clear z2; have Hhj1 := Lib.hid hj1; clear hj1; have HhI := Lib.hid hI; clear hI; have Hhsz := Lib.hid hsz; clear hsz
  go_wp2_with fail
  refine (wpIn_wide (n := n)).1 ?_
  gi_loopw [24] (fun p wr => ArI wd ht c #[.int .i64 wI, .int .i64 hI', .int .i64 sz, .slice a gn cap] J b1 b2 w1.heap.size p wr ∧ w1.heap.size < wr.heap.size) (fun p _ => 4 - (intOf p).toNat)
  case atStart =>
    refine ⟨⟨0, by omega, rfl, abides_below hJ Hhj1.out (by repeat (first | exact Below.refl _ _ | (refine bl_setCell ?_ _ _ ?_; rotate_left; focus (first | omega | (simp; done) | (simp; omega))) | refine bl_alloc ?_ _ | refine bl_step ?_ (by assumption) | refine bl_drew ?_ | refine bl_drewN ?_ _)), by rw [HhC.out]; exact heap_alloc_off Hz1.out _, heap_alloc_off Hz2.out _, heap_alloc_at' _ _ rfl⟩, by simp⟩
  case round =>
    obtain ⟨⟨k, hk, rfl, hJs, y1, y2, y3⟩, hlt⟩ := hrel
    have y1c := cells_of y1
    have y2c := cells_of y2
    have y3c := cells_of y3
    have y1l := lt_of_heap y1
    have y2l := lt_of_heap y2
    have xlt : (x : Int) < wI := by have := Nat.mod_lt c Hh0.out; rw [Hhx.out] at this; have := HhwI.out; omega
    have ylt : (y : Int) < hI' := by
      have := Nat.div_lt_of_lt_mul Hhc.out; rw [Hhy.out] at this; have := HhhI.out; omega
    rw [HhC.out] at y1 y1c
    have HJ := Lib.hid hJs
    clear hJs
    have Hy1 := Lib.hid y1; clear y1; have Hy2 := Lib.hid y2; clear y2; have Hy3 := Lib.hid y3; clear y3
    have hk5 : k = 0 ∨ k = 1 ∨ k = 2 ∨ k = 3 ∨ k = 4 := by omega
    rcases hk5 with rfl | rfl | rfl | rfl | rfl
    · have hnb : nbTo wd ht c (0 + 1) = nbTo wd ht c 0 ++ nbI wd ht c 0 := rfl
      by_cases hA : (x : Int) + 1 < wI
      · obtain ⟨D, hD⟩ : ∃ D : Int, ((c + 1 : Nat) : Int) = D := ⟨_, rfl⟩
        have hmul := mul_of HhwI.out HhC.out Hhx.out Hhy.out
        have hd : wrap64 (wrap64 ((y : Int) * wI) + ((x : Int) + 1)) = D := by
          have e1 : wrap64 ((y : Int) * wI) = (y : Int) * wI := w64 _ (by omega) (by omega)
          have := HhC.out
          rw [e1]
          rw [w64 ((y : Int) * wI + ((x : Int) + 1)) (by omega) (by omega)]; omega
        have hnx : nbI wd ht c 0 = [c + 1] := by
          simp only [nbI, Hhx.out]
          rw [if_pos (by have := HhwI.out; have := HhhI.out; omega)]
        rw [hnx] at hnb
        clear hmul
        have Hhnb := Lib.hid hnb; clear hnb; have Hhnx := Lib.hid hnx; clear hnx; have HhD := Lib.hid hD; clear hD
        gi_wp2_with fail
        refine wpIn_wide.2 ?_
        go_quiet (fail)
        rename_i hK
        refine hK _ _ ?_
        clear hK
        have hI2 : Below wr.heap.size wr ((wr.alloc (.cells #[.int .i64 1, .int .i64 0] 162)).drewN nq) := (by repeat (first | exact Below.refl _ _ | (refine bl_setCell ?_ _ _ ?_; rotate_left; focus (first | omega | (simp; done) | (simp; omega))) | refine bl_alloc ?_ _ | refine bl_step ?_ (by assumption) | refine bl_drew ?_ | refine bl_drewN ?_ _))
        generalize ((wr.alloc (.cells #[.int .i64 1, .int .i64 0] 162)).drewN nq) = W1 at hI2 ⊢
        obtain ⟨g2, _, _⟩ := bk b2 hI2 y2l
        have v1 := heap_below hI2 Hy1.out
        have v2 := heap_below hI2 Hy2.out
        have v3 := heap_below hI2 Hy3.out
        obtain ⟨fn, tmps, assign, body, hy, hR⟩ := hY (nbTo wd ht c 0) (c + 1) W1 (abides_below hJ HJ.out hI2) (mem_nbrs (k := 0) (by omega) (by rw [Hhnx.out]; simp)) (by have := nbTo_le wd ht c 0; omega)
        rw [HhD.out] at hy
        clear y1c y3c hY
        have Hv1 := Lib.hid v1; clear v1; have Hv2 := Lib.hid v2; clear v2; have Hv3 := Lib.hid v3; clear v3; have HhI2 := Lib.hid hI2; clear hI2
        gi_wp2_with (first
          | (refine ⟨trivial, ?_⟩; gi_at_call 67; refine (callsIn_wide.2 (in_val _ _ _ true (by simp [inB]; omega) _)).mono ?_; rintro e w' ⟨rfl, rfl⟩)
          | (refine ⟨trivial, ?_⟩; gi_at_call 67; refine (callsIn_wide.2 (in_val _ _ _ false (by simp [inB]; omega) _)).mono ?_; rintro e w' ⟨rfl, rfl⟩))
        refine hR.mono ?_
        rintro e W3 (⟨rfl, hJ3, hk3⟩ | ⟨rfl, hJx3⟩)
        · have q1 := hk3.k1.trans Hv1.out
          have q2 := hk3.k2.trans Hv2.out
          have q3 := hk3.arr _ _ Hv3.out
          have hs3 := hk3.size
          have hs2 := HhI2.out.size
          rw [← Hhnb.out] at hJ3
          rw [← HhC.out] at q1
          clear hy hR
          have HhJ3 := Lib.hid hJ3; clear hJ3; have Hq1 := Lib.hid q1; clear q1; have Hq2 := Lib.hid q2; clear q2; have Hq3 := Lib.hid q3; clear q3; have Hhk3 := Lib.hid hk3; clear hk3
          gi_wp2
          refine ⟨⟨⟨0 + 1, by omega, by go_num, HhJ3.out, Hq1.out, Hq2.out, Hq3.out⟩, by omega⟩, by simp [intOf]⟩
        · clear hy hR
          gi_wp2
          refine bodyPost_ret (results_none rfl _ _ _) rfl ?_
          exact ⟨⟨_, rfl⟩, .inr ⟨_, trivial, hJx3⟩⟩
      · have hnx : nbI wd ht c 0 = [] := by
          simp only [nbI, Hhx.out]
          rw [if_neg (by have := HhwI.out; have := HhhI.out; omega)]
        rw [hnx, List.append_nil] at hnb
        have hJ4 := HJ.out
        rw [← hnb] at hJ4
        clear hnb
        have HhJ4 := Lib.hid hJ4; clear hJ4; have Hhnx := Lib.hid hnx; clear hnx
        gi_wp2_with fail
        refine wpIn_wide.2 ?_
        go_quiet (fail)
        rename_i hK
        refine hK _ _ ?_
        clear hK
        have hI2 : Below wr.heap.size wr ((wr.alloc (.cells #[.int .i64 1, .int .i64 0] 162)).drewN nq) := (by repeat (first | exact Below.refl _ _ | (refine bl_setCell ?_ _ _ ?_; rotate_left; focus (first | omega | (simp; done) | (simp; omega))) | refine bl_alloc ?_ _ | refine bl_step ?_ (by assumption) | refine bl_drew ?_ | refine bl_drewN ?_ _))
        generalize ((wr.alloc (.cells #[.int .i64 1, .int .i64 0] 162)).drewN nq) = W1 at hI2 ⊢
        obtain ⟨g2, _, _⟩ := bk b2 hI2 y2l
        have v1 := heap_below hI2 Hy1.out
        have v2 := heap_below hI2 Hy2.out
        have v3 := heap_below hI2 Hy3.out
        have v4 := abides_below hJ HhJ4.out hI2
        have hs2 := hI2.size
        rw [← HhC.out] at v1
        clear y1c y3c hY
        have Hv1 := Lib.hid v1; clear v1; have Hv2 := Lib.hid v2; clear v2; have Hv3 := Lib.hid v3; clear v3; have Hv4 := Lib.hid v4; clear v4; have HhI2 := Lib.hid hI2; clear hI2
        gi_wp2_with fail
        refine ⟨trivial, ?_⟩
        refine (callsIn_wide.2 (in_val _ _ _ false (by simp [inB]; omega) _)).mono ?_
        rintro e w' ⟨rfl, rfl⟩
        gi_wp2_with fail
        refine ⟨trivial, ?_⟩
        gi_wp2_with fail
        refine ⟨fun _ h => (by cases h), ?_⟩
        gi_wp2_with fail
        exact ⟨⟨⟨0 + 1, by omega, by go_num, Hv4.out, Hv1.out, Hv2.out, Hv3.out⟩, by omega⟩, by first | (simp [intOf]; done) | (simp [intOf]; decide) | decide⟩
    · have hnb : nbTo wd ht c (1 + 1) = nbTo wd ht c 1 ++ nbI wd ht c 1 := rfl
      by_cases hA : (y : Int) + 1 < hI'
      · obtain ⟨D, hD⟩ : ∃ D : Int, ((c + wd : Nat) : Int) = D := ⟨_, rfl⟩
        have hmul := mul_of HhwI.out HhC.out Hhx.out Hhy.out
        have hd : wrap64 (wrap64 (((y : Int) + 1) * wI) + (x : Int)) = D := by
          have e1 : wrap64 ((y : Int) * wI) = (y : Int) * wI := w64 _ (by omega) (by omega)
          have e2 : ((y : Int) + 1) * wI = (y : Int) * wI + wI := by rw [Int.add_mul, Int.one_mul]
          have := HhwI.out
          rw [e2]
          rw [w64 ((y : Int) * wI + wI) (by omega) (by omega)]
          have := HhC.out
          rw [w64 ((y : Int) * wI + wI + (x : Int)) (by omega) (by omega)]; omega
        have hnx : nbI wd ht c 1 = [c + wd] := by
          simp only [nbI, Hhy.out]
          rw [if_pos (by have := HhwI.out; have := HhhI.out; omega)]
        rw [hnx] at hnb
        clear hmul
        have Hhnb := Lib.hid hnb; clear hnb; have Hhnx := Lib.hid hnx; clear hnx; have HhD := Lib.hid hD; clear hD
        gi_wp2_with fail
        refine wpIn_wide.2 ?_
        go_quiet (fail)
        rename_i hK
        refine hK _ _ ?_
        clear hK
        have hI2 : Below wr.heap.size wr ((wr.alloc (.cells #[.int .i64 0, .int .i64 1] 162)).drewN nq) := (by repeat (first | exact Below.refl _ _ | (refine bl_setCell ?_ _ _ ?_; rotate_left; focus (first | omega | (simp; done) | (simp; omega))) | refine bl_alloc ?_ _ | refine bl_step ?_ (by assumption) | refine bl_drew ?_ | refine bl_drewN ?_ _))
        generalize ((wr.alloc (.cells #[.int .i64 0, .int .i64 1] 162)).drewN nq) = W1 at hI2 ⊢
        obtain ⟨g2, _, _⟩ := bk b2 hI2 y2l
        have v1 := heap_below hI2 Hy1.out
        have v2 := heap_below hI2 Hy2.out
        have v3 := heap_below hI2 Hy3.out
        obtain ⟨fn, tmps, assign, body, hy, hR⟩ := hY (nbTo wd ht c 1) (c + wd) W1 (abides_below hJ HJ.out hI2) (mem_nbrs (k := 1) (by omega) (by rw [Hhnx.out]; simp)) (by have := nbTo_le wd ht c 1; omega)
        rw [HhD.out] at hy
        clear y1c y3c hY
        have Hv1 := Lib.hid v1; clear v1; have Hv2 := Lib.hid v2; clear v2; have Hv3 := Lib.hid v3; clear v3; have HhI2 := Lib.hid hI2; clear hI2
        gi_wp2_with (first
          | (refine ⟨trivial, ?_⟩; gi_at_call 67; refine (callsIn_wide.2 (in_val _ _ _ true (by simp [inB]; omega) _)).mono ?_; rintro e w' ⟨rfl, rfl⟩)
          | (refine ⟨trivial, ?_⟩; gi_at_call 67; refine (callsIn_wide.2 (in_val _ _ _ false (by simp [inB]; omega) _)).mono ?_; rintro e w' ⟨rfl, rfl⟩))
        refine hR.mono ?_
        rintro e W3 (⟨rfl, hJ3, hk3⟩ | ⟨rfl, hJx3⟩)
        · have q1 := hk3.k1.trans Hv1.out
          have q2 := hk3.k2.trans Hv2.out
          have q3 := hk3.arr _ _ Hv3.out
          have hs3 := hk3.size
          have hs2 := HhI2.out.size
          rw [← Hhnb.out] at hJ3
          rw [← HhC.out] at q1
          clear hy hR
          have HhJ3 := Lib.hid hJ3; clear hJ3; have Hq1 := Lib.hid q1; clear q1; have Hq2 := Lib.hid q2; clear q2; have Hq3 := Lib.hid q3; clear q3; have Hhk3 := Lib.hid hk3; clear hk3
          gi_wp2
          refine ⟨⟨⟨1 + 1, by omega, by go_num, HhJ3.out, Hq1.out, Hq2.out, Hq3.out⟩, by omega⟩, by simp [intOf]⟩
        · clear hy hR
          gi_wp2
          refine bodyPost_ret (results_none rfl _ _ _) rfl ?_
          exact ⟨⟨_, rfl⟩, .inr ⟨_, trivial, hJx3⟩⟩
      · have hnx : nbI wd ht c 1 = [] := by
          simp only [nbI, Hhy.out]
          rw [if_neg (by have := HhwI.out; have := HhhI.out; omega)]
        rw [hnx, List.append_nil] at hnb
        have hJ4 := HJ.out
        rw [← hnb] at hJ4
        clear hnb
        have HhJ4 := Lib.hid hJ4; clear hJ4; have Hhnx := Lib.hid hnx; clear hnx
        gi_wp2_with fail
        refine wpIn_wide.2 ?_
        go_quiet (fail)
        rename_i hK
        refine hK _ _ ?_
        clear hK
        have hI2 : Below wr.heap.size wr ((wr.alloc (.cells #[.int .i64 0, .int .i64 1] 162)).drewN nq) := (by repeat (first | exact Below.refl _ _ | (refine bl_setCell ?_ _ _ ?_; rotate_left; focus (first | omega | (simp; done) | (simp; omega))) | refine bl_alloc ?_ _ | refine bl_step ?_ (by assumption) | refine bl_drew ?_ | refine bl_drewN ?_ _))
        generalize ((wr.alloc (.cells #[.int .i64 0, .int .i64 1] 162)).drewN nq) = W1 at hI2 ⊢
        obtain ⟨g2, _, _⟩ := bk b2 hI2 y2l
        have v1 := heap_below hI2 Hy1.out
        have v2 := heap_below hI2 Hy2.out
        have v3 := heap_below hI2 Hy3.out
        have v4 := abides_below hJ HhJ4.out hI2
        have hs2 := hI2.size
        rw [← HhC.out] at v1
        clear y1c y3c hY
        have Hv1 := Lib.hid v1; clear v1; have Hv2 := Lib.hid v2; clear v2; have Hv3 := Lib.hid v3; clear v3; have Hv4 := Lib.hid v4; clear v4; have HhI2 := Lib.hid hI2; clear hI2
        gi_wp2_with fail
        refine ⟨trivial, ?_⟩
        refine (callsIn_wide.2 (in_val _ _ _ true (by simp [inB]; omega) _)).mono ?_
        rintro e w' ⟨rfl, rfl⟩
        gi_wp2_with fail
        refine ⟨trivial, ?_⟩
        refine (callsIn_wide.2 (in_val _ _ _ false (by simp [inB]; omega) _)).mono ?_
        rintro e w' ⟨rfl, rfl⟩
        gi_wp2_with fail
        refine ⟨fun _ h => (by cases h), ?_⟩
        gi_wp2_with fail
        exact ⟨⟨⟨1 + 1, by omega, by go_num, Hv4.out, Hv1.out, Hv2.out, Hv3.out⟩, by omega⟩, by first | (simp [intOf]; done) | (simp [intOf]; decide) | decide⟩
    · have hnb : nbTo wd ht c (2 + 1) = nbTo wd ht c 2 ++ nbI wd ht c 2 := rfl
      by_cases hA : 0 < (x : Int)
      · obtain ⟨D, hD⟩ : ∃ D : Int, ((c - 1 : Nat) : Int) = D := ⟨_, rfl⟩
        have hmul := mul_of HhwI.out HhC.out Hhx.out Hhy.out
        have hd : wrap64 (wrap64 ((y : Int) * wI) + ((x : Int) + -1)) = D := by
          have e1 : wrap64 ((y : Int) * wI) = (y : Int) * wI := w64 _ (by omega) (by omega)
          have := HhC.out
          rw [e1]
          rw [w64 ((y : Int) * wI + ((x : Int) + -1)) (by omega) (by omega)]; omega
        have hnx : nbI wd ht c 2 = [c - 1] := by
          simp only [nbI, Hhx.out]
          rw [if_pos (by have := HhwI.out; have := HhhI.out; omega)]
        rw [hnx] at hnb
        clear hmul
        have Hhnb := Lib.hid hnb; clear hnb; have Hhnx := Lib.hid hnx; clear hnx; have HhD := Lib.hid hD; clear hD
        gi_wp2_with fail
        refine wpIn_wide.2 ?_
        go_quiet (fail)
        rename_i hK
        refine hK _ _ ?_
        clear hK
        have hI2 : Below wr.heap.size wr ((wr.alloc (.cells #[.int .i64 (-1), .int .i64 0] 162)).drewN nq) := (by repeat (first | exact Below.refl _ _ | (refine bl_setCell ?_ _ _ ?_; rotate_left; focus (first | omega | (simp; done) | (simp; omega))) | refine bl_alloc ?_ _ | refine bl_step ?_ (by assumption) | refine bl_drew ?_ | refine bl_drewN ?_ _))
        generalize ((wr.alloc (.cells #[.int .i64 (-1), .int .i64 0] 162)).drewN nq) = W1 at hI2 ⊢
        obtain ⟨g2, _, _⟩ := bk b2 hI2 y2l
        have v1 := heap_below hI2 Hy1.out
        have v2 := heap_below hI2 Hy2.out
        have v3 := heap_below hI2 Hy3.out
        obtain ⟨fn, tmps, assign, body, hy, hR⟩ := hY (nbTo wd ht c 2) (c - 1) W1 (abides_below hJ HJ.out hI2) (mem_nbrs (k := 2) (by omega) (by rw [Hhnx.out]; simp)) (by have := nbTo_le wd ht c 2; omega)
        rw [HhD.out] at hy
        clear y1c y3c hY
        have Hv1 := Lib.hid v1; clear v1; have Hv2 := Lib.hid v2; clear v2; have Hv3 := Lib.hid v3; clear v3; have HhI2 := Lib.hid hI2; clear hI2
        gi_wp2_with (first
          | (refine ⟨trivial, ?_⟩; gi_at_call 67; refine (callsIn_wide.2 (in_val _ _ _ true (by simp [inB]; omega) _)).mono ?_; rintro e w' ⟨rfl, rfl⟩)
          | (refine ⟨trivial, ?_⟩; gi_at_call 67; refine (callsIn_wide.2 (in_val _ _ _ false (by simp [inB]; omega) _)).mono ?_; rintro e w' ⟨rfl, rfl⟩))
        refine hR.mono ?_
        rintro e W3 (⟨rfl, hJ3, hk3⟩ | ⟨rfl, hJx3⟩)
        · have q1 := hk3.k1.trans Hv1.out
          have q2 := hk3.k2.trans Hv2.out
          have q3 := hk3.arr _ _ Hv3.out
          have hs3 := hk3.size
          have hs2 := HhI2.out.size
          rw [← Hhnb.out] at hJ3
          rw [← HhC.out] at q1
          clear hy hR
          have HhJ3 := Lib.hid hJ3; clear hJ3; have Hq1 := Lib.hid q1; clear q1; have Hq2 := Lib.hid q2; clear q2; have Hq3 := Lib.hid q3; clear q3; have Hhk3 := Lib.hid hk3; clear hk3
          gi_wp2
          refine ⟨⟨⟨2 + 1, by omega, by go_num, HhJ3.out, Hq1.out, Hq2.out, Hq3.out⟩, by omega⟩, by simp [intOf]⟩
        · clear hy hR
          gi_wp2
          refine bodyPost_ret (results_none rfl _ _ _) rfl ?_
          exact ⟨⟨_, rfl⟩, .inr ⟨_, trivial, hJx3⟩⟩
      · have hnx : nbI wd ht c 2 = [] := by
          simp only [nbI, Hhx.out]
          rw [if_neg (by have := HhwI.out; have := HhhI.out; omega)]
        rw [hnx, List.append_nil] at hnb
        have hJ4 := HJ.out
        rw [← hnb] at hJ4
        clear hnb
        have HhJ4 := Lib.hid hJ4; clear hJ4; have Hhnx := Lib.hid hnx; clear hnx
        gi_wp2_with fail
        refine wpIn_wide.2 ?_
        go_quiet (fail)
        rename_i hK
        refine hK _ _ ?_
        clear hK
        have hI2 : Below wr.heap.size wr ((wr.alloc (.cells #[.int .i64 (-1), .int .i64 0] 162)).drewN nq) := (by repeat (first | exact Below.refl _ _ | (refine bl_setCell ?_ _ _ ?_; rotate_left; focus (first | omega | (simp; done) | (simp; omega))) | refine bl_alloc ?_ _ | refine bl_step ?_ (by assumption) | refine bl_drew ?_ | refine bl_drewN ?_ _))
        generalize ((wr.alloc (.cells #[.int .i64 (-1), .int .i64 0] 162)).drewN nq) = W1 at hI2 ⊢
        obtain ⟨g2, _, _⟩ := bk b2 hI2 y2l
        have v1 := heap_below hI2 Hy1.out
        have v2 := heap_below hI2 Hy2.out
        have v3 := heap_below hI2 Hy3.out
        have v4 := abides_below hJ HhJ4.out hI2
        have hs2 := hI2.size
        rw [← HhC.out] at v1
        clear y1c y3c hY
        have Hv1 := Lib.hid v1; clear v1; have Hv2 := Lib.hid v2; clear v2; have Hv3 := Lib.hid v3; clear v3; have Hv4 := Lib.hid v4; clear v4; have HhI2 := Lib.hid hI2; clear hI2
        gi_wp2_with fail
        refine ⟨trivial, ?_⟩
        refine (callsIn_wide.2 (in_val _ _ _ false (by simp [inB]; omega) _)).mono ?_
        rintro e w' ⟨rfl, rfl⟩
        gi_wp2_with fail
        refine ⟨trivial, ?_⟩
        gi_wp2_with fail
        refine ⟨fun _ h => (by cases h), ?_⟩
        gi_wp2_with fail
        exact ⟨⟨⟨2 + 1, by omega, by go_num, Hv4.out, Hv1.out, Hv2.out, Hv3.out⟩, by omega⟩, by first | (simp [intOf]; done) | (simp [intOf]; decide) | decide⟩
    · have hnb : nbTo wd ht c (3 + 1) = nbTo wd ht c 3 ++ nbI wd ht c 3 := rfl
      by_cases hA : 0 < (y : Int)
      · obtain ⟨D, hD⟩ : ∃ D : Int, ((c - wd : Nat) : Int) = D := ⟨_, rfl⟩
        have hmul := mul_of HhwI.out HhC.out Hhx.out Hhy.out
        have hd : wrap64 (wrap64 (((y : Int) + -1) * wI) + (x : Int)) = D := by
          have e1 : wrap64 ((y : Int) * wI) = (y : Int) * wI := w64 _ (by omega) (by omega)
          have e2 : ((y : Int) + -1) * wI = (y : Int) * wI - wI := by rw [Int.add_mul]; omega
          have := HhwI.out
          have := HhC.out
          have h9 : 1 * wI ≤ (y : Int) * wI := Int.mul_le_mul_of_nonneg_right (by omega) (by omega)
          rw [e2]
          rw [w64 ((y : Int) * wI - wI) (by omega) (by omega)]
          rw [w64 ((y : Int) * wI - wI + (x : Int)) (by omega) (by omega)]; omega
        have hnx : nbI wd ht c 3 = [c - wd] := by
          simp only [nbI, Hhy.out]
          rw [if_pos (by have := HhwI.out; have := HhhI.out; omega)]
        rw [hnx] at hnb
        clear hmul
        have Hhnb := Lib.hid hnb; clear hnb; have Hhnx := Lib.hid hnx; clear hnx; have HhD := Lib.hid hD; clear hD
        gi_wp2_with fail
        refine wpIn_wide.2 ?_
        go_quiet (fail)
        rename_i hK
        refine hK _ _ ?_
        clear hK
        have hI2 : Below wr.heap.size wr ((wr.alloc (.cells #[.int .i64 0, .int .i64 (-1)] 162)).drewN nq) := (by repeat (first | exact Below.refl _ _ | (refine bl_setCell ?_ _ _ ?_; rotate_left; focus (first | omega | (simp; done) | (simp; omega))) | refine bl_alloc ?_ _ | refine bl_step ?_ (by assumption) | refine bl_drew ?_ | refine bl_drewN ?_ _))
        generalize ((wr.alloc (.cells #[.int .i64 0, .int .i64 (-1)] 162)).drewN nq) = W1 at hI2 ⊢
        obtain ⟨g2, _, _⟩ := bk b2 hI2 y2l
        have v1 := heap_below hI2 Hy1.out
        have v2 := heap_below hI2 Hy2.out
        have v3 := heap_below hI2 Hy3.out
        obtain ⟨fn, tmps, assign, body, hy, hR⟩ := hY (nbTo wd ht c 3) (c - wd) W1 (abides_below hJ HJ.out hI2) (mem_nbrs (k := 3) (by omega) (by rw [Hhnx.out]; simp)) (by have := nbTo_le wd ht c 3; omega)
        rw [HhD.out] at hy
        clear y1c y3c hY
        have Hv1 := Lib.hid v1; clear v1; have Hv2 := Lib.hid v2; clear v2; have Hv3 := Lib.hid v3; clear v3; have HhI2 := Lib.hid hI2; clear hI2
        gi_wp2_with (first
          | (refine ⟨trivial, ?_⟩; gi_at_call 67; refine (callsIn_wide.2 (in_val _ _ _ true (by simp [inB]; omega) _)).mono ?_; rintro e w' ⟨rfl, rfl⟩)
          | (refine ⟨trivial, ?_⟩; gi_at_call 67; refine (callsIn_wide.2 (in_val _ _ _ false (by simp [inB]; omega) _)).mono ?_; rintro e w' ⟨rfl, rfl⟩))
        refine hR.mono ?_
        rintro e W3 (⟨rfl, hJ3, hk3⟩ | ⟨rfl, hJx3⟩)
        · have q1 := hk3.k1.trans Hv1.out
          have q2 := hk3.k2.trans Hv2.out
          have q3 := hk3.arr _ _ Hv3.out
          have hs3 := hk3.size
          have hs2 := HhI2.out.size
          rw [← Hhnb.out] at hJ3
          rw [← HhC.out] at q1
          clear hy hR
          have HhJ3 := Lib.hid hJ3; clear hJ3; have Hq1 := Lib.hid q1; clear q1; have Hq2 := Lib.hid q2; clear q2; have Hq3 := Lib.hid q3; clear q3; have Hhk3 := Lib.hid hk3; clear hk3
          gi_wp2
          refine ⟨⟨⟨3 + 1, by omega, by go_num, HhJ3.out, Hq1.out, Hq2.out, Hq3.out⟩, by omega⟩, by simp [intOf]⟩
        · clear hy hR
          gi_wp2
          refine bodyPost_ret (results_none rfl _ _ _) rfl ?_
          exact ⟨⟨_, rfl⟩, .inr ⟨_, trivial, hJx3⟩⟩
      · have hnx : nbI wd ht c 3 = [] := by
          simp only [nbI, Hhy.out]
          rw [if_neg (by have := HhwI.out; have := HhhI.out; omega)]
        rw [hnx, List.append_nil] at hnb
        have hJ4 := HJ.out
        rw [← hnb] at hJ4
        clear hnb
        have HhJ4 := Lib.hid hJ4; clear hJ4; have Hhnx := Lib.hid hnx; clear hnx
        gi_wp2_with fail
        refine wpIn_wide.2 ?_
        go_quiet (fail)
        rename_i hK
        refine hK _ _ ?_
        clear hK
        have hI2 : Below wr.heap.size wr ((wr.alloc (.cells #[.int .i64 0, .int .i64 (-1)] 162)).drewN nq) := (by repeat (first | exact Below.refl _ _ | (refine bl_setCell ?_ _ _ ?_; rotate_left; focus (first | omega | (simp; done) | (simp; omega))) | refine bl_alloc ?_ _ | refine bl_step ?_ (by assumption) | refine bl_drew ?_ | refine bl_drewN ?_ _))
        generalize ((wr.alloc (.cells #[.int .i64 0, .int .i64 (-1)] 162)).drewN nq) = W1 at hI2 ⊢
        obtain ⟨g2, _, _⟩ := bk b2 hI2 y2l
        have v1 := heap_below hI2 Hy1.out
        have v2 := heap_below hI2 Hy2.out
        have v3 := heap_below hI2 Hy3.out
        have v4 := abides_below hJ HhJ4.out hI2
        have hs2 := hI2.size
        rw [← HhC.out] at v1
        clear y1c y3c hY
        have Hv1 := Lib.hid v1; clear v1; have Hv2 := Lib.hid v2; clear v2; have Hv3 := Lib.hid v3; clear v3; have Hv4 := Lib.hid v4; clear v4; have HhI2 := Lib.hid hI2; clear hI2
        gi_wp2_with fail
        refine ⟨trivial, ?_⟩
        refine (callsIn_wide.2 (in_val _ _ _ true (by simp [inB]; omega) _)).mono ?_
        rintro e w' ⟨rfl, rfl⟩
        gi_wp2_with fail
        refine ⟨trivial, ?_⟩
        refine (callsIn_wide.2 (in_val _ _ _ false (by simp [inB]; omega) _)).mono ?_
        rintro e w' ⟨rfl, rfl⟩
        gi_wp2_with fail
        refine ⟨fun _ h => (by cases h), ?_⟩
        gi_wp2_with fail
        exact ⟨⟨⟨3 + 1, by omega, by go_num, Hv4.out, Hv1.out, Hv2.out, Hv3.out⟩, by omega⟩, by first | (simp [intOf]; done) | (simp [intOf]; decide) | decide⟩
    · rw [nbTo_4] at HJ
      have HJ4 := HJ.out
      clear hY HJ
      gi_wp2
      refine bodyPost_end (results_none rfl _ _ _) rfl ?_
      exact ⟨⟨_, rfl⟩, .inl ⟨_, rfl, HJ4⟩⟩
end Go.Proofs.Ytfbmjecikilghaa
