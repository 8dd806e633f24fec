/- A shore that is drawn: its ground, known and true, in plain lists. -/
import Derived.WalkKit
import Derived.Test.YtfbmjecikilghaaSpan
namespace Go.Proofs.Ytfbmjecikilghaa

structure ShoreL where
  wide : Int
  high : Int
  low : List Int
  more : List Int
  where_ : List Int

structure ShoreL.ok (s : ShoreL) : Prop where
  wide : 0 ≤ s.wide ∧ s.wide ≤ 255
  high : 0 ≤ s.high ∧ s.high ≤ 255
  low : ∀ x ∈ s.low, -32768 ≤ x ∧ x ≤ 32767
  more : ∀ x ∈ s.more, 0 ≤ x ∧ x ≤ 255
  where_ : ∀ x ∈ s.where_, 0 ≤ x ∧ x ≤ 255

def ShoreL.wd (s : ShoreL) : Nat := (1 + s.wide % 4).toNat
def ShoreL.ht (s : ShoreL) : Nat := (1 + s.high % 4).toNat
def ShoreL.lo (s : ShoreL) (i : Nat) : Int := if s.low = [] then 0 else (s.low.getD (i % s.low.length) 0).tmod 5000
def ShoreL.add (s : ShoreL) (i : Nat) : Int := if s.more = [] then 0 else s.more.getD (i % s.more.length) 0
def ShoreL.span (s : ShoreL) (i : Nat) : Int × Int := (s.lo i, s.lo i + s.add i)
def ShoreL.known (s : ShoreL) : List (Int × Int) := (List.range (s.wd * s.ht)).map s.span
def ShoreL.pick (s : ShoreL) (i : Nat) : Int := s.lo i + (if s.where_ = [] then 0 else s.where_.getD (i % s.where_.length) 0 % (s.add i + 1))
def ShoreL.truth (s : ShoreL) : List (Int × Int) := (List.range (s.wd * s.ht)).map fun i => (s.pick i, s.pick i)

theorem getD_mem {l : List Int} (h : l ≠ []) (i : Nat) : l.getD (i % l.length) 0 ∈ l := by
  have hl : 0 < l.length := List.length_pos_iff.2 h
  have hi := Nat.mod_lt i hl
  rw [List.getD_eq_getElem?_getD, List.getElem?_eq_getElem hi]
  exact List.getElem_mem hi
theorem tmod_bd {x : Int} : -4999 ≤ x.tmod 5000 ∧ x.tmod 5000 ≤ 4999 := by
  have h1 := Int.lt_tmod_of_pos x (show (0 : Int) < 5000 by omega)
  have h2 := Int.tmod_lt_of_pos x (show (0 : Int) < 5000 by omega)
  omega
theorem ShoreL.lo_bd (s : ShoreL) (i : Nat) : -4999 ≤ s.lo i ∧ s.lo i ≤ 4999 := by
  unfold ShoreL.lo
  split
  · omega
  · exact tmod_bd
theorem ShoreL.add_bd {s : ShoreL} (h : s.ok) (i : Nat) : 0 ≤ s.add i ∧ s.add i ≤ 255 := by
  unfold ShoreL.add
  split
  · omega
  · rename_i hn; exact h.more _ (getD_mem hn i)
theorem ShoreL.pick_bd {s : ShoreL} (h : s.ok) (i : Nat) : s.lo i ≤ s.pick i ∧ s.pick i ≤ s.lo i + s.add i := by
  have ha := s.add_bd h i
  unfold ShoreL.pick
  split
  · omega
  · have h1 := Int.emod_nonneg (s.where_.getD (i % s.where_.length) 0) (show s.add i + 1 ≠ 0 by omega)
    have h2 := Int.emod_lt_of_pos (s.where_.getD (i % s.where_.length) 0) (show 0 < s.add i + 1 by omega)
    omega
theorem ShoreL.dims {s : ShoreL} (_ : s.ok) : 1 ≤ s.wd ∧ s.wd ≤ 4 ∧ 1 ≤ s.ht ∧ s.ht ≤ 4 := by
  unfold ShoreL.wd ShoreL.ht
  omega
theorem ShoreL.dims' {s : ShoreL} (_ : s.ok) : (s.wd : Int) = 1 + s.wide % 4 ∧ (s.ht : Int) = 1 + s.high % 4 := by
  unfold ShoreL.wd ShoreL.ht
  omega
theorem range_snoc {α : Type} (f : Nat → α) (k : Nat) : (List.range (k + 1)).map f = (List.range k).map f ++ [f k] := by
  rw [List.range_succ, List.map_append]; rfl
end Go.Proofs.Ytfbmjecikilghaa
namespace Go.Proofs.Ytfbmjecikilghaa
open Go.RowKit

def KE (k : IntKind) (w : World) (b o : Nat) (n : Int) : Prop := w.cell? ⟨b, o, none⟩ = some (.int k n)
theorem ek_k (k : IntKind) (B : Nat) : EK B (KE k) := fun _ _ _ _ _ hB hb h => ek_cell hB hb h

/-- A slice that reads as a list of any length. -/
def SlW (k : IntKind) (B : Nat) (w : World) (a : Option Addr) (l : List Int) : Prop :=
  l.length ≤ 9223372036854775807 ∧ ∀ j (h : j < l.length), ∃ b off, a = some ⟨b, off, none⟩ ∧ b < B ∧ KE k w b (off + j) l[j]
theorem SlW.below {k : IntKind} {B : Nat} {w w' : World} {a : Option Addr} {l : List Int} (h : SlW k B w a l) (hB : Below B w w') : SlW k B w' a l :=
  ⟨h.1, fun j hj => let ⟨b, off, ha, hb, he⟩ := h.2 j hj; ⟨b, off, ha, hb, ek_k k B _ _ _ _ _ hB hb he⟩⟩
/-- The lists of a shore in memory. -/
structure ShoreW (B : Nat) (w : World) (s : ShoreL) (al am aw : Option Addr) : Prop where
  low : SlW .i16 B w al s.low
  more : SlW .u8 B w am s.more
  where_ : SlW .u8 B w aw s.where_
theorem ShoreW.below {B : Nat} {w w' : World} {s : ShoreL} {al am aw : Option Addr} (h : ShoreW B w s al am aw) (hb : Below B w w') : ShoreW B w' s al am aw :=
  ⟨h.low.below hb, h.more.below hb, h.where_.below hb⟩
abbrev shoreC (s : ShoreL) (al am aw : Option Addr) (cl cm cw : Nat) : Array Value := #[.int .u8 s.wide, .int .u8 s.high, .slice al s.low.length cl, .slice am s.more.length cm, .slice aw s.where_.length cw]

/-- An element at a rest. -/
theorem SlW.rest {k : IntKind} {B : Nat} {w : World} {a : Option Addr} {l : List Int} (h : SlW k B w a l) (hne : l ≠ []) (i : Nat) :
    ∃ b off, a = some ⟨b, off, none⟩ ∧ b < B ∧ w.cell? ⟨b, off + i % l.length, none⟩ = some (.int k (l.getD (i % l.length) 0)) := by
  have hl : 0 < l.length := List.length_pos_iff.2 hne
  have hi := Nat.mod_lt i hl
  obtain ⟨b, off, h1, h2, h3⟩ := h.2 (i % l.length) hi
  refine ⟨b, off, h1, h2, ?_⟩
  unfold KE at h3
  rw [h3, List.getD_eq_getElem?_getD, List.getElem?_eq_getElem hi]
  rfl

theorem row_sameS {w w' : World} {base n size : Nat} {e : TypeId} {v : Value} {xs : List Value} (h : w.ownsRow base e size v n xs) (hb : ∀ g, v.ownBlock = some g → w'.heap[g]? = w.heap[g]?) : w'.ownsRow base e size v n xs := by
  refine ⟨h.1, ?_⟩
  rcases h.2 with hn | ⟨g, cap, cur, rfl, hbg, hgg, rest⟩
  · exact .inl hn
  · exact .inr ⟨g, cap, cur, rfl, hbg, (hb g rfl).trans hgg, rest⟩
def KnownI (w : World) (s : ShoreL) (cs : Array Value) (W H : Int) (i : Value) (wr : World) : Prop :=
  ∃ (k : Nat) (v : Value), k ≤ s.wd * s.ht ∧ i = .int .i64 k ∧ wr.heap[w.heap.size]? = some (.cells cs 25 (0, 0)) ∧ wr.heap[w.heap.size + 1]? = some (.cells #[.int .i64 0, .int .i64 0, .int .i64 0, .slice none 0 0] 36 (0, 0)) ∧ wr.heap[w.heap.size + 2]? = some (.cells #[.int .i64 W, .int .i64 H, .int .i64 500, v] 36 (0, 0)) ∧
    wr.ownsRow (w.heap.size + 3) 46 2 v k (wcells ((List.range k).map s.span)) ∧ Below w.heap.size w wr ∧ w.heap.size + 3 ≤ wr.heap.size

set_option maxHeartbeats 4000000 in
set_option maxRecDepth 100000 in
theorem known_ok (B : Nat) (w : World) (s : ShoreL) (al am aw : Option Addr) (cl cm cw : Nat) (hs : s.ok) (hM : ShoreW B w s al am aw) (hB : B ≤ w.heap.size) :
    Calls Try.prog 6 #[.agg (shoreC s al am aw cl cm cw)] w fun e w' => ∃ v, e = .returned (.agg #[.int .i64 s.wd, .int .i64 s.ht, .int .i64 500, v]) ∧ w'.ownsRow w.heap.size 46 2 v (s.known).length (wcells s.known) ∧ Below w.heap.size w w' := by
  obtain ⟨d1, d2, d3, d4⟩ := s.dims hs
  obtain ⟨e1, e2⟩ := s.dims' hs
  obtain ⟨r1, hr1⟩ : ∃ r, s.wide % 4 = r := ⟨_, rfl⟩
  obtain ⟨r2, hr2⟩ : ∃ r, s.high % 4 = r := ⟨_, rfl⟩
  rw [hr1] at e1
  rw [hr2] at e2
  obtain ⟨N, hN⟩ : ∃ N : Nat, s.wd * s.ht = N := ⟨_, rfl⟩
  have hN16 : N ≤ 16 := by rw [← hN]; exact Nat.mul_le_mul d2 d4
  have hNI : (1 + r1) * (1 + r2) = (N : Int) := by rw [← e1, ← e2, ← hN]; exact_mod_cast rfl
  have hNw : wrap64 (N : Int) = N := w64 _ (by omega) (by omega)
  obtain ⟨ow0, ow1⟩ := hs.wide
  obtain ⟨oh0, oh1⟩ := hs.high
  have r10 : 0 ≤ r1 := by omega
  have r11 : r1 ≤ 3 := by omega
  have r20 : 0 ≤ r2 := by omega
  have r21 : r2 ≤ 3 := by omega
  have HM := Lib.hid hM
  have HO := Lib.hid hs
  obtain ⟨ws, hws⟩ : ∃ x, s.wide = x := ⟨_, rfl⟩
  obtain ⟨gs, hgs⟩ : ∃ x, s.high = x := ⟨_, rfl⟩
  rw [hws] at hr1 ow0 ow1
  rw [hgs] at hr2 oh0 oh1
  clear hM hs d1 d2 d3 d4
  obtain ⟨cs, hcs⟩ : ∃ cs, shoreC s al am aw cl cm cw = cs := ⟨_, rfl⟩
  have hcs' : shoreC s al am aw cl cm cw = #[.int .u8 ws, .int .u8 gs, .slice al s.low.length cl, .slice am s.more.length cm, .slice aw s.where_.length cw] := by rw [← hws, ← hgs]
  rw [hcs']
  have He1 := Lib.hid e1; clear e1; have He2 := Lib.hid e2; clear e2; have HhN := Lib.hid hN; clear hN; have Hhws := Lib.hid hws; clear hws; have Hhgs := Lib.hid hgs; clear hgs; have HhNI := Lib.hid hNI; clear hNI; have HhNw := Lib.hid hNw; clear hNw; have Hhcs := Lib.hid hcs; clear hcs; have Hhcs' := Lib.hid hcs'; clear hcs'
  go_enter Try.func6, Try.ntmps6
  go_upto_region 2 with fail
  have hNI := HhNI.out
  have hNw := HhNw.out
  obtain ⟨dw, hW⟩ : ∃ x, 1 + r1 = x := ⟨_, rfl⟩
  obtain ⟨dh, hH⟩ : ∃ x, 1 + r2 = x := ⟨_, rfl⟩
  have w1 : 1 ≤ dw := by omega
  have w4 : dw ≤ 4 := by omega
  have h1 : 1 ≤ dh := by omega
  have h4 : dh ≤ 4 := by omega
  rw [hW, hH] at hNI
  simp only [hW, hH]
  clear r10 r11 r20 r21
  have HhW := Lib.hid hW; clear hW; have HhH := Lib.hid hH; clear hH; have Hhr1 := Lib.hid hr1; clear hr1; have Hhr2 := Lib.hid hr2; clear hr2
  go_wp2_with fail
  go_loopw [22] (fun i wr => KnownI w s #[.int .u8 ws, .int .u8 gs, .slice al s.low.length cl, .slice am s.more.length cm, .slice aw s.where_.length cw] dw dh i wr) (fun i _ => N - (intOf i).toNat)
  case atStart =>
    exact ⟨0, _, Nat.zero_le _, rfl, heap_alloc_off (heap_alloc_off (heap_alloc_at' _ _ rfl) _) _, heap_alloc_off (heap_alloc_at' _ _ (by simp)) _, heap_alloc_at' _ _ (by simp), World.ownsRow_nil _ _ _ _, (by repeat (first | exact Below.refl _ _ | (refine bl_setCell ?_ _ _ ?_; rotate_left; focus (first | omega | (simp; done) | (simp; omega))) | refine bl_alloc ?_ _ | refine bl_step ?_ (by assumption) | refine bl_drew ?_ | refine bl_drewN ?_ _)), by simp⟩
  case round =>
    obtain ⟨k, v, hk, rfl, x0, x1, x2, hrow, hb, hsz⟩ := hrel
    have x0c := cells_of x0
    have x0l := lt_of_heap x0
    have hvo := fun g hg => (hrow.lt g hg).2
    have hvb := fun g hg => (hrow.lt g hg).1
    by_cases hlt : k < N
    · obtain ⟨ki, hki⟩ : ∃ i : Int, (k : Int) = i := ⟨_, rfl⟩
      have ki0 : 0 ≤ ki := by omega
      have ki1 : ki < N := by omega
      rw [hki]
      obtain ⟨L, hL⟩ : ∃ L : Int, (s.low.length : Int) = L := ⟨_, rfl⟩
      have hMr := HM.out.below (hb.mono hB)
      have Hx0 := Lib.hid x0; clear x0; have Hx1 := Lib.hid x1; clear x1; have Hx2 := Lib.hid x2; clear x2; have Hhrow := Lib.hid hrow; clear hrow; have Hhb := Lib.hid hb; clear hb; have Hhsz := Lib.hid hsz; clear hsz; have Hhki := Lib.hid hki; clear hki; have Hhk := Lib.hid hk; clear hk; have HhMr := Lib.hid hMr; clear hMr
      obtain ⟨bL, hbL⟩ : ∃ x, decide (0 < L) = x := ⟨_, rfl⟩
      go_upto_if 29 with fail
      go_cut [30] from 30 to 41 (fun _ wx => wx.heap[wr.heap.size]? = some (.cells #[.int .i64 (s.lo k), .int .i64 0] 46 (0, 0)) ∧ Below wr.heap.size wr wx)
      case first =>
        by_cases hlow : s.low = []
        · have e : s.lo k = 0 := by unfold ShoreL.lo; rw [if_pos hlow]
          have hl0 : s.low.length = 0 := by rw [hlow]; rfl
          have hd : decide (0 < L) = false := decide_eq_false (by omega)
          obtain rfl : bL = false := by rw [← hbL, hd]
          clear hlow hl0
          have He := Lib.hid e; clear e
          go_wp2_with fail
          go_meet
          rw [He.out]
          exact ⟨heap_alloc_at _ _, (by repeat (first | exact Below.refl _ _ | (refine bl_setCell ?_ _ _ ?_; rotate_left; focus (first | omega | (simp; done) | (simp; omega))) | refine bl_alloc ?_ _ | refine bl_step ?_ (by assumption) | refine bl_drew ?_ | refine bl_drewN ?_ _))⟩
        · have hll : 0 < s.low.length := List.length_pos_iff.2 hlow
          have hLb : s.low.length ≤ 9223372036854775807 := HM.out.low.1
          have L0 : 0 < L := by omega
          have L1 : ¬ L = 0 := by omega
          have L2 : L ≤ 9223372036854775807 := by omega
          have hdL : decide (0 < L) = true := by simpa using L0
          obtain rfl : bL = true := by rw [← hbL, hdL]
          obtain ⟨b, off, ha, hbB, hc⟩ := HhMr.out.low.rest hlow k
          have hbl := HO.out.low _ (getD_mem hlow k)
          obtain ⟨J, hJ⟩ : ∃ J : Int, ki % L = J := ⟨_, rfl⟩
          have hJn : k % s.low.length = J.toNat := by rw [← hJ, ← Hhki.out, ← hL]; omega
          have J0 : 0 ≤ J := by rw [← hJ]; exact Int.emod_nonneg _ L1
          have J1 : J < L := by rw [← hJ]; exact Int.emod_lt_of_pos _ L0
          obtain ⟨x, hx⟩ : ∃ x, s.low.getD (k % s.low.length) 0 = x := ⟨_, rfl⟩
          have e : s.lo k = x.tmod 5000 := by unfold ShoreL.lo; rw [if_neg hlow, hx]
          rw [hx, hJn] at hc
          rw [hx] at hbl
          obtain ⟨xl, xh⟩ := hbl
          obtain ⟨lo, hlo⟩ : ∃ lo, x.tmod 5000 = lo := ⟨_, rfl⟩
          have hlob := tmod_bd (x := x)
          rw [hlo] at hlob e
          obtain ⟨lo0, lo1⟩ := hlob
          have bl := World.block_lt_of_cell? wr _ hc
          subst ha
          have Hhlow := Lib.hid hlow; clear hlow; have Hhll := Lib.hid hll; clear hll; have HhJn := Lib.hid hJn; clear hJn; have Hhx := Lib.hid hx; clear hx; have He := Lib.hid e; clear e
          go_upto_region 7 with fail
          have z0 : (wr.alloc (.cells #[.int .i64 0, .int .i64 0] 46)).heap[wr.heap.size]? = some (.cells #[.int .i64 0, .int .i64 0] 46 (0, 0)) := heap_alloc_at _ _
          have zc : (wr.alloc (.cells #[.int .i64 0, .int .i64 0] 46)).cell? ⟨b, off + J.toNat, none⟩ = some (.int .i16 x) := (World.cell?_of_block (a := ⟨b, off + J.toNat, none⟩) (Below.heap_alloc _ _ _ bl)).trans hc
          have zs : (wr.alloc (.cells #[.int .i64 0, .int .i64 0] 46)).heap[w.heap.size]? = some (.cells #[.int .u8 ws, .int .u8 gs, .slice (some ⟨b, off, none⟩) s.low.length cl, .slice am s.more.length cm, .slice aw s.where_.length cw] 25 (0, 0)) := heap_alloc_off Hx0.out _
          have hbz : Below wr.heap.size wr (wr.alloc (.cells #[.int .i64 0, .int .i64 0] 46)) := (by repeat (first | exact Below.refl _ _ | (refine bl_setCell ?_ _ _ ?_; rotate_left; focus (first | omega | (simp; done) | (simp; omega))) | refine bl_alloc ?_ _ | refine bl_step ?_ (by assumption) | refine bl_drew ?_ | refine bl_drewN ?_ _))
          have zl : b < (wr.alloc (.cells #[.int .i64 0, .int .i64 0] 46)).heap.size := by simp; omega
          generalize (wr.alloc (.cells #[.int .i64 0, .int .i64 0] 46)) = wz at z0 zc zs hbz zl ⊢
          have zsc := cells_of zs
          have zsl := lt_of_heap zs
          have z0c := cells_of z0
          have z0f := frozen_of z0
          have z0l := lt_of_heap z0
          have hI : Below wz.heap.size wz wz.drew := (Below.refl _ _).drew
          clear x0c hc
          have Hzs := Lib.hid zs; clear zs; have Hz0 := Lib.hid z0; clear z0; have Hhbz := Lib.hid hbz; clear hbz
          refine wp_region_ord (fun W => Below wz.heap.size wz W) [] [0, 1, 2, 3, 4, 5, 6, 7, 8, 9, 10, 11] (some 12) (by kernel_rfl) (by kernel_rfl) hI ?_
          refine OrdI_snk ?_
          (apply StI_plain (w0 := wz.drew) hI rfl rfl rfl rfl; (focus (intro W hW K hK; obtain ⟨_, _⟩ := bk w.heap.size hW zsl; obtain ⟨_, _⟩ := bk b hW zl; go_step; exact hK)); (focus rfl)); (apply StI_plain (w0 := wz.drew) hI rfl rfl rfl rfl; (focus (intro W hW K hK; obtain ⟨_, _⟩ := bk w.heap.size hW zsl; obtain ⟨_, _⟩ := bk b hW zl; go_step; exact hK)); (focus rfl)); (apply StI_plain (w0 := wz.drew) hI rfl rfl rfl rfl; (focus (intro W hW K hK; obtain ⟨_, _⟩ := bk w.heap.size hW zsl; obtain ⟨_, _⟩ := bk b hW zl; go_step; exact hK)); (focus rfl)); (apply StI_plain (w0 := wz.drew) hI rfl rfl rfl rfl; (focus (intro W hW K hK; obtain ⟨_, _⟩ := bk w.heap.size hW zsl; obtain ⟨_, _⟩ := bk b hW zl; go_step; exact hK)); (focus rfl)); (apply StI_plain (w0 := wz.drew) hI rfl rfl rfl rfl; (focus (intro W hW K hK; obtain ⟨_, _⟩ := bk w.heap.size hW zsl; obtain ⟨_, _⟩ := bk b hW zl; go_step; exact hK)); (focus rfl)); (apply StI_plain (w0 := wz.drew) hI rfl rfl rfl rfl; (focus (intro W hW K hK; obtain ⟨_, _⟩ := bk w.heap.size hW zsl; obtain ⟨_, _⟩ := bk b hW zl; go_step; exact hK)); (focus rfl)); (apply StI_plain (w0 := wz.drew) hI rfl rfl rfl rfl; (focus (intro W hW K hK; obtain ⟨_, _⟩ := bk w.heap.size hW zsl; obtain ⟨_, _⟩ := bk b hW zl; go_step; exact hK)); (focus rfl)); (apply StI_plain (w0 := wz.drew) hI rfl rfl rfl rfl; (focus (intro W hW K hK; obtain ⟨_, _⟩ := bk w.heap.size hW zsl; obtain ⟨_, _⟩ := bk b hW zl; go_step; exact hK)); (focus rfl)); (apply StI_plain (w0 := wz.drew) hI rfl rfl rfl rfl; (focus (intro W hW K hK; obtain ⟨_, _⟩ := bk w.heap.size hW zsl; obtain ⟨_, _⟩ := bk b hW zl; go_step; exact hK)); (focus rfl)); (apply StI_plain (w0 := wz.drew) hI rfl rfl rfl rfl; (focus (intro W hW K hK; obtain ⟨_, _⟩ := bk w.heap.size hW zsl; obtain ⟨_, _⟩ := bk b hW zl; go_step; exact hK)); (focus rfl)); (apply StI_plain (w0 := wz.drew) hI rfl rfl rfl rfl; (focus (intro W hW K hK; obtain ⟨_, _⟩ := bk w.heap.size hW zsl; obtain ⟨_, _⟩ := bk b hW zl; go_step; exact hK)); (focus rfl)); (apply StI_plain (w0 := wz.drew) hI rfl rfl rfl rfl; (focus (intro W hW K hK; obtain ⟨_, _⟩ := bk w.heap.size hW zsl; obtain ⟨_, _⟩ := bk b hW zl; go_step; exact hK)); (focus rfl))
          (apply StI_eff rfl; go_wp2_with (first | fail))
          refine onNormal_last ?_
          go_wp2_with fail
          go_meet
          rw [He.out]
          exact ⟨(heap_setCell_at (heap_drew' Hz0.out) _).trans rfl, bl_setCell (bl_drew Hhbz.out) _ _ (Nat.le_refl _)⟩
      case rest =>
        obtain ⟨hq, hbq⟩ := hcut
        have hqc := cells_of hq
        have hqf := frozen_of hq
        have hql := lt_of_heap hq
        have y0 := heap_below hbq Hx0.out
        have y1 := heap_below hbq Hx1.out
        have y2 := heap_below hbq Hx2.out
        have hrw : wc.ownsRow (w.heap.size + 3) 46 2 v k (wcells ((List.range k).map s.span)) := Hhrow.out.kept (below_grown hbq) (by cases v.ownBlock <;> simp)
        have hbw := bl_step Hhb.out hbq
        have y0c := cells_of y0
        have y0l := lt_of_heap y0
        obtain ⟨lo, hlo⟩ : ∃ x, s.lo k = x := ⟨_, rfl⟩
        have hlob := s.lo_bd k
        rw [hlo] at hlob hq hqc
        obtain ⟨lo0, lo1⟩ := hlob
        have hMc := HhMr.out.below (hbq.mono (by have := Hhsz.out; omega))
        obtain ⟨q, hqe⟩ : ∃ q, wr.heap.size = q := ⟨_, rfl⟩
        have hsz' := Hhsz.out
        rw [hqe] at hq hqc hqf hql hsz' hvo ⊢
        have hnw : w.heap.size ≠ q := by omega
        obtain ⟨L2, hL2⟩ : ∃ L : Int, (s.more.length : Int) = L := ⟨_, rfl⟩
        obtain ⟨bM, hbM⟩ : ∃ x, decide (0 < L2) = x := ⟨_, rfl⟩
        clear Hx0 Hx1 Hx2 Hhrow Hhb hbq x0c
        have Hhq := Lib.hid hq; clear hq; have Hy0 := Lib.hid y0; clear y0; have Hy1 := Lib.hid y1; clear y1; have Hy2 := Lib.hid y2; clear y2; have Hhrw := Lib.hid hrw; clear hrw; have Hhbw := Lib.hid hbw; clear hbw; have Hhlo := Lib.hid hlo; clear hlo; have HhMc := Lib.hid hMc; clear hMc; have Hhqe := Lib.hid hqe; clear hqe
        go_upto_if 48 with fail
        go_cut [49] from 49 to 62 (fun _ wx => wx.heap[q]? = some (.cells #[.int .i64 lo, .int .i64 (lo + s.add k)] 46 (0, 0)) ∧ Below q wc wx)
        case first =>
          have m0 : (wc.setCell ⟨q, 1, none⟩ (.int .i64 lo)).heap[q]? = some (.cells #[.int .i64 lo, .int .i64 lo] 46 (0, 0)) := (heap_setCell_at Hhq.out _).trans rfl
          have m1 : Below q wc (wc.setCell ⟨q, 1, none⟩ (.int .i64 lo)) := (Below.refl _ _).setCell (p := ⟨q, 1, none⟩) (Nat.le_refl _) _
          by_cases hmore : s.more = []
          · have e : s.add k = 0 := by unfold ShoreL.add; rw [if_pos hmore]
            have hl0 : s.more.length = 0 := by rw [hmore]; rfl
            have hd : decide (0 < L2) = false := decide_eq_false (by omega)
            obtain rfl : bM = false := by rw [← hbM, hd]
            clear hmore hl0
            have He := Lib.hid e; clear e; have Hm0 := Lib.hid m0; clear m0; have Hm1 := Lib.hid m1; clear m1
            go_wp2_with fail
            go_meet
            rw [He.out, Int.add_zero]
            exact ⟨Hm0.out, Hm1.out⟩
          · have hll : 0 < s.more.length := List.length_pos_iff.2 hmore
            have hLb : s.more.length ≤ 9223372036854775807 := HM.out.more.1
            have L0 : 0 < L2 := by omega
            have L1 : ¬ L2 = 0 := by omega
            have L3 : L2 ≤ 9223372036854775807 := by omega
            have hd : decide (0 < L2) = true := decide_eq_true L0
            obtain rfl : bM = true := by rw [← hbM, hd]
            obtain ⟨b, off, ha, hbB, hc⟩ := HhMc.out.more.rest hmore k
            have hbl := HO.out.more _ (getD_mem hmore k)
            obtain ⟨J, hJ⟩ : ∃ J : Int, ki % L2 = J := ⟨_, rfl⟩
            have hJn : k % s.more.length = J.toNat := by rw [← hJ, ← Hhki.out, ← hL2]; omega
            have J0 : 0 ≤ J := by rw [← hJ]; exact Int.emod_nonneg _ L1
            have J1 : J < L2 := by rw [← hJ]; exact Int.emod_lt_of_pos _ L0
            obtain ⟨x, hx⟩ : ∃ x, s.more.getD (k % s.more.length) 0 = x := ⟨_, rfl⟩
            have e : s.add k = x := by unfold ShoreL.add; rw [if_neg hmore, hx]
            rw [hx, hJn] at hc
            rw [hx] at hbl
            obtain ⟨xl, xh⟩ := hbl
            have bl := World.block_lt_of_cell? wc _ hc
            subst ha
            have hbq : b ≠ q := by omega
            have hqb : ¬ q = b := fun e => hbq e.symm
            have zc : (wc.setCell ⟨q, 1, none⟩ (.int .i64 lo)).cell? ⟨b, off + J.toNat, none⟩ = some (.int .u8 x) := (World.cell?_of_block (a := ⟨b, off + J.toNat, none⟩) (Below.heap_setCell _ _ _ _ (fun e => hbq e))).trans hc
            have zs := heap_setCell_off (o := 1) Hy0.out (.int .i64 lo) (show q ≠ w.heap.size by omega)
            have zl : b < (wc.setCell ⟨q, 1, none⟩ (.int .i64 lo)).heap.size := by simpa using bl
            clear hqc hqf y0c hc
            have Hhmore := Lib.hid hmore; clear hmore; have Hhll := Lib.hid hll; clear hll; have HhJn := Lib.hid hJn; clear hJn; have Hhx := Lib.hid hx; clear hx; have He := Lib.hid e; clear e; have Hm0 := Lib.hid m0; clear m0; have Hm1 := Lib.hid m1; clear m1; have Hzs := Lib.hid zs; clear zs
            go_upto_region 10 with fail
            generalize (wc.setCell ⟨q, 1, none⟩ (.int .i64 lo)) = wz at Hm0 Hm1 Hzs zc zl ⊢
            have zsc := cells_of Hzs.out
            have zsl := lt_of_heap Hzs.out
            have z0c := cells_of Hm0.out
            have z0f := frozen_of Hm0.out
            have z0l := lt_of_heap Hm0.out
            have hI : Below wz.heap.size wz wz.drew := (Below.refl _ _).drew
            refine wp_region_ord (fun W => Below wz.heap.size wz W) [] [0, 1, 2, 3, 4, 5, 6, 7, 8, 9, 10, 11, 12, 13] (some 14) (by kernel_rfl) (by kernel_rfl) hI ?_
            refine OrdI_snk ?_
            (apply StI_plain (w0 := wz.drew) hI rfl rfl rfl rfl; (focus (intro W hW K hK; obtain ⟨_, _⟩ := bk w.heap.size hW zsl; obtain ⟨_, _⟩ := bk b hW zl; obtain ⟨_, _⟩ := bk q hW z0l; go_step; exact hK)); (focus rfl)); (apply StI_plain (w0 := wz.drew) hI rfl rfl rfl rfl; (focus (intro W hW K hK; obtain ⟨_, _⟩ := bk w.heap.size hW zsl; obtain ⟨_, _⟩ := bk b hW zl; obtain ⟨_, _⟩ := bk q hW z0l; go_step; exact hK)); (focus rfl)); (apply StI_plain (w0 := wz.drew) hI rfl rfl rfl rfl; (focus (intro W hW K hK; obtain ⟨_, _⟩ := bk w.heap.size hW zsl; obtain ⟨_, _⟩ := bk b hW zl; obtain ⟨_, _⟩ := bk q hW z0l; go_step; exact hK)); (focus rfl)); (apply StI_plain (w0 := wz.drew) hI rfl rfl rfl rfl; (focus (intro W hW K hK; obtain ⟨_, _⟩ := bk w.heap.size hW zsl; obtain ⟨_, _⟩ := bk b hW zl; obtain ⟨_, _⟩ := bk q hW z0l; go_step; exact hK)); (focus rfl)); (apply StI_plain (w0 := wz.drew) hI rfl rfl rfl rfl; (focus (intro W hW K hK; obtain ⟨_, _⟩ := bk w.heap.size hW zsl; obtain ⟨_, _⟩ := bk b hW zl; obtain ⟨_, _⟩ := bk q hW z0l; go_step; exact hK)); (focus rfl)); (apply StI_plain (w0 := wz.drew) hI rfl rfl rfl rfl; (focus (intro W hW K hK; obtain ⟨_, _⟩ := bk w.heap.size hW zsl; obtain ⟨_, _⟩ := bk b hW zl; obtain ⟨_, _⟩ := bk q hW z0l; go_step; exact hK)); (focus rfl)); (apply StI_plain (w0 := wz.drew) hI rfl rfl rfl rfl; (focus (intro W hW K hK; obtain ⟨_, _⟩ := bk w.heap.size hW zsl; obtain ⟨_, _⟩ := bk b hW zl; obtain ⟨_, _⟩ := bk q hW z0l; go_step; exact hK)); (focus rfl)); (apply StI_plain (w0 := wz.drew) hI rfl rfl rfl rfl; (focus (intro W hW K hK; obtain ⟨_, _⟩ := bk w.heap.size hW zsl; obtain ⟨_, _⟩ := bk b hW zl; obtain ⟨_, _⟩ := bk q hW z0l; go_step; exact hK)); (focus rfl)); (apply StI_plain (w0 := wz.drew) hI rfl rfl rfl rfl; (focus (intro W hW K hK; obtain ⟨_, _⟩ := bk w.heap.size hW zsl; obtain ⟨_, _⟩ := bk b hW zl; obtain ⟨_, _⟩ := bk q hW z0l; go_step; exact hK)); (focus rfl)); (apply StI_plain (w0 := wz.drew) hI rfl rfl rfl rfl; (focus (intro W hW K hK; obtain ⟨_, _⟩ := bk w.heap.size hW zsl; obtain ⟨_, _⟩ := bk b hW zl; obtain ⟨_, _⟩ := bk q hW z0l; go_step; exact hK)); (focus rfl)); (apply StI_plain (w0 := wz.drew) hI rfl rfl rfl rfl; (focus (intro W hW K hK; obtain ⟨_, _⟩ := bk w.heap.size hW zsl; obtain ⟨_, _⟩ := bk b hW zl; obtain ⟨_, _⟩ := bk q hW z0l; go_step; exact hK)); (focus rfl)); (apply StI_plain (w0 := wz.drew) hI rfl rfl rfl rfl; (focus (intro W hW K hK; obtain ⟨_, _⟩ := bk w.heap.size hW zsl; obtain ⟨_, _⟩ := bk b hW zl; obtain ⟨_, _⟩ := bk q hW z0l; go_step; exact hK)); (focus rfl)); (apply StI_plain (w0 := wz.drew) hI rfl rfl rfl rfl; (focus (intro W hW K hK; obtain ⟨_, _⟩ := bk w.heap.size hW zsl; obtain ⟨_, _⟩ := bk b hW zl; obtain ⟨_, _⟩ := bk q hW z0l; go_step; exact hK)); (focus rfl)); (apply StI_plain (w0 := wz.drew) hI rfl rfl rfl rfl; (focus (intro W hW K hK; obtain ⟨_, _⟩ := bk w.heap.size hW zsl; obtain ⟨_, _⟩ := bk b hW zl; obtain ⟨_, _⟩ := bk q hW z0l; go_step; exact hK)); (focus rfl))
            (apply StI_eff rfl; go_wp2_with (first | fail))
            refine onNormal_last ?_
            go_wp2_with fail
            go_meet
            rw [He.out]
            exact ⟨(heap_setCell_at (heap_drew' Hm0.out) _).trans rfl, (Hm1.out.drew).setCell (p := ⟨q, 1, none⟩) (Nat.le_refl _) _⟩
        case rest =>
          obtain ⟨hq2, hbq2⟩ := hcut
          have v0 := (hbq2.block _ (by omega)).trans Hy0.out
          have v1 := (hbq2.block _ (by omega)).trans Hy1.out
          have v2 := (hbq2.block _ (by omega)).trans Hy2.out
          have hr2 : wc.ownsRow (w.heap.size + 3) 46 2 v k (wcells ((List.range k).map s.span)) := row_sameS Hhrw.out fun g hg => hbq2.block g (hvo g hg)
          have hbw2 : Below w.heap.size w wc := Hhbw.out.trans (hbq2.mono (by omega))
          have hszc : w.heap.size + 3 ≤ wc.heap.size := by have := lt_of_heap hq2; omega
          obtain ⟨av, cv, rfl⟩ := row_len hr2
          have v2c := cells_of v2
          have v2f := frozen_of v2
          have v2l := lt_of_heap v2
          have hq2c := cells_of hq2
          have hq2l := lt_of_heap hq2
          obtain ⟨i0, hinf, hz0, hz1, hz2⟩ := info_parts info36
          have hmax : k + 1 ≤ maxLen := by unfold maxLen; omega
          obtain ⟨hi, hhi⟩ : ∃ x, lo + s.add k = x := ⟨_, rfl⟩
          rw [hhi] at hq2 hq2c
          have hnews := news2 wc (.int .i64 lo) (.int .i64 hi) 46
          have nv : ∀ b, b < w.heap.size + 3 → some b ≠ (Value.slice av k cv).ownBlock := fun b hb h => by have := hvb b h.symm; omega
          have hsn : (List.range (k + 1)).map s.span = (List.range k).map s.span ++ [(lo, hi)] := by rw [range_snoc, ← hhi, ← Hhlo.out]; rfl
          clear hbq2 Hy0 Hy1 Hy2 Hhrw Hhbw Hhq
          have Hv0 := Lib.hid v0; clear v0; have Hv1 := Lib.hid v1; clear v1; have Hv2 := Lib.hid v2; clear v2; have Hhbw2 := Lib.hid hbw2; clear hbw2; have Hhq2 := Lib.hid hq2; clear hq2; have Hhhi := Lib.hid hhi; clear hhi; have Hhsn := Lib.hid hsn; clear hsn; have Hnv := Lib.hid nv; clear nv
          go_wp2_with (at_builtin; refine wpList_append_own _ rfl _ _ 34 rfl (w.heap.size + 3) 46 i0 (.agg #[.int .i64 0, .int .i64 0]) 2 16 Try.underlying34 hinf hz0 hz1 hz2 rfl (by decide) _ _ _ rfl (hr2.alloc _) ⟨wc.heap.size, 0, none⟩ 1 1 [.int .i64 lo, .int .i64 hi] rfl rfl hnews (by simp [Value.oneCell']) (by omega) (by omega) (by simp; omega) ?_; intro v' w4 hown' hgrow _; obtain ⟨g', cap', rfl⟩ := ownsRow_succ hown'; replace hgrow : (wc.alloc (.cells #[.int .i64 lo, .int .i64 hi] 46)).grownBy w4 (Value.slice av k cv).ownBlock := hgrow; have k0 := (hgrow.block w.heap.size (by simp; omega) (Hnv.out _ (by omega))).trans (heap_alloc_off Hv0.out _); have k1 := (hgrow.block (w.heap.size + 1) (by simp; omega) (Hnv.out _ (by omega))).trans (heap_alloc_off Hv1.out _); have k2 := (hgrow.block (w.heap.size + 2) (by simp; omega) (Hnv.out _ (by omega))).trans (heap_alloc_off Hv2.out _); have hb4 : Below w.heap.size w w4 := (bl_alloc Hhbw2.out _).grown hgrow (by simp; omega) (fun k hk => by have := hvb k hk; omega); have hs4 : w.heap.size + 3 ≤ w4.heap.size := (by have := hgrow.size; simp at this; omega); have k2c := cells_of k2; have k2f := frozen_of k2; have k2l := lt_of_heap k2; clear v2c v2f hq2c hnews; have Hk0 := Lib.hid k0; clear k0; have Hk1 := Lib.hid k1; clear k1; have Hk2 := Lib.hid k2; clear k2; have Hhb4 := Lib.hid hb4; clear hb4; have Hown := Lib.hid hown'; clear hown' hgrow)
          refine ⟨⟨k + 1, _, by rw [HhN.out]; omega, by rw [← Hhki.out]; go_num, heap_setCell_off Hk0.out _ (by omega), heap_setCell_off Hk1.out _ (by omega), (heap_setCell_at Hk2.out _).trans rfl, ?_, bl_setCell Hhb4.out _ _ (by show _ ≤ w.heap.size + 2; omega), by simp; omega⟩, by simp only [intOf]; omega⟩
          rw [Hhsn.out, wcells_snoc]
          exact ownsRow_setCell_below Hown.out (by show w.heap.size + 2 < w.heap.size + 3; omega) _
    · obtain rfl : k = N := by have := HhN.out; omega
      have hkn : (List.range k).map s.span = s.known := by unfold ShoreL.known; rw [HhN.out]
      have hkl : s.known.length = k := by rw [← hkn]; simp
      rw [hkn] at hrow
      obtain ⟨av, cv, rfl⟩ := row_len hrow
      have x1c := cells_of x1
      have x1f := frozen_of x1
      have x1l := lt_of_heap x1
      have x2c := cells_of x2
      have x2l := lt_of_heap x2
      have Hx0 := Lib.hid x0; clear x0; have Hx1 := Lib.hid x1; clear x1; have Hx2 := Lib.hid x2; clear x2; have Hhrow := Lib.hid hrow; clear hrow; have Hhb := Lib.hid hb; clear hb; have Hhkn := Lib.hid hkn; clear hkn; have Hhkl := Lib.hid hkl; clear hkl; have Hhk := Lib.hid hk; clear hk
      go_wp2_with fail
      ((try simp only [Exit.inBlock, Exit.then]); refine bodyPost_ret (v := .agg #[.int .i64 dw, .int .i64 dh, .int .i64 500, .slice av k cv]) (by simp [results, Try.results6, go_sem, *]) rfl ?_)
      refine ⟨.slice av k cv, ?_, ?_, ?_⟩
      · rw [He1.out, He2.out, HhW.out, HhH.out]
      · rw [Hhkl.out]
        refine row_mono (base := w.heap.size + 3) ?_ (by omega)
        repeat (first | exact Hhrow.out | refine ownsRow_setCell_below ?_ (by first | (show w.heap.size + 1 < w.heap.size + 3; omega)) _)
      · repeat (first | exact Hhb.out | refine bl_setCell ?_ _ _ (by show _ ≤ w.heap.size + 1; omega))
end Go.Proofs.Ytfbmjecikilghaa
namespace Go.Proofs.Ytfbmjecikilghaa
open Go.RowKit

/-- The ground when k cells are in truth. -/
def ShoreL.mixed (s : ShoreL) (k : Nat) : List (Int × Int) := (List.range (s.wd * s.ht)).map fun i => if i < k then (s.pick i, s.pick i) else s.span i
theorem ShoreL.mixed_0 (s : ShoreL) : s.mixed 0 = s.known := by unfold ShoreL.mixed ShoreL.known; simp
theorem ShoreL.mixed_n (s : ShoreL) : s.mixed (s.wd * s.ht) = s.truth := by
  unfold ShoreL.mixed ShoreL.truth
  refine List.map_congr_left fun i hi => ?_
  rw [if_pos (List.mem_range.1 hi)]
theorem ShoreL.mixed_len (s : ShoreL) (k : Nat) : (s.mixed k).length = s.wd * s.ht := by simp [ShoreL.mixed]
theorem ShoreL.mixed_at (s : ShoreL) (k i : Nat) (h : i < (s.mixed k).length) : (s.mixed k)[i] = if i < k then (s.pick i, s.pick i) else s.span i := by
  simp [ShoreL.mixed]
theorem ShoreL.mixed_set (s : ShoreL) (k : Nat) : (s.mixed k).set k (s.pick k, s.pick k) = s.mixed (k + 1) := by
  refine List.ext_getElem (by simp [ShoreL.mixed]) fun i h1 h2 => ?_
  rw [List.getElem_set]
  by_cases h : k = i
  · subst h; rw [if_pos rfl, s.mixed_at, if_pos (by omega)]
  · rw [if_neg h, s.mixed_at, s.mixed_at]
    by_cases hi : i < k
    · rw [if_pos hi, if_pos (by omega)]
    · rw [if_neg hi, if_neg (by omega)]
theorem ShoreL.mixed_get (s : ShoreL) (k : Nat) (h : k < (s.mixed k).length) : (s.mixed k)[k] = (s.lo k, s.lo k + s.add k) := by
  unfold ShoreL.mixed
  simp [ShoreL.span]

def TruthI (w : World) (s : ShoreL) (cs gcs : Array Value) (N q g cap : Nat) (i : Value) (wr : World) : Prop :=
  ∃ k : Nat, k ≤ N ∧ i = .int .i64 k ∧ wr.heap[w.heap.size]? = some (.cells cs 25 (0, 0)) ∧ wr.heap[w.heap.size + 1]? = some (.cells #[.int .i64 0, .int .i64 0, .int .i64 0, .slice none 0 0] 36 (0, 0)) ∧
    wr.heap[q]? = some (.cells gcs 36 (0, 0)) ∧ wr.ownsRow (w.heap.size + 2) 46 2 (.slice (some ⟨g, 0, none⟩) N cap) N (wcells (s.mixed k)) ∧ Below w.heap.size w wr
theorem row_write {w : World} {base N g cap : Nat} {l : List (Int × Int)} (h : w.ownsRow base 46 2 (.slice (some ⟨g, 0, none⟩) N cap) N (wcells l)) {k : Nat} (hk : k < l.length) (a b : Int) :
    ((w.setCell ⟨g, k * 2, none⟩ (.int .i64 a)).setCell ⟨g, k * 2 + 1, none⟩ (.int .i64 b)).ownsRow base 46 2 (.slice (some ⟨g, 0, none⟩) N cap) N (wcells (l.set k (a, b))) := by
  obtain ⟨s1, _⟩ := h.stored (k * 2) (.int .i64 a)
  obtain ⟨s2, _⟩ := s1.stored (k * 2 + 1) (.int .i64 b)
  rw [wcells_set l k a b hk] at s2
  exact s2

set_option maxHeartbeats 4000000 in
set_option maxRecDepth 100000 in
theorem truth_ok (B : Nat) (w : World) (s : ShoreL) (al am aw : Option Addr) (cl cm cw : Nat) (hs : s.ok) (hM : ShoreW B w s al am aw) (hB : B ≤ w.heap.size) :
    Calls Try.prog 7 #[.agg (shoreC s al am aw cl cm cw)] w fun e w' => ∃ v, e = .returned (.agg #[.int .i64 s.wd, .int .i64 s.ht, .int .i64 500, v]) ∧ w'.ownsRow w.heap.size 46 2 v (s.truth).length (wcells s.truth) ∧ Below w.heap.size w w' := by
  obtain ⟨d1, d2, d3, d4⟩ := s.dims hs
  obtain ⟨N, hN⟩ : ∃ N : Nat, s.wd * s.ht = N := ⟨_, rfl⟩
  have hN16 : N ≤ 16 := by rw [← hN]; exact Nat.mul_le_mul d2 d4
  have hN1 : 1 ≤ N := by rw [← hN]; exact Nat.mul_le_mul d1 d3
  have hk := fun W (hW : Below w.heap.size w W) => known_ok B W s al am aw cl cm cw hs (hM.below (hW.mono hB)) (by have := hW.size; omega)
  have HM := Lib.hid hM
  have HO := Lib.hid hs
  have HK := Lib.hid hk
  obtain ⟨dw, hdw⟩ : ∃ x : Int, (s.wd : Int) = x := ⟨_, rfl⟩
  obtain ⟨dh, hdh⟩ : ∃ x : Int, (s.ht : Int) = x := ⟨_, rfl⟩
  clear hM hs hk d1 d2 d3 d4
  have HhN := Lib.hid hN; clear hN; have Hhdw := Lib.hid hdw; clear hdw; have Hhdh := Lib.hid hdh; clear hdh
  go_enter Try.func7, Try.ntmps7
  go_wp2_with fail
  refine (HK.out _ (by repeat (first | exact Below.refl _ _ | (refine bl_setCell ?_ _ _ ?_; rotate_left; focus (first | omega | (simp; done) | (simp; omega))) | refine bl_alloc ?_ _ | refine bl_step ?_ (by assumption) | refine bl_drew ?_ | refine bl_drewN ?_ _))).mono ?_
  rintro e w1 ⟨v, rfl, hrow, hb1⟩
  have hkl : s.known.length = N := by unfold ShoreL.known; rw [List.length_map, List.length_range, HhN.out]
  rw [hkl] at hrow
  obtain ⟨g, cap, rfl, hg1, hg2⟩ := hrow.form hN1
  rw [Hhdw.out, Hhdh.out]
  have y0 : w1.heap[w.heap.size]? = some (.cells (shoreC s al am aw cl cm cw) 25 (0, 0)) := heap_below hb1 (by repeat (first | (refine heap_alloc_at' _ _ ?_; focus (simp; done)) | refine heap_alloc_off ?_ _))
  have y1 : w1.heap[w.heap.size + 1]? = some (.cells #[.int .i64 0, .int .i64 0, .int .i64 0, .slice none 0 0] 36 (0, 0)) := heap_below hb1 (by repeat (first | (refine heap_alloc_at' _ _ ?_; focus (simp; done)) | refine heap_alloc_off ?_ _))
  have hbw := bl_step (show Below w.heap.size w _ from (by repeat (first | exact Below.refl _ _ | (refine bl_setCell ?_ _ _ ?_; rotate_left; focus (first | omega | (simp; done) | (simp; omega))) | refine bl_alloc ?_ _ | refine bl_step ?_ (by assumption) | refine bl_drew ?_ | refine bl_drewN ?_ _))) hb1
  have Hy0 := Lib.hid y0; clear y0; have Hy1 := Lib.hid y1; clear y1; have Hhrow := Lib.hid hrow; clear hrow; have Hhbw := Lib.hid hbw; clear hbw; have Hhkl := Lib.hid hkl; clear hkl
  go_wp2_with fail
  have x0 := heap_alloc_off Hy0.out (.cells #[.int .i64 dw, .int .i64 dh, .int .i64 500, .slice (some ⟨g, 0, none⟩) N cap] 36)
  have x1 := heap_alloc_off Hy1.out (.cells #[.int .i64 dw, .int .i64 dh, .int .i64 500, .slice (some ⟨g, 0, none⟩) N cap] 36)
  have x2 := heap_alloc_at w1 (.cells #[.int .i64 dw, .int .i64 dh, .int .i64 500, .slice (some ⟨g, 0, none⟩) N cap] 36)
  have xr := Hhrow.out.alloc (.cells #[.int .i64 dw, .int .i64 dh, .int .i64 500, .slice (some ⟨g, 0, none⟩) N cap] 36)
  have xb := bl_alloc Hhbw.out (.cells #[.int .i64 dw, .int .i64 dh, .int .i64 500, .slice (some ⟨g, 0, none⟩) N cap] 36)
  have hqs : w.heap.size + 2 ≤ w1.heap.size := by have := lt_of_heap Hy1.out; omega
  generalize (w1.alloc (.cells #[.int .i64 dw, .int .i64 dh, .int .i64 500, .slice (some ⟨g, 0, none⟩) N cap] 36)) = w2 at x0 x1 x2 xr xb ⊢
  generalize w1.heap.size = q at x2 hg2 hqs ⊢
  have hg3 : w.heap.size + 2 ≤ g := by simpa using hg1
  clear Hy0 Hy1 Hhrow Hhbw
  have Hx0 := Lib.hid x0; clear x0; have Hx1 := Lib.hid x1; clear x1; have Hx2 := Lib.hid x2; clear x2; have Hxr := Lib.hid xr; clear xr; have Hxb := Lib.hid xb; clear xb; have Hhg1 := Lib.hid hg1; clear hg1
  go_loopw [12] (fun i wr => TruthI w s (shoreC s al am aw cl cm cw) #[.int .i64 dw, .int .i64 dh, .int .i64 500, .slice (some ⟨g, 0, none⟩) N cap] N q g cap i wr) (fun i _ => N - (intOf i).toNat)
  case atStart =>
    refine ⟨0, Nat.zero_le _, rfl, Hx0.out, Hx1.out, Hx2.out, ?_, Hxb.out⟩
    rw [s.mixed_0]
    exact row_mono Hxr.out (by simp)
  case round =>
    obtain ⟨k, hk, rfl, x0, x1, x2, hrow, hb⟩ := hrel
    by_cases hlt : k < N
    · have kl : k < (s.mixed k).length := by rw [s.mixed_len, HhN.out]; exact hlt
      have hget := s.mixed_get k kl
      have hset := s.mixed_set k
      have f1 := (hrow.cellAt (k * 2) (by omega)).trans (wcells_get (s.mixed k) k kl).1
      have f2 := (hrow.cellAt (k * 2 + 1) (by omega)).trans (wcells_get (s.mixed k) k kl).2
      rw [hget] at f1 f2
      simp only at f1 f2
      have hgf := hrow.frozenAt
      have hgl := World.block_lt_of_cell? wr _ f1
      have hlb := s.lo_bd k
      have hab := s.add_bd HO.out k
      have hpb := s.pick_bd HO.out k
      have hpk : s.pick k = s.lo k + (if s.where_ = [] then 0 else s.where_.getD (k % s.where_.length) 0 % (s.add k + 1)) := rfl
      have hMr := HM.out.below (hb.mono hB)
      have hngq : g ≠ q := by
        have := cells_not_row x2 (by decide) hrow
        simpa [Value.ownBlock] using this
      obtain ⟨lo, hlo⟩ : ∃ x, s.lo k = x := ⟨_, rfl⟩
      obtain ⟨ad, had⟩ : ∃ x, s.add k = x := ⟨_, rfl⟩
      obtain ⟨pk, hpk'⟩ : ∃ x, s.pick k = x := ⟨_, rfl⟩
      rw [hlo, had] at f2
      rw [hlo] at f1 hlb
      rw [had] at hab
      rw [hlo, had, hpk'] at hpk
      rw [hlo, had, hpk'] at hpb
      rw [hpk'] at hset
      obtain ⟨hi, hhi⟩ : ∃ x, lo + ad = x := ⟨_, rfl⟩
      rw [hhi] at f2
      obtain ⟨ki, hki⟩ : ∃ i : Int, (k : Int) = i := ⟨_, rfl⟩
      have ki0 : 0 ≤ ki := by omega
      have ki1 : ki < N := by omega
      have hkn : k = ki.toNat := by omega
      have x0c := cells_of x0
      have x0l := lt_of_heap x0
      have x2c := cells_of x2
      have x2l := lt_of_heap x2
      obtain ⟨L, hL⟩ : ∃ L : Int, (s.where_.length : Int) = L := ⟨_, rfl⟩
      obtain ⟨bL, hbL⟩ : ∃ x, decide (0 < L) = x := ⟨_, rfl⟩
      have hsz : w.heap.size + 2 ≤ wr.heap.size := by omega
      have hngw : g ≠ w.heap.size := by omega
      rw [hkn] at f1 f2
      clear hget
      have Hx0 := Lib.hid x0; clear x0; have Hx1 := Lib.hid x1; clear x1; have Hx2 := Lib.hid x2; clear x2; have Hhrow := Lib.hid hrow; clear hrow; have Hhb := Lib.hid hb; clear hb; have Hhset := Lib.hid hset; clear hset; have Hhpk := Lib.hid hpk; clear hpk; have HhMr := Lib.hid hMr; clear hMr; have Hhlo := Lib.hid hlo; clear hlo; have Hhad := Lib.hid had; clear had; have Hhpk' := Lib.hid hpk'; clear hpk'; have Hhhi := Lib.hid hhi; clear hhi; have Hhki := Lib.hid hki; clear hki; have Hhk := Lib.hid hk; clear hk; have Hhkn := Lib.hid hkn; clear hkn; have Hkl := Lib.hid kl; clear kl
      rw [Hhki.out]
      go_upto_if 22 with fail
      go_cut [6] from 23 to 41 (fun v wx => v = .int .i64 pk ∧ Below wr.heap.size wr wx)
      case first =>
        by_cases hw : s.where_ = []
        · have e : pk = lo := by have := Hhpk.out; rw [if_pos hw] at this; omega
          have hl0 : s.where_.length = 0 := by rw [hw]; rfl
          have hd : decide (0 < L) = false := decide_eq_false (by omega)
          obtain rfl : bL = false := by rw [← hbL, hd]
          clear hw hl0
          have He := Lib.hid e; clear e
          go_wp2_with fail
          go_meet
          rw [He.out]
          exact ⟨rfl, (by repeat (first | exact Below.refl _ _ | (refine bl_setCell ?_ _ _ ?_; rotate_left; focus (first | omega | (simp; done) | (simp; omega))) | refine bl_alloc ?_ _ | refine bl_step ?_ (by assumption) | refine bl_drew ?_ | refine bl_drewN ?_ _))⟩
        · have hll : 0 < s.where_.length := List.length_pos_iff.2 hw
          have hLb : s.where_.length ≤ 9223372036854775807 := HM.out.where_.1
          have L0 : 0 < L := by omega
          have L1 : ¬ L = 0 := by omega
          have L2 : L ≤ 9223372036854775807 := by omega
          have hdL : decide (0 < L) = true := by simpa using L0
          obtain rfl : bL = true := by rw [← hbL, hdL]
          obtain ⟨b, off, ha, hbB, hc⟩ := HhMr.out.where_.rest hw k
          have hbl := HO.out.where_ _ (getD_mem hw k)
          obtain ⟨J, hJ⟩ : ∃ J : Int, ki % L = J := ⟨_, rfl⟩
          have hJn : k % s.where_.length = J.toNat := by rw [← hJ, ← Hhki.out, ← hL]; omega
          have J0 : 0 ≤ J := by rw [← hJ]; exact Int.emod_nonneg _ L1
          have J1 : J < L := by rw [← hJ]; exact Int.emod_lt_of_pos _ L0
          obtain ⟨x, hx⟩ : ∃ x, s.where_.getD (k % s.where_.length) 0 = x := ⟨_, rfl⟩
          have e : pk = lo + x % (ad + 1) := by have := Hhpk.out; rw [if_neg hw, hx] at this; exact this
          rw [hx, hJn] at hc
          rw [hx] at hbl
          obtain ⟨xl, xh⟩ := hbl
          obtain ⟨D, hD⟩ : ∃ D, ad + 1 = D := ⟨_, rfl⟩
          have hDe : hi - lo + 1 = D := by have := Hhhi.out; omega
          have D0 : 0 < D := by omega
          have D1 : ¬ D = 0 := by omega
          have D2 : D ≤ 256 := by omega
          obtain ⟨R, hR⟩ : ∃ R, x % D = R := ⟨_, rfl⟩
          have R0 : 0 ≤ R := by rw [← hR]; exact Int.emod_nonneg _ D1
          have R1 : R < D := by rw [← hR]; exact Int.emod_lt_of_pos _ D0
          rw [hD, hR] at e
          have bl := World.block_lt_of_cell? wr _ hc
          subst ha
          have z0 : (wr.alloc (.cells #[.int .i64 lo, .int .i64 hi] 46)).heap[wr.heap.size]? = some (.cells #[.int .i64 lo, .int .i64 hi] 46 (0, 0)) := heap_alloc_at _ _
          have zc : (wr.alloc (.cells #[.int .i64 lo, .int .i64 hi] 46)).cell? ⟨b, off + J.toNat, none⟩ = some (.int .u8 x) := (World.cell?_of_block (a := ⟨b, off + J.toNat, none⟩) (Below.heap_alloc _ _ _ bl)).trans hc
          have zs : (wr.alloc (.cells #[.int .i64 lo, .int .i64 hi] 46)).heap[w.heap.size]? = some (.cells #[.int .u8 s.wide, .int .u8 s.high, .slice al s.low.length cl, .slice am s.more.length cm, .slice (some ⟨b, off, none⟩) s.where_.length cw] 25 (0, 0)) := heap_alloc_off Hx0.out _
          have zl : b < (wr.alloc (.cells #[.int .i64 lo, .int .i64 hi] 46)).heap.size := by simp; omega
          have hbz : Below wr.heap.size wr (wr.alloc (.cells #[.int .i64 lo, .int .i64 hi] 46)) := (by repeat (first | exact Below.refl _ _ | (refine bl_setCell ?_ _ _ ?_; rotate_left; focus (first | omega | (simp; done) | (simp; omega))) | refine bl_alloc ?_ _ | refine bl_step ?_ (by assumption) | refine bl_drew ?_ | refine bl_drewN ?_ _))
          generalize (wr.alloc (.cells #[.int .i64 lo, .int .i64 hi] 46)) = wz at z0 zc zs zl hbz ⊢
          have zsc := cells_of zs
          have zsl := lt_of_heap zs
          have z0c := cells_of z0
          have z0l := lt_of_heap z0
          have hI : Below wz.heap.size wz wz.drew := (Below.refl _ _).drew
          clear x0c hc f1 f2 hgf x2c
          have Hzs := Lib.hid zs; clear zs; have Hz0 := Lib.hid z0; clear z0; have Hhbz := Lib.hid hbz; clear hbz; have Hhw := Lib.hid hw; clear hw; have Hhll := Lib.hid hll; clear hll; have HhJn := Lib.hid hJn; clear hJn; have Hhx := Lib.hid hx; clear hx; have He := Lib.hid e; clear e
          go_upto_region 7 with fail
          refine wp_region_ord (fun W => Below wz.heap.size wz W) [] [0, 1, 2, 3, 4, 5, 6, 7, 8, 9, 10, 11, 12, 13, 14, 15, 16, 17, 18, 19] none (by kernel_rfl) (by kernel_rfl) hI ?_
          refine OrdI_fin ?_
          (apply StI_plain (w0 := wz.drew) hI rfl rfl rfl rfl; (focus (intro W hW K hK; obtain ⟨_, _⟩ := bk w.heap.size hW zsl; obtain ⟨_, _⟩ := bk b hW zl; obtain ⟨_, _⟩ := bk wr.heap.size hW z0l; go_step; exact hK)); (focus rfl)); (apply StI_plain (w0 := wz.drew) hI rfl rfl rfl rfl; (focus (intro W hW K hK; obtain ⟨_, _⟩ := bk w.heap.size hW zsl; obtain ⟨_, _⟩ := bk b hW zl; obtain ⟨_, _⟩ := bk wr.heap.size hW z0l; go_step; exact hK)); (focus rfl)); (apply StI_plain (w0 := wz.drew) hI rfl rfl rfl rfl; (focus (intro W hW K hK; obtain ⟨_, _⟩ := bk w.heap.size hW zsl; obtain ⟨_, _⟩ := bk b hW zl; obtain ⟨_, _⟩ := bk wr.heap.size hW z0l; go_step; exact hK)); (focus rfl)); (apply StI_plain (w0 := wz.drew) hI rfl rfl rfl rfl; (focus (intro W hW K hK; obtain ⟨_, _⟩ := bk w.heap.size hW zsl; obtain ⟨_, _⟩ := bk b hW zl; obtain ⟨_, _⟩ := bk wr.heap.size hW z0l; go_step; exact hK)); (focus rfl)); (apply StI_plain (w0 := wz.drew) hI rfl rfl rfl rfl; (focus (intro W hW K hK; obtain ⟨_, _⟩ := bk w.heap.size hW zsl; obtain ⟨_, _⟩ := bk b hW zl; obtain ⟨_, _⟩ := bk wr.heap.size hW z0l; go_step; exact hK)); (focus rfl)); (apply StI_plain (w0 := wz.drew) hI rfl rfl rfl rfl; (focus (intro W hW K hK; obtain ⟨_, _⟩ := bk w.heap.size hW zsl; obtain ⟨_, _⟩ := bk b hW zl; obtain ⟨_, _⟩ := bk wr.heap.size hW z0l; go_step; exact hK)); (focus rfl)); (apply StI_plain (w0 := wz.drew) hI rfl rfl rfl rfl; (focus (intro W hW K hK; obtain ⟨_, _⟩ := bk w.heap.size hW zsl; obtain ⟨_, _⟩ := bk b hW zl; obtain ⟨_, _⟩ := bk wr.heap.size hW z0l; go_step; exact hK)); (focus rfl)); (apply StI_plain (w0 := wz.drew) hI rfl rfl rfl rfl; (focus (intro W hW K hK; obtain ⟨_, _⟩ := bk w.heap.size hW zsl; obtain ⟨_, _⟩ := bk b hW zl; obtain ⟨_, _⟩ := bk wr.heap.size hW z0l; go_step; exact hK)); (focus rfl)); (apply StI_plain (w0 := wz.drew) hI rfl rfl rfl rfl; (focus (intro W hW K hK; obtain ⟨_, _⟩ := bk w.heap.size hW zsl; obtain ⟨_, _⟩ := bk b hW zl; obtain ⟨_, _⟩ := bk wr.heap.size hW z0l; go_step; exact hK)); (focus rfl)); (apply StI_plain (w0 := wz.drew) hI rfl rfl rfl rfl; (focus (intro W hW K hK; obtain ⟨_, _⟩ := bk w.heap.size hW zsl; obtain ⟨_, _⟩ := bk b hW zl; obtain ⟨_, _⟩ := bk wr.heap.size hW z0l; go_step; exact hK)); (focus rfl)); (apply StI_plain (w0 := wz.drew) hI rfl rfl rfl rfl; (focus (intro W hW K hK; obtain ⟨_, _⟩ := bk w.heap.size hW zsl; obtain ⟨_, _⟩ := bk b hW zl; obtain ⟨_, _⟩ := bk wr.heap.size hW z0l; go_step; exact hK)); (focus rfl)); (apply StI_plain (w0 := wz.drew) hI rfl rfl rfl rfl; (focus (intro W hW K hK; obtain ⟨_, _⟩ := bk w.heap.size hW zsl; obtain ⟨_, _⟩ := bk b hW zl; obtain ⟨_, _⟩ := bk wr.heap.size hW z0l; go_step; exact hK)); (focus rfl)); (apply StI_plain (w0 := wz.drew) hI rfl rfl rfl rfl; (focus (intro W hW K hK; obtain ⟨_, _⟩ := bk w.heap.size hW zsl; obtain ⟨_, _⟩ := bk b hW zl; obtain ⟨_, _⟩ := bk wr.heap.size hW z0l; go_step; exact hK)); (focus rfl)); (apply StI_plain (w0 := wz.drew) hI rfl rfl rfl rfl; (focus (intro W hW K hK; obtain ⟨_, _⟩ := bk w.heap.size hW zsl; obtain ⟨_, _⟩ := bk b hW zl; obtain ⟨_, _⟩ := bk wr.heap.size hW z0l; go_step; exact hK)); (focus rfl)); (apply StI_plain (w0 := wz.drew) hI rfl rfl rfl rfl; (focus (intro W hW K hK; obtain ⟨_, _⟩ := bk w.heap.size hW zsl; obtain ⟨_, _⟩ := bk b hW zl; obtain ⟨_, _⟩ := bk wr.heap.size hW z0l; go_step; exact hK)); (focus rfl)); (apply StI_plain (w0 := wz.drew) hI rfl rfl rfl rfl; (focus (intro W hW K hK; obtain ⟨_, _⟩ := bk w.heap.size hW zsl; obtain ⟨_, _⟩ := bk b hW zl; obtain ⟨_, _⟩ := bk wr.heap.size hW z0l; go_step; exact hK)); (focus rfl)); (apply StI_plain (w0 := wz.drew) hI rfl rfl rfl rfl; (focus (intro W hW K hK; obtain ⟨_, _⟩ := bk w.heap.size hW zsl; obtain ⟨_, _⟩ := bk b hW zl; obtain ⟨_, _⟩ := bk wr.heap.size hW z0l; go_step; exact hK)); (focus rfl)); (apply StI_plain (w0 := wz.drew) hI rfl rfl rfl rfl; (focus (intro W hW K hK; obtain ⟨_, _⟩ := bk w.heap.size hW zsl; obtain ⟨_, _⟩ := bk b hW zl; obtain ⟨_, _⟩ := bk wr.heap.size hW z0l; go_step; exact hK)); (focus rfl)); (apply StI_plain (w0 := wz.drew) hI rfl rfl rfl rfl; (focus (intro W hW K hK; obtain ⟨_, _⟩ := bk w.heap.size hW zsl; obtain ⟨_, _⟩ := bk b hW zl; obtain ⟨_, _⟩ := bk wr.heap.size hW z0l; go_step; exact hK)); (focus rfl)); (apply StI_plain (w0 := wz.drew) hI rfl rfl rfl rfl; (focus (intro W hW K hK; obtain ⟨_, _⟩ := bk w.heap.size hW zsl; obtain ⟨_, _⟩ := bk b hW zl; obtain ⟨_, _⟩ := bk wr.heap.size hW z0l; go_step; exact hK)); (focus rfl))
          refine StI_nil ?_
          go_wp2_with fail
          go_meet
          rw [He.out]
          exact ⟨rfl, bl_drew Hhbz.out⟩
      case rest =>
        obtain ⟨rfl, hbc⟩ := hcut
        have y0 := heap_below hbc Hx0.out
        have y1 := heap_below hbc Hx1.out
        have y2 := heap_below hbc Hx2.out
        have hrc := Hhrow.out.kept (below_grown hbc) (by simp [Value.ownBlock])
        have hbw := bl_step Hhb.out hbc
        have hgc : g < wc.heap.size := by have := hbc.size; omega
        clear Hx0 Hx1 Hx2 Hhrow Hhb x0c x0l x2c x2l f1 f2 hgf
        have y2c := cells_of y2
        have y2l := lt_of_heap y2
        have Hy0 := Lib.hid y0; clear y0; have Hy1 := Lib.hid y1; clear y1; have Hy2 := Lib.hid y2; clear y2; have Hhrc := Lib.hid hrc; clear hrc; have Hhbw := Lib.hid hbw; clear hbw; have Hhbc := Lib.hid hbc; clear hbc
        go_upto_region 8 with fail
        have hI : Below wc.heap.size wc wc.drew := (Below.refl _ _).drew
        refine wp_region_ord (fun W => Below wc.heap.size wc W) [([0, 1, 2, 3, 4], 5)] [6] (some 7) (by kernel_rfl) (by kernel_rfl) hI ?_
        refine OrdI_cons ?_
        (apply StI_plain (w0 := wc.drew) hI rfl rfl rfl rfl; (focus (intro W hW K hK; obtain ⟨_, _⟩ := bk q hW y2l; go_step; exact hK)); (focus rfl)); (apply StI_plain (w0 := wc.drew) hI rfl rfl rfl rfl; (focus (intro W hW K hK; obtain ⟨_, _⟩ := bk q hW y2l; go_step; exact hK)); (focus rfl)); (apply StI_plain (w0 := wc.drew) hI rfl rfl rfl rfl; (focus (intro W hW K hK; obtain ⟨_, _⟩ := bk q hW y2l; go_step; exact hK)); (focus rfl)); (apply StI_plain (w0 := wc.drew) hI rfl rfl rfl rfl; (focus (intro W hW K hK; obtain ⟨_, _⟩ := bk q hW y2l; go_step; exact hK)); (focus rfl)); (apply StI_plain (w0 := wc.drew) hI rfl rfl rfl rfl; (focus (intro W hW K hK; obtain ⟨_, _⟩ := bk q hW y2l; go_step; exact hK)); (focus rfl))
        (apply StI_eff rfl; go_wp2_with (first | (go_at_call 8; refine (tspan_any _ _ _).mono ?_; rintro e w3 ⟨rfl, hb3⟩)))
        have hI3 : Below wc.heap.size wc w3 := below_mid hI (Nat.le_refl _) hb3
        refine onNormal_mk hI3 (OrdI_snk ?_)
        (apply StI_plain (w0 := w3) hI3 rfl rfl rfl rfl; (focus (intro W hW K hK; skip; go_step; exact hK)); (focus rfl))
        have v0 := heap_below hI3 Hy0.out
        have v1 := heap_below hI3 Hy1.out
        have v2 := heap_below hI3 Hy2.out
        have hr3 := Hhrc.out.kept (below_grown hI3) (by simp [Value.ownBlock])
        have hb3w := bl_step Hhbw.out hI3
        obtain ⟨z1, f1⟩ : ∃ z, w3.cell? ⟨g, k * 2, none⟩ = some z := ⟨_, (hr3.cellAt (k * 2) (by omega)).trans (wcells_get (s.mixed k) k Hkl.out).1⟩
        obtain ⟨z2, f2⟩ : ∃ z, w3.cell? ⟨g, k * 2 + 1, none⟩ = some z := ⟨_, (hr3.cellAt (k * 2 + 1) (by omega)).trans (wcells_get (s.mixed k) k Hkl.out).2⟩
        rw [Hhkn.out] at f1 f2
        have hgf := hr3.frozenAt
        have hw3 := row_write hr3 Hkl.out pk pk
        rw [Hhset.out] at hw3
        have Hv0 := Lib.hid v0; clear v0; have Hv1 := Lib.hid v1; clear v1; have Hv2 := Lib.hid v2; clear v2; have Hhr3 := Lib.hid hr3; clear hr3; have Hhb3w := Lib.hid hb3w; clear hb3w; have Hhw3 := Lib.hid hw3; clear hw3
        (apply StI_eff rfl; go_wp2_with (first | fail))
        refine onNormal_last ?_
        go_wp2_with fail
        rw [← Hhkn.out]
        refine ⟨⟨k + 1, hlt, by rw [← Hhki.out]; go_num, heap_setCell_off (heap_setCell_off Hv0.out _ (by show g ≠ _; omega)) _ (by show g ≠ _; omega), heap_setCell_off (heap_setCell_off Hv1.out _ (by show g ≠ _; omega)) _ (by show g ≠ _; omega), heap_setCell_off (heap_setCell_off Hv2.out _ hngq) _ hngq, Hhw3.out, bl_setCell (bl_setCell Hhb3w.out _ _ (by show _ ≤ g; omega)) _ _ (by show _ ≤ g; omega)⟩, ?_⟩
        have := Hhki.out
        simp only [intOf]
        omega
    · obtain rfl : k = N := by omega
      have e : s.mixed k = s.truth := by rw [← HhN.out]; exact s.mixed_n
      have hl : s.truth.length = k := by rw [← e, s.mixed_len, HhN.out]
      rw [e] at hrow
      have x1c := cells_of x1
      have x1f := frozen_of x1
      have x1l := lt_of_heap x1
      have x2c := cells_of x2
      have x2l := lt_of_heap x2
      clear e
      have Hx0 := Lib.hid x0; clear x0; have Hx1 := Lib.hid x1; clear x1; have Hx2 := Lib.hid x2; clear x2; have Hhrow := Lib.hid hrow; clear hrow; have Hhb := Lib.hid hb; clear hb; have Hhl := Lib.hid hl; clear hl
      go_wp2_with fail
      ((try simp only [Exit.inBlock, Exit.then]); refine bodyPost_ret (v := .agg #[.int .i64 dw, .int .i64 dh, .int .i64 500, .slice (some ⟨g, 0, none⟩) k cap]) (by simp [results, Try.results7, go_sem, *]) rfl ?_)
      refine ⟨.slice (some ⟨g, 0, none⟩) k cap, ?_, ?_, ?_⟩
      · rw [Hhdw.out, Hhdh.out]
      · rw [Hhl.out]
        refine row_mono (base := w.heap.size + 2) ?_ (by omega)
        repeat (first | exact Hhrow.out | refine ownsRow_setCell_below ?_ (by first | (show w.heap.size + 1 < w.heap.size + 2; omega)) _)
      · repeat (first | exact Hhb.out | refine bl_setCell ?_ _ _ (by show _ ≤ w.heap.size + 1; omega))
end Go.Proofs.Ytfbmjecikilghaa
