/- tide: cosines of spans of angles, angles of a part, levels. -/
import Derived.Test.YtfbmjecikilghaaSum
import Derived.Test.YtfbmjecikilghaaLevD
import Derived.Deep.RegionHeld3
namespace Go.Proofs.Ytfbmjecikilghaa
open Go.RowKit

theorem quarter_at (x lo hi : Int) (h0 : 0 ≤ x) (h9 : x ≤ 900) (hl : (qlo x.toNat : Int) = lo) (hh : (qhi x.toNat : Int) = hi) (w : World) :
    Calls Try.prog 86 #[.int .i64 x] w fun e w' => e = .returned (.agg #[.int .i64 lo, .int .i64 hi]) ∧ Below w.heap.size w w' := by
  subst hl hh
  have := quarter_any x.toNat (by omega) w
  rw [Int.toNat_of_nonneg h0] at this
  exact this

set_option maxHeartbeats 2000000 in
set_option maxRecDepth 100000 in
theorem cosine_any (a lo hi : Int) (h0 : -4000000000000000 ≤ a) (h1 : a ≤ 4000000000000000) (hlo : clo a = lo) (hhi : chi a = hi) (w : World) :
    Calls Try.prog 62 #[.int .i64 a] w fun e w' => e = .returned (.agg #[.int .i64 lo, .int .i64 hi]) ∧ Below w.heap.size w w' := by
  obtain ⟨q, hq⟩ : ∃ q, a / 3600 = q := ⟨_, rfl⟩
  obtain ⟨r, hr⟩ : ∃ r, a % 3600 = r := ⟨_, rfl⟩
  have hs : a - 3600 * q = r := by omega
  have q0 : -2000000000000 ≤ q := by omega
  have q1 : q ≤ 2000000000000 := by omega
  have r0 : 0 ≤ r := by omega
  have r1 : r < 3600 := by omega
  obtain ⟨k, hk⟩ : ∃ k, fold a = k := ⟨_, rfl⟩
  obtain ⟨m, hm⟩ : ∃ m, min r (3600 - r) = m := ⟨_, rfl⟩
  have hkr : (k : Int) = m := by unfold fold at hk; omega
  have m0 : 0 ≤ m := by omega
  have m1 : m ≤ 1800 := by omega
  unfold clo at hlo
  unfold chi at hhi
  rw [hk] at hlo hhi
  have hkk : m.toNat = k := by omega
  by_cases h9 : k ≤ 900
  · have e1 : (qlo k : Int) = lo := by rw [← hlo]; unfold halfLo; rw [if_pos h9]
    have e2 : (qhi k : Int) = hi := by rw [← hhi]; unfold halfHi; rw [if_pos h9]
    have m9 : m ≤ 900 := by omega
    have Hhq := Lib.hid hq; clear hq; have Hhr := Lib.hid hr; clear hr; have Hhk := Lib.hid hk; clear hk; have Hhkr := Lib.hid hkr; clear hkr; have Hhlo := Lib.hid hlo; clear hlo; have Hhhi := Lib.hid hhi; clear hhi; have He1 := Lib.hid e1; clear e1; have He2 := Lib.hid e2; clear e2; have Hhkk := Lib.hid hkk; clear hkk
    go_enter Try.func62, Try.ntmps62
    go_wp2_with (first
      | (go_at_call 43; refine (down_val _ _ q Hhq.out (by omega) (by omega) (by omega) (by omega) _).mono ?_; rintro e w1 ⟨rfl, hb1⟩; obtain ⟨_, _, _⟩ := bk (w.heap.size) hb1 (by (first | omega | (simp; done) | (simp; omega))); have hzhb1 := bsz hb1; try simp only [World.size_alloc] at hzhb1)
      | (go_at_call 86; refine (quarter_at _ lo hi m0 m9 (by rw [Hhkk.out]; exact He1.out) (by rw [Hhkk.out]; exact He2.out) _).mono ?_; rintro e w1 ⟨rfl, hb1⟩; obtain ⟨_, _, _⟩ := bk (w.heap.size) hb1 (by (first | omega | (simp; done) | (simp; omega))); have hzhb1 := bsz hb1; try simp only [World.size_alloc] at hzhb1))
    ((try simp only [Exit.inBlock, Exit.then]); refine bodyPost_ret (v := .agg #[.int .i64 lo, .int .i64 hi]) (by simp [results, Try.results62, go_sem, *]) rfl ?_)
    exact ⟨rfl, (by repeat (first | exact Below.refl _ _ | (refine bl_setCell ?_ _ _ ?_; rotate_left; focus (first | omega | (simp; done) | (simp; omega))) | refine bl_alloc ?_ _ | refine bl_step ?_ (by assumption) | refine bl_drew ?_ | refine bl_drewN ?_ _))⟩
  · have e1 : -(qhi (1800 - k) : Int) = lo := by rw [← hlo]; unfold halfLo; rw [if_neg h9]
    have e2 : -(qlo (1800 - k) : Int) = hi := by rw [← hhi]; unfold halfHi; rw [if_neg h9]
    have hqb := q_le (1800 - k) (by omega)
    have f1 : (qhi (1800 - k) : Int) = -lo := by omega
    have f2 : (qlo (1800 - k) : Int) = -hi := by omega
    have l1 : -100000 ≤ lo := by omega
    have l2 : lo ≤ 100000 := by omega
    have l3 : -100000 ≤ hi := by omega
    have l4 : hi ≤ 100000 := by omega
    have m8 : 900 < m := by omega
    have m9 : 1800 - m ≤ 900 := by omega
    have m7 : 0 ≤ 1800 - m := by omega
    have hk8 : (1800 - m).toNat = 1800 - k := by omega
    have Hhq := Lib.hid hq; clear hq; have Hhr := Lib.hid hr; clear hr; have Hhk := Lib.hid hk; clear hk; have Hhkr := Lib.hid hkr; clear hkr; have Hhlo := Lib.hid hlo; clear hlo; have Hhhi := Lib.hid hhi; clear hhi; have He1 := Lib.hid e1; clear e1; have He2 := Lib.hid e2; clear e2; have Hhkk := Lib.hid hkk; clear hkk; have Hhk8 := Lib.hid hk8; clear hk8; have Hhqb := Lib.hid hqb; clear hqb; have Hf1 := Lib.hid f1; clear f1; have Hf2 := Lib.hid f2; clear f2
    go_enter Try.func62, Try.ntmps62
    go_wp2_with (first
      | (go_at_call 43; refine (down_val _ _ q Hhq.out (by omega) (by omega) (by omega) (by omega) _).mono ?_; rintro e w1 ⟨rfl, hb1⟩; obtain ⟨_, _, _⟩ := bk (w.heap.size) hb1 (by (first | omega | (simp; done) | (simp; omega))); have hzhb1 := bsz hb1; try simp only [World.size_alloc] at hzhb1)
      | (go_at_call 87; refine (negative_any (-hi) (-lo) ⟨by omega, by omega⟩ ⟨by omega, by omega⟩ _).mono ?_; rintro e w1 ⟨rfl, hb1⟩; obtain ⟨_, _, _⟩ := bk (w.heap.size) hb1 (by (first | omega | (simp; done) | (simp; omega))); have hzhb1 := bsz hb1; try simp only [World.size_alloc] at hzhb1)
      | (go_at_call 86; refine (quarter_at _ (-hi) (-lo) m7 m9 (by rw [Hhk8.out]; exact Hf2.out) (by rw [Hhk8.out]; exact Hf1.out) _).mono ?_; rintro e w1 ⟨rfl, hb1⟩; obtain ⟨_, _, _⟩ := bk (w.heap.size) hb1 (by (first | omega | (simp; done) | (simp; omega))); have hzhb1 := bsz hb1; try simp only [World.size_alloc] at hzhb1))
    ((try simp only [Exit.inBlock, Exit.then]); refine bodyPost_ret (v := .agg #[.int .i64 lo, .int .i64 hi]) (by simp [results, Try.results62, go_sem, *]) rfl ?_)
    exact ⟨rfl, (by repeat (first | exact Below.refl _ _ | (refine bl_setCell ?_ _ _ ?_; rotate_left; focus (first | omega | (simp; done) | (simp; omega))) | refine bl_alloc ?_ _ | refine bl_step ?_ (by assumption) | refine bl_drew ?_ | refine bl_drewN ?_ _))⟩

set_option maxHeartbeats 2000000 in
set_option maxRecDepth 100000 in
theorem meets_any (lo hi a : Int) (v : Bool) (hv : meets lo hi a = v) (b : Nat) (w : World) (hb : w.heap[b]? = some (.cells #[.int .i64 lo, .int .i64 hi] 83 (0, 0))) (hl : -4000000000000000 ≤ lo ∧ lo ≤ 4000000000000000) (hh : -4000000000000000 ≤ hi ∧ hi ≤ 4000000000000000) (ha : 0 ≤ a) (ha' : a ≤ 3600) :
    Calls Try.prog 64 #[.int .i64 a, .pointer (some ⟨b, 0, none⟩)] w fun e w' => e = .returned (.bool v) ∧ Below w.heap.size w w' := by
  have hbc := cells_of hb
  have hbl := lt_of_heap hb
  obtain ⟨l0, l1⟩ := hl
  obtain ⟨h0, h1⟩ := hh
  obtain ⟨q1, e1⟩ : ∃ q1, (hi - a) / 3600 = q1 := ⟨_, rfl⟩
  obtain ⟨q2, e2⟩ : ∃ q2, (lo - a - 1) / 3600 = q2 := ⟨_, rfl⟩
  have hv' : decide (q2 < q1) = v := by rw [← hv, ← e1, ← e2]; rfl
  have Hhb := Lib.hid hb; clear hb; have Hhv := Lib.hid hv; clear hv; have He1 := Lib.hid e1; clear e1; have He2 := Lib.hid e2; clear e2
  go_enter Try.func64, Try.ntmps64
  go_upto_region 1 with fail
  have hI : Below w.heap.size w w.drew := (Below.refl _ _).drew
  refine wp_region_ord (fun W => Below w.heap.size w W) [([0, 1, 2, 3, 4, 6, 7, 8, 9, 10, 11], 5), ([], 12)] [13, 14] none (by kernel_rfl) (by kernel_rfl) hI ?_
  refine OrdI_cons ?_
  (apply StI_plain (w0 := w.drew) hI rfl rfl rfl rfl; (focus (intro W hW K hK; obtain ⟨_, _⟩ := bk b hW hbl; go_step; exact hK)); (focus rfl)); (apply StI_plain (w0 := w.drew) hI rfl rfl rfl rfl; (focus (intro W hW K hK; obtain ⟨_, _⟩ := bk b hW hbl; go_step; exact hK)); (focus rfl)); (apply StI_plain (w0 := w.drew) hI rfl rfl rfl rfl; (focus (intro W hW K hK; obtain ⟨_, _⟩ := bk b hW hbl; go_step; exact hK)); (focus rfl)); (apply StI_plain (w0 := w.drew) hI rfl rfl rfl rfl; (focus (intro W hW K hK; obtain ⟨_, _⟩ := bk b hW hbl; go_step; exact hK)); (focus rfl)); (apply StI_plain (w0 := w.drew) hI rfl rfl rfl rfl; (focus (intro W hW K hK; obtain ⟨_, _⟩ := bk b hW hbl; go_step; exact hK)); (focus rfl)); (apply StI_plain (w0 := w.drew) hI rfl rfl rfl rfl; (focus (intro W hW K hK; obtain ⟨_, _⟩ := bk b hW hbl; go_step; exact hK)); (focus rfl)); (apply StI_plain (w0 := w.drew) hI rfl rfl rfl rfl; (focus (intro W hW K hK; obtain ⟨_, _⟩ := bk b hW hbl; go_step; exact hK)); (focus rfl)); (apply StI_plain (w0 := w.drew) hI rfl rfl rfl rfl; (focus (intro W hW K hK; obtain ⟨_, _⟩ := bk b hW hbl; go_step; exact hK)); (focus rfl)); (apply StI_plain (w0 := w.drew) hI rfl rfl rfl rfl; (focus (intro W hW K hK; obtain ⟨_, _⟩ := bk b hW hbl; go_step; exact hK)); (focus rfl)); (apply StI_plain (w0 := w.drew) hI rfl rfl rfl rfl; (focus (intro W hW K hK; obtain ⟨_, _⟩ := bk b hW hbl; go_step; exact hK)); (focus rfl)); (apply StI_plain (w0 := w.drew) hI rfl rfl rfl rfl; (focus (intro W hW K hK; obtain ⟨_, _⟩ := bk b hW hbl; go_step; exact hK)); (focus rfl))
  (apply StI_eff rfl; go_wp2_with (first | (go_at_call 43; refine (down_val _ _ q1 He1.out (by omega) (by omega) (by omega) (by omega) _).mono ?_; rintro e w1 ⟨rfl, hb1⟩)))
  have hI1 := hI.trans hb1
  refine onNormal_mk hI1 (OrdI_cons ?_)
  (apply StI_eff rfl; go_wp2_with (first | (go_at_call 43; refine (down_val _ _ q2 He2.out (by omega) (by omega) (by omega) (by omega) _).mono ?_; rintro e w2 ⟨rfl, hb2⟩)))
  have hI2 : Below w.heap.size w w2 := bl_step hI1 hb2
  refine onNormal_mk hI2 (OrdI_fin ?_)
  (apply StI_plain (w0 := w2) hI2 rfl rfl rfl rfl; (focus (intro W hW K hK; skip; go_step; exact hK)); (focus rfl)); (apply StI_plain (w0 := w2) hI2 rfl rfl rfl rfl; (focus (intro W hW K hK; skip; go_step; exact hK)); (focus rfl))
  refine StI_nil ?_
  go_wp2_with fail
  go_ret
  exact ⟨rfl, hI2⟩
end Go.Proofs.Ytfbmjecikilghaa
namespace Go.Proofs.Ytfbmjecikilghaa
open Go.RowKit

/-- Behind the two cosines: a box with both together. -/
def CosB (w : World) (lo hi c d : Int) (v : Value) (wx : World) : Prop :=
  ∃ q, v = .pointer (some ⟨q, 0, none⟩) ∧ w.heap.size + 2 ≤ q ∧ wx.heap[q]? = some (.cells #[.int .i64 c, .int .i64 d] 83 (0, 0)) ∧
    wx.heap[w.heap.size]? = some (.cells #[.int .i64 lo, .int .i64 hi] 83 (0, 0)) ∧ wx.heap[w.heap.size + 1]? = some (.cells #[.int .i64 0, .int .i64 0] 83 (0, 0)) ∧ Below w.heap.size w wx

theorem cosB_mk {w wc W : World} {lo hi c d : Int} (_hsz : wc.heap.size = w.heap.size + 2) (x0 : wc.heap[w.heap.size]? = some (.cells #[.int .i64 lo, .int .i64 hi] 83 (0, 0))) (x1 : wc.heap[w.heap.size + 1]? = some (.cells #[.int .i64 0, .int .i64 0] 83 (0, 0)))
    (hbw : Below w.heap.size w wc) (hW : Below (w.heap.size + 2) wc W) (q : Nat) (hq : w.heap.size + 2 ≤ q) (hqc : W.heap[q]? = some (.cells #[.int .i64 c, .int .i64 d] 83 (0, 0))) : CosB w lo hi c d (.pointer (some ⟨q, 0, none⟩)) W :=
  ⟨q, rfl, hq, hqc, (hW.block _ (by omega)).trans x0, (hW.block _ (by omega)).trans x1, hbw.trans (hW.mono (by omega))⟩
theorem two_set {w : World} {q : Nat} {c d : Int} (h : w.heap[q]? = some (.cells #[.int .i64 0, .int .i64 0] 83 (0, 0))) :
    ((w.setCell ⟨q, 0, none⟩ (.int .i64 c)).setCell ⟨q, 1, none⟩ (.int .i64 d)).heap[q]? = some (.cells #[.int .i64 c, .int .i64 d] 83 (0, 0)) :=
  (heap_setCell_at ((heap_setCell_at h _).trans rfl) _).trans rfl
theorem below_set2 {n q : Nat} {a w : World} {u v : Value} (h : Below n a w) (hq : n ≤ q) : Below n a ((w.setCell ⟨q, 0, none⟩ u).setCell ⟨q, 1, none⟩ v) :=
  (h.setCell (p := ⟨q, 0, none⟩) hq _).setCell (p := ⟨q, 1, none⟩) hq _
theorem below_mid {n : Nat} {a b c : World} (h : Below n a b) (hn : n ≤ a.heap.size) (k : Below b.heap.size b c) : Below n a c := h.trans (k.mono (by have := h.size; omega))

set_option maxHeartbeats 2000000 in
set_option maxRecDepth 100000 in
theorem cosines_any (lo hi c d : Int) (hc : cosLo lo hi = c) (hd : cosHi lo hi = d) (hl : -4000000000000000 ≤ lo ∧ lo ≤ 4000000000000000) (hh : -4000000000000000 ≤ hi ∧ hi ≤ 4000000000000000) (w : World) :
    Calls Try.prog 40 #[.agg #[.int .i64 lo, .int .i64 hi]] w fun e w' => e = .returned (.agg #[.int .i64 c, .int .i64 d]) ∧ Below w.heap.size w w' := by
  obtain ⟨x0, hx0⟩ : ∃ x, clo lo = x := ⟨_, rfl⟩
  obtain ⟨x1, hx1⟩ : ∃ x, chi lo = x := ⟨_, rfl⟩
  obtain ⟨y0, hy0⟩ : ∃ x, clo hi = x := ⟨_, rfl⟩
  obtain ⟨y1, hy1⟩ : ∃ x, chi hi = x := ⟨_, rfl⟩
  obtain ⟨l0, l1⟩ := hl
  obtain ⟨h0, h1⟩ := hh
  have cl := cosine_any lo x0 x1 (by omega) (by omega) hx0 hx1
  have ch := cosine_any hi y0 y1 (by omega) (by omega) hy0 hy1
  have cj := join_any x0 x1 y0 y1
  have Hhx0 := Lib.hid hx0; clear hx0; have Hhx1 := Lib.hid hx1; clear hx1; have Hhy0 := Lib.hid hy0; clear hy0; have Hhy1 := Lib.hid hy1; clear hy1; have Hhc := Lib.hid hc; clear hc; have Hhd := Lib.hid hd; clear hd
  go_enter Try.func40, Try.ntmps40
  go_upto_region 1 with fail
  go_cut [3] from 5 to 13 (fun v wx => CosB w lo hi (min x0 y0) (max x1 y1) v wx)
  case first =>
    have hI : Below (w.heap.size + 2) ((w.alloc (.cells #[.int .i64 lo, .int .i64 hi] 83)).alloc (.cells #[.int .i64 0, .int .i64 0] 83)) ((w.alloc (.cells #[.int .i64 lo, .int .i64 hi] 83)).alloc (.cells #[.int .i64 0, .int .i64 0] 83)).drew := (Below.refl _ _).drew
    obtain ⟨wc, hwc⟩ : ∃ wc, ((w.alloc (.cells #[.int .i64 lo, .int .i64 hi] 83)).alloc (.cells #[.int .i64 0, .int .i64 0] 83)) = wc := ⟨_, rfl⟩
    have hsz : wc.heap.size = w.heap.size + 2 := by rw [← hwc]; simp
    have x0 : wc.heap[w.heap.size]? = some (.cells #[.int .i64 lo, .int .i64 hi] 83 (0, 0)) := by rw [← hwc]; exact heap_alloc_off (heap_alloc_at' _ _ rfl) _
    have x1 : wc.heap[w.heap.size + 1]? = some (.cells #[.int .i64 0, .int .i64 0] 83 (0, 0)) := by rw [← hwc]; exact heap_alloc_at' _ _ (by simp)
    have hbw : Below w.heap.size w wc := by rw [← hwc]; exact (by repeat (first | exact Below.refl _ _ | (refine bl_setCell ?_ _ _ ?_; rotate_left; focus (first | omega | (simp; done) | (simp; omega))) | refine bl_alloc ?_ _ | refine bl_step ?_ (by assumption) | refine bl_drew ?_ | refine bl_drewN ?_ _))
    rw [hwc] at hI ⊢
    have x0c := cells_of x0
    have x0l := lt_of_heap x0
    have cell0 : ∀ W, Below (w.heap.size + 2) wc W → (∀ o, W.cell? ⟨w.heap.size, o, none⟩ = #[.int .i64 lo, .int .i64 hi][o]?) := fun W hW o => (hW.cell (p := ⟨w.heap.size, o, none⟩) (by simp)).trans (x0c o)
    have hwc2 : w.heap.size + 2 ≤ wc.heap.size := by omega
    have Hhwc := Lib.hid hwc; clear hwc; have Hx0 := Lib.hid x0; clear x0; have Hx1 := Lib.hid x1; clear x1; have Hhbw := Lib.hid hbw; clear hbw; have Hhsz := Lib.hid hsz; clear hsz
    refine wp_region_ordT (fun W => Below (w.heap.size + 2) wc W) (.two [0, 1, 2, 4, 5, 6] 3 (.two [] 7 (.two [] 8 (.one [] 9 (.fin [] (some 10))) 9 (.one [] 8 (.fin [] (some 10)))) 9 (.one [] 7 (.one [] 8 (.fin [] (some 10))))) 9 (.one [] 3 (.one [] 7 (.one [] 8 (.fin [] (some 10)))))) (by kernel_rfl) (by kernel_rfl) hI ?_
    refine otTwo ?_
    (apply StI_plain (w0 := wc.drew) hI rfl rfl rfl rfl; (focus (intro W hW K hK; have := cell0 W hW; go_step; exact hK)); (focus rfl)); (apply StI_plain (w0 := wc.drew) hI rfl rfl rfl rfl; (focus (intro W hW K hK; have := cell0 W hW; go_step; exact hK)); (focus rfl)); (apply StI_plain (w0 := wc.drew) hI rfl rfl rfl rfl; (focus (intro W hW K hK; have := cell0 W hW; go_step; exact hK)); (focus rfl)); (apply StI_plain (w0 := wc.drew) hI rfl rfl rfl rfl; (focus (intro W hW K hK; have := cell0 W hW; go_step; exact hK)); (focus rfl)); (apply StI_plain (w0 := wc.drew) hI rfl rfl rfl rfl; (focus (intro W hW K hK; have := cell0 W hW; go_step; exact hK)); (focus rfl)); (apply StI_plain (w0 := wc.drew) hI rfl rfl rfl rfl; (focus (intro W hW K hK; have := cell0 W hW; go_step; exact hK)); (focus rfl))
    refine StI_nil ⟨?_, ?_⟩
    · (apply wpOp_eff rfl; go_wp2_with (first | (go_at_call 62; refine (cl _).mono ?_; rintro e w1 ⟨rfl, hb1⟩)))
      have hI1 : Below (w.heap.size + 2) wc w1 := below_mid hI hwc2 hb1
      refine otN hI1 (otTwo (StI_nil ⟨?_, ?_⟩))
      · (apply wpOp_eff rfl; go_wp2_with (first | (go_at_call 62; refine (ch _).mono ?_; rintro e w2 ⟨rfl, hb2⟩)))
        have hI2 : Below (w.heap.size + 2) wc w2 := below_mid hI1 hwc2 hb2
        refine otN hI2 (otTwo (StI_nil ⟨?_, ?_⟩))
        · (apply wpOp_eff rfl; go_wp2_with (first | (go_at_call 63; refine (cj _).mono ?_; rintro e w3 ⟨rfl, hb3⟩)))
          have hI3 : Below (w.heap.size + 2) wc w3 := below_mid hI2 hwc2 hb3
          refine otN hI3 (otOne ?_)
          (apply StI_eff rfl; go_wp2_with (first | fail))
          have hqq : w.heap.size + 2 ≤ w3.heap.size := by have := hI3.size; omega
          refine otN (hI3.alloc hqq _) (otSnkI ?_)
          (apply StI_eff rfl; go_wp2_with (first | fail))
          refine onNormal_last ?_
          go_wp2_with fail
          go_meet
          exact cosB_mk Hhsz.out Hx0.out Hx1.out Hhbw.out (hI3.alloc hqq _) _ hqq (heap_alloc_at _ _)
        · (apply wpOp_eff rfl; go_wp2_with (first | fail))
          have hqq : w.heap.size + 2 ≤ w2.heap.size := by have := hI2.size; omega
          have hIa : Below (w.heap.size + 2) wc (w2.alloc (.cells #[.int .i64 0, .int .i64 0] 83)) := hI2.alloc hqq _
          have xq := heap_alloc_at w2 (.cells #[.int .i64 0, .int .i64 0] 83)
          obtain ⟨q, hq⟩ : ∃ q, w2.heap.size = q := ⟨_, rfl⟩
          rw [hq] at xq hqq ⊢
          refine otN hIa (otOne ?_)
          (apply StI_eff rfl; go_wp2_with (first | (go_at_call 63; refine (cj _).mono ?_; rintro e w3 ⟨rfl, hb3⟩)))
          have hI3 : Below (w.heap.size + 2) wc w3 := below_mid hIa hwc2 hb3
          replace xq := heap_below hb3 xq
          refine otN hI3 (otSnkI ?_)
          have xqc := cells_of xq
          have xqf := frozen_of xq
          have xql := lt_of_heap xq
          have Hxq := Lib.hid xq; clear xq
          (apply StI_eff rfl; go_wp2_with (first | fail))
          refine onNormal_last ?_
          go_wp2_with fail
          go_meet
          exact cosB_mk Hhsz.out Hx0.out Hx1.out Hhbw.out (below_set2 hI3 hqq) _ hqq (two_set Hxq.out)
      · (apply wpOp_eff rfl; go_wp2_with (first | fail))
        have hqq : w.heap.size + 2 ≤ w1.heap.size := by have := hI1.size; omega
        have hIa : Below (w.heap.size + 2) wc (w1.alloc (.cells #[.int .i64 0, .int .i64 0] 83)) := hI1.alloc hqq _
        have xq := heap_alloc_at w1 (.cells #[.int .i64 0, .int .i64 0] 83)
        obtain ⟨q, hq⟩ : ∃ q, w1.heap.size = q := ⟨_, rfl⟩
        rw [hq] at xq hqq ⊢
        refine otN hIa (otOne ?_)
        (apply StI_eff rfl; go_wp2_with (first | (go_at_call 62; refine (ch _).mono ?_; rintro e w2 ⟨rfl, hb2⟩)))
        have hI2 : Below (w.heap.size + 2) wc w2 := below_mid hIa hwc2 hb2
        replace xq := heap_below hb2 xq
        refine otN hI2 (otOne ?_)
        (apply StI_eff rfl; go_wp2_with (first | (go_at_call 63; refine (cj _).mono ?_; rintro e w3 ⟨rfl, hb3⟩)))
        have hI3 : Below (w.heap.size + 2) wc w3 := below_mid hI2 hwc2 hb3
        replace xq := heap_below hb3 xq
        refine otN hI3 (otSnkI ?_)
        have xqc := cells_of xq
        have xqf := frozen_of xq
        have xql := lt_of_heap xq
        have Hxq := Lib.hid xq; clear xq
        (apply StI_eff rfl; go_wp2_with (first | fail))
        refine onNormal_last ?_
        go_wp2_with fail
        go_meet
        exact cosB_mk Hhsz.out Hx0.out Hx1.out Hhbw.out (below_set2 hI3 hqq) _ hqq (two_set Hxq.out)
    · (apply wpOp_eff rfl; go_wp2_with (first | fail))
      have hqq : w.heap.size + 2 ≤ wc.heap.size := hwc2
      have hIa : Below (w.heap.size + 2) wc (wc.alloc (.cells #[.int .i64 0, .int .i64 0] 83)).drew := ((Below.refl _ _).alloc hqq _).drew
      have xq : (wc.alloc (.cells #[.int .i64 0, .int .i64 0] 83)).drew.heap[wc.heap.size]? = some (.cells #[.int .i64 0, .int .i64 0] 83 (0, 0)) := heap_drew' (heap_alloc_at wc (.cells #[.int .i64 0, .int .i64 0] 83))
      obtain ⟨q, hq⟩ : ∃ q, wc.heap.size = q := ⟨_, rfl⟩
      rw [hq] at xq hqq ⊢
      refine otN hIa (otOne ?_)
      (apply StI_eff rfl; go_wp2_with (first | (go_at_call 62; refine (cl _).mono ?_; rintro e w1 ⟨rfl, hb1⟩)))
      have hI1 : Below (w.heap.size + 2) wc w1 := below_mid hIa hwc2 hb1
      replace xq := heap_below hb1 xq
      refine otN hI1 (otOne ?_)
      (apply StI_eff rfl; go_wp2_with (first | (go_at_call 62; refine (ch _).mono ?_; rintro e w2 ⟨rfl, hb2⟩)))
      have hI2 : Below (w.heap.size + 2) wc w2 := below_mid hI1 hwc2 hb2
      replace xq := heap_below hb2 xq
      refine otN hI2 (otOne ?_)
      (apply StI_eff rfl; go_wp2_with (first | (go_at_call 63; refine (cj _).mono ?_; rintro e w3 ⟨rfl, hb3⟩)))
      have hI3 : Below (w.heap.size + 2) wc w3 := below_mid hI2 hwc2 hb3
      replace xq := heap_below hb3 xq
      refine otN hI3 (otSnkI ?_)
      have xqc := cells_of xq
      have xqf := frozen_of xq
      have xql := lt_of_heap xq
      have Hxq := Lib.hid xq; clear xq
      (apply StI_eff rfl; go_wp2_with (first | fail))
      refine onNormal_last ?_
      go_wp2_with fail
      go_meet
      exact cosB_mk Hhsz.out Hx0.out Hx1.out Hhbw.out (below_set2 hI3 hqq) _ hqq (two_set Hxq.out)
  case rest =>
    obtain ⟨q, rfl, hq, xq, z0, z1, hb⟩ := hcut
    clear cl ch cj
    cases hm0 : meets lo hi 0
    · go_wp2_with fail
      refine (meets_any lo hi 0 false hm0 w.heap.size _ z0 ⟨l0, l1⟩ ⟨h0, h1⟩ (by omega) (by omega)).mono ?_
      rintro e w1 ⟨rfl, hb1⟩
      have xq1 := heap_below hb1 xq
      have z01 := heap_below hb1 z0
      have z11 := heap_below hb1 z1
      have xq1c := cells_of xq1
      have xq1f := frozen_of xq1
      have hB1 := bl_step hb hb1
      have hqn : q ≠ w.heap.size := by omega
      have hqn1 : q ≠ w.heap.size + 1 := by omega
      have Hxq1 := Lib.hid xq1; clear xq1; have Hz01 := Lib.hid z01; clear z01; have Hz11 := Lib.hid z11; clear z11; have HhB1 := Lib.hid hB1; clear hB1
      cases hm1 : meets lo hi 1800
      · have hc' : min x0 y0 = c := by rw [← Hhc.out]; simp only [cosLo, hm1, Hhx0.out, Hhy0.out]; rfl
        have hd' : max x1 y1 = d := by rw [← Hhd.out]; simp only [cosHi, hm0, Hhx1.out, Hhy1.out]; rfl
        subst hc' hd'
        go_wp2_with fail
        refine (meets_any lo hi 1800 false hm1 w.heap.size _ (Hz01.out) ⟨l0, l1⟩ ⟨h0, h1⟩ (by omega) (by omega)).mono ?_
        rintro e w2 ⟨rfl, hb2⟩
        have xq2 := heap_below hb2 (Hxq1.out)
        have z12 := heap_below hb2 (Hz11.out)
        have xq2c := cells_of xq2
        have xq2f := frozen_of xq2
        have z12c := cells_of z12
        have z12f := frozen_of z12
        have hB := bl_step (HhB1.out) hb2
        try simp only [List.setIfInBounds_toArray, List.set_cons_succ, List.set_cons_zero] at xq2c
        have Hxq2 := Lib.hid xq2; clear xq2; have Hz12 := Lib.hid z12; clear z12; have HhB := Lib.hid hB; clear hB
        go_wp2_with fail
        ((try simp only [Exit.inBlock, Exit.then]); refine bodyPost_ret (v := .agg #[.int .i64 (min x0 y0), .int .i64 (max x1 y1)]) (by simp [results, Try.results40, go_sem, *]) rfl ?_)
        exact ⟨rfl, by have := HhB.out; repeat (first | assumption | refine bl_setCell ?_ _ _ (by first | exact Nat.le_refl _ | (simp; omega) | simp))⟩
      · have hc' : -65536 = c := by rw [← Hhc.out]; simp only [cosLo, hm1, Hhx0.out, Hhy0.out]; rfl
        have hd' : max x1 y1 = d := by rw [← Hhd.out]; simp only [cosHi, hm0, Hhx1.out, Hhy1.out]; rfl
        subst hc' hd'
        go_wp2_with fail
        refine (meets_any lo hi 1800 true hm1 w.heap.size _ (Hz01.out) ⟨l0, l1⟩ ⟨h0, h1⟩ (by omega) (by omega)).mono ?_
        rintro e w2 ⟨rfl, hb2⟩
        have xq2 := heap_below hb2 (Hxq1.out)
        have z12 := heap_below hb2 (Hz11.out)
        have xq2c := cells_of xq2
        have xq2f := frozen_of xq2
        have z12c := cells_of z12
        have z12f := frozen_of z12
        have hB := bl_step (HhB1.out) hb2
        try simp only [List.setIfInBounds_toArray, List.set_cons_succ, List.set_cons_zero] at xq2c
        have Hxq2 := Lib.hid xq2; clear xq2; have Hz12 := Lib.hid z12; clear z12; have HhB := Lib.hid hB; clear hB
        go_wp2_with fail
        ((try simp only [Exit.inBlock, Exit.then]); refine bodyPost_ret (v := .agg #[.int .i64 (-65536), .int .i64 (max x1 y1)]) (by simp [results, Try.results40, go_sem, *]) rfl ?_)
        exact ⟨rfl, by have := HhB.out; repeat (first | assumption | refine bl_setCell ?_ _ _ (by first | exact Nat.le_refl _ | (simp; omega) | simp))⟩
    · go_wp2_with fail
      refine (meets_any lo hi 0 true hm0 w.heap.size _ z0 ⟨l0, l1⟩ ⟨h0, h1⟩ (by omega) (by omega)).mono ?_
      rintro e w1 ⟨rfl, hb1⟩
      have xq1 := heap_below hb1 xq
      have z01 := heap_below hb1 z0
      have z11 := heap_below hb1 z1
      have xq1c := cells_of xq1
      have xq1f := frozen_of xq1
      have hB1 := bl_step hb hb1
      have hqn : q ≠ w.heap.size := by omega
      have hqn1 : q ≠ w.heap.size + 1 := by omega
      have Hxq1 := Lib.hid xq1; clear xq1; have Hz01 := Lib.hid z01; clear z01; have Hz11 := Lib.hid z11; clear z11; have HhB1 := Lib.hid hB1; clear hB1
      cases hm1 : meets lo hi 1800
      · have hc' : min x0 y0 = c := by rw [← Hhc.out]; simp only [cosLo, hm1, Hhx0.out, Hhy0.out]; rfl
        have hd' : 65536 = d := by rw [← Hhd.out]; simp only [cosHi, hm0, Hhx1.out, Hhy1.out]; rfl
        subst hc' hd'
        go_wp2_with fail
        refine (meets_any lo hi 1800 false hm1 w.heap.size _ (heap_setCell_off Hz01.out _ hqn) ⟨l0, l1⟩ ⟨h0, h1⟩ (by omega) (by omega)).mono ?_
        rintro e w2 ⟨rfl, hb2⟩
        have xq2 := heap_below hb2 (heap_setCell_at Hxq1.out _)
        have z12 := heap_below hb2 (heap_setCell_off Hz11.out _ hqn1)
        have xq2c := cells_of xq2
        have xq2f := frozen_of xq2
        have z12c := cells_of z12
        have z12f := frozen_of z12
        have hB := bl_step (bl_setCell HhB1.out _ _ (by show _ ≤ q; omega)) hb2
        try simp only [List.setIfInBounds_toArray, List.set_cons_succ, List.set_cons_zero] at xq2c
        have Hxq2 := Lib.hid xq2; clear xq2; have Hz12 := Lib.hid z12; clear z12; have HhB := Lib.hid hB; clear hB
        go_wp2_with fail
        ((try simp only [Exit.inBlock, Exit.then]); refine bodyPost_ret (v := .agg #[.int .i64 (min x0 y0), .int .i64 (65536)]) (by simp [results, Try.results40, go_sem, *]) rfl ?_)
        exact ⟨rfl, by have := HhB.out; repeat (first | assumption | refine bl_setCell ?_ _ _ (by first | exact Nat.le_refl _ | (simp; omega) | simp))⟩
      · have hc' : -65536 = c := by rw [← Hhc.out]; simp only [cosLo, hm1, Hhx0.out, Hhy0.out]; rfl
        have hd' : 65536 = d := by rw [← Hhd.out]; simp only [cosHi, hm0, Hhx1.out, Hhy1.out]; rfl
        subst hc' hd'
        go_wp2_with fail
        refine (meets_any lo hi 1800 true hm1 w.heap.size _ (heap_setCell_off Hz01.out _ hqn) ⟨l0, l1⟩ ⟨h0, h1⟩ (by omega) (by omega)).mono ?_
        rintro e w2 ⟨rfl, hb2⟩
        have xq2 := heap_below hb2 (heap_setCell_at Hxq1.out _)
        have z12 := heap_below hb2 (heap_setCell_off Hz11.out _ hqn1)
        have xq2c := cells_of xq2
        have xq2f := frozen_of xq2
        have z12c := cells_of z12
        have z12f := frozen_of z12
        have hB := bl_step (bl_setCell HhB1.out _ _ (by show _ ≤ q; omega)) hb2
        try simp only [List.setIfInBounds_toArray, List.set_cons_succ, List.set_cons_zero] at xq2c
        have Hxq2 := Lib.hid xq2; clear xq2; have Hz12 := Lib.hid z12; clear z12; have HhB := Lib.hid hB; clear hB
        go_wp2_with fail
        ((try simp only [Exit.inBlock, Exit.then]); refine bodyPost_ret (v := .agg #[.int .i64 (-65536), .int .i64 (65536)]) (by simp [results, Try.results40, go_sem, *]) rfl ?_)
        exact ⟨rfl, by have := HhB.out; repeat (first | assumption | refine bl_setCell ?_ _ _ (by first | exact Nat.le_refl _ | (simp; omega) | simp))⟩
end Go.Proofs.Ytfbmjecikilghaa
