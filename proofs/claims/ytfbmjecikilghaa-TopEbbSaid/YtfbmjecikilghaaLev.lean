/- tide: cosines of spans of angles, angles of a part, levels. -/
import Derived.Test.YtfbmjecikilghaaSum
import Derived.Test.YtfbmjecikilghaaLevD
import Derived.Deep.RegionHeld3
namespace Go.Proofs.Ytfbmjecikilghaa
open Go.RowKit

theorem quarter_at (x lo hi : Int) (h0 : 0 ≤ x) (h9 : x ≤ 900) (hl : (qlo x.toNat : Int) = lo) (hh : (qhi x.toNat : Int) = hi) (w : World) :
    Calls Try.prog 86 #[.int .i64 x] w fun e w' => e = .returned (.agg #[.int .i64 lo, .int .i64 hi]) ∧ Below w.heap.size w w' := by
  subst hl hh
  have := quarter_any x.toNat (by omega) w
  rw [Int.toNat_of_nonneg h0] at this
  exact this

set_option maxHeartbeats 2000000 in
set_option maxRecDepth 100000 in
theorem cosine_any (a lo hi : Int) (h0 : -4000000000000000 ≤ a) (h1 : a ≤ 4000000000000000) (hlo : clo a = lo) (hhi : chi a = hi) (w : World) :
    Calls Try.prog 62 #[.int .i64 a] w fun e w' => e = .returned (.agg #[.int .i64 lo, .int .i64 hi]) ∧ Below w.heap.size w w' := by
  obtain ⟨q, hq⟩ : ∃ q, a / 3600 = q := ⟨_, rfl⟩
  obtain ⟨r, hr⟩ : ∃ r, a % 3600 = r := ⟨_, rfl⟩
  have hs : a - 3600 * q = r := by omega
  have q0 : -2000000000000 ≤ q := by omega
  have q1 : q ≤ 2000000000000 := by omega
  have r0 : 0 ≤ r := by omega
  have r1 : r < 3600 := by omega
  obtain ⟨k, hk⟩ : ∃ k, fold a = k := ⟨_, rfl⟩
  obtain ⟨m, hm⟩ : ∃ m, min r (3600 - r) = m := ⟨_, rfl⟩
  have hkr : (k : Int) = m := by unfold fold at hk; omega
  have m0 : 0 ≤ m := by omega
  have m1 : m ≤ 1800 := by omega
  unfold clo at hlo
  unfold chi at hhi
  rw [hk] at hlo hhi
  have hkk : m.toNat = k := by omega
  by_cases h9 : k ≤ 900
  · have e1 : (qlo k : Int) = lo := by rw [← hlo]; unfold halfLo; rw [if_pos h9]
    have e2 : (qhi k : Int) = hi := by rw [← hhi]; unfold halfHi; rw [if_pos h9]
    have m9 : m ≤ 900 := by omega
    have Hhq := Lib.hid hq; clear hq; have Hhr := Lib.hid hr; clear hr; have Hhk := Lib.hid hk; clear hk; have Hhkr := Lib.hid hkr; clear hkr; have Hhlo := Lib.hid hlo; clear hlo; have Hhhi := Lib.hid hhi; clear hhi; have He1 := Lib.hid e1; clear e1; have He2 := Lib.hid e2; clear e2; have Hhkk := Lib.hid hkk; clear hkk
    go_enter Try.func62, Try.ntmps62
    go_wp2_with (first
      | (go_at_call 43; refine (down_val _ _ q Hhq.out (by omega) (by omega) (by omega) (by omega) _).mono ?_; rintro e w1 ⟨rfl, hb1⟩; obtain ⟨_, _, _⟩ := bk (w.heap.size) hb1 (by (first | omega | (simp; done) | (simp; omega))); have hzhb1 := bsz hb1; try simp only [World.size_alloc] at hzhb1)
      | (go_at_call 86; refine (quarter_at _ lo hi m0 m9 (by rw [Hhkk.out]; exact He1.out) (by rw [Hhkk.out]; exact He2.out) _).mono ?_; rintro e w1 ⟨rfl, hb1⟩; obtain ⟨_, _, _⟩ := bk (w.heap.size) hb1 (by (first | omega | (simp; done) | (simp; omega))); have hzhb1 := bsz hb1; try simp only [World.size_alloc] at hzhb1))
    ((try simp only [Exit.inBlock, Exit.then]); refine bodyPost_ret (v := .agg #[.int .i64 lo, .int .i64 hi]) (by simp [results, Try.results62, go_sem, *]) rfl ?_)
    exact ⟨rfl, (by repeat (first | exact Below.refl _ _ | (refine bl_setCell ?_ _ _ ?_; rotate_left; focus (first | omega | (simp; done) | (simp; omega))) | refine bl_alloc ?_ _ | refine bl_step ?_ (by assumption) | refine bl_drew ?_ | refine bl_drewN ?_ _))⟩
  · have e1 : -(qhi (1800 - k) : Int) = lo := by rw [← hlo]; unfold halfLo; rw [if_neg h9]
    have e2 : -(qlo (1800 - k) : Int) = hi := by rw [← hhi]; unfold halfHi; rw [if_neg h9]
    have hqb := q_le (1800 - k) (by omega)
    have f1 : (qhi (1800 - k) : Int) = -lo := by omega
    have f2 : (qlo (1800 - k) : Int) = -hi := by omega
    have l1 : -100000 ≤ lo := by omega
    have l2 : lo ≤ 100000 := by omega
    have l3 : -100000 ≤ hi := by omega
    have l4 : hi ≤ 100000 := by omega
    have m8 : 900 < m := by omega
    have m9 : 1800 - m ≤ 900 := by omega
    have m7 : 0 ≤ 1800 - m := by omega
    have hk8 : (1800 - m).toNat = 1800 - k := by omega
    have Hhq := Lib.hid hq; clear hq; have Hhr := Lib.hid hr; clear hr; have Hhk := Lib.hid hk; clear hk; have Hhkr := Lib.hid hkr; clear hkr; have Hhlo := Lib.hid hlo; clear hlo; have Hhhi := Lib.hid hhi; clear hhi; have He1 := Lib.hid e1; clear e1; have He2 := Lib.hid e2; clear e2; have Hhkk := Lib.hid hkk; clear hkk; have Hhk8 := Lib.hid hk8; clear hk8; have Hhqb := Lib.hid hqb; clear hqb; have Hf1 := Lib.hid f1; clear f1; have Hf2 := Lib.hid f2; clear f2
    go_enter Try.func62, Try.ntmps62
    go_wp2_with (first
      | (go_at_call 43; refine (down_val _ _ q Hhq.out (by omega) (by omega) (by omega) (by omega) _).mono ?_; rintro e w1 ⟨rfl, hb1⟩; obtain ⟨_, _, _⟩ := bk (w.heap.size) hb1 (by (first | omega | (simp; done) | (simp; omega))); have hzhb1 := bsz hb1; try simp only [World.size_alloc] at hzhb1)
      | (go_at_call 87; refine (negative_any (-hi) (-lo) ⟨by omega, by omega⟩ ⟨by omega, by omega⟩ _).mono ?_; rintro e w1 ⟨rfl, hb1⟩; obtain ⟨_, _, _⟩ := bk (w.heap.size) hb1 (by (first | omega | (simp; done) | (simp; omega))); have hzhb1 := bsz hb1; try simp only [World.size_alloc] at hzhb1)
      | (go_at_call 86; refine (quarter_at _ (-hi) (-lo) m7 m9 (by rw [Hhk8.out]; exact Hf2.out) (by rw [Hhk8.out]; exact Hf1.out) _).mono ?_; rintro e w1 ⟨rfl, hb1⟩; obtain ⟨_, _, _⟩ := bk (w.heap.size) hb1 (by (first | omega | (simp; done) | (simp; omega))); have hzhb1 := bsz hb1; try simp only [World.size_alloc] at hzhb1))
    ((try simp only [Exit.inBlock, Exit.then]); refine bodyPost_ret (v := .agg #[.int .i64 lo, .int .i64 hi]) (by simp [results, Try.results62, go_sem, *]) rfl ?_)
    exact ⟨rfl, (by repeat (first | exact Below.refl _ _ | (refine bl_setCell ?_ _ _ ?_; rotate_left; focus (first | omega | (simp; done) | (simp; omega))) | refine bl_alloc ?_ _ | refine bl_step ?_ (by assumption) | refine bl_drew ?_ | refine bl_drewN ?_ _))⟩

set_option maxHeartbeats 2000000 in
set_option maxRecDepth 100000 in
theorem meets_any (lo hi a : Int) (v : Bool) (hv : meets lo hi a = v) (b : Nat) (w : World) (hb : w.heap[b]? = some (.cells #[.int .i64 lo, .int .i64 hi] 83 (0, 0))) (hl : -4000000000000000 ≤ lo ∧ lo ≤ 4000000000000000) (hh : -4000000000000000 ≤ hi ∧ hi ≤ 4000000000000000) (ha : 0 ≤ a) (ha' : a ≤ 3600) :
    Calls Try.prog 64 #[.int .i64 a, .pointer (some ⟨b, 0, none⟩)] w fun e w' => e = .returned (.bool v) ∧ Below w.heap.size w w' := by
  have hbc := cells_of hb
  have hbl := lt_of_heap hb
  obtain ⟨l0, l1⟩ := hl
  obtain ⟨h0, h1⟩ := hh
  obtain ⟨q1, e1⟩ : ∃ q1, (hi - a) / 3600 = q1 := ⟨_, rfl⟩
  obtain ⟨q2, e2⟩ : ∃ q2, (lo - a - 1) / 3600 = q2 := ⟨_, rfl⟩
  have hv' : decide (q2 < q1) = v := by rw [← hv, ← e1, ← e2]; rfl
  have Hhb := Lib.hid hb; clear hb; have Hhv := Lib.hid hv; clear hv; have He1 := Lib.hid e1; clear e1; have He2 := Lib.hid e2; clear e2
  go_enter Try.func64, Try.ntmps64
  go_upto_region 1 with fail
  have hI : Below w.heap.size w w.drew := (Below.refl _ _).drew
  refine wp_region_ord (fun W => Below w.heap.size w W) [([0, 1, 2, 3, 4, 6, 7, 8, 9, 10, 11], 5), ([], 12)] [13, 14] none (by kernel_rfl) (by kernel_rfl) hI ?_
  refine OrdI_cons ?_
  (apply StI_plain (w0 := w.drew) hI rfl rfl rfl rfl; (focus (intro W hW K hK; obtain ⟨_, _⟩ := bk b hW hbl; go_step; exact hK)); (focus rfl)); (apply StI_plain (w0 := w.drew) hI rfl rfl rfl rfl; (focus (intro W hW K hK; obtain ⟨_, _⟩ := bk b hW hbl; go_step; exact hK)); (focus rfl)); (apply StI_plain (w0 := w.drew) hI rfl rfl rfl rfl; (focus (intro W hW K hK; obtain ⟨_, _⟩ := bk b hW hbl; go_step; exact hK)); (focus rfl)); (apply StI_plain (w0 := w.drew) hI rfl rfl rfl rfl; (focus (intro W hW K hK; obtain ⟨_, _⟩ := bk b hW hbl; go_step; exact hK)); (focus rfl)); (apply StI_plain (w0 := w.drew) hI rfl rfl rfl rfl; (focus (intro W hW K hK; obtain ⟨_, _⟩ := bk b hW hbl; go_step; exact hK)); (focus rfl)); (apply StI_plain (w0 := w.drew) hI rfl rfl rfl rfl; (focus (intro W hW K hK; obtain ⟨_, _⟩ := bk b hW hbl; go_step; exact hK)); (focus rfl)); (apply StI_plain (w0 := w.drew) hI rfl rfl rfl rfl; (focus (intro W hW K hK; obtain ⟨_, _⟩ := bk b hW hbl; go_step; exact hK)); (focus rfl)); (apply StI_plain (w0 := w.drew) hI rfl rfl rfl rfl; (focus (intro W hW K hK; obtain ⟨_, _⟩ := bk b hW hbl; go_step; exact hK)); (focus rfl)); (apply StI_plain (w0 := w.drew) hI rfl rfl rfl rfl; (focus (intro W hW K hK; obtain ⟨_, _⟩ := bk b hW hbl; go_step; exact hK)); (focus rfl)); (apply StI_plain (w0 := w.drew) hI rfl rfl rfl rfl; (focus (intro W hW K hK; obtain ⟨_, _⟩ := bk b hW hbl; go_step; exact hK)); (focus rfl)); (apply StI_plain (w0 := w.drew) hI rfl rfl rfl rfl; (focus (intro W hW K hK; obtain ⟨_, _⟩ := bk b hW hbl; go_step; exact hK)); (focus rfl))
  (apply StI_eff rfl; go_wp2_with (first | (go_at_call 43; refine (down_val _ _ q1 He1.out (by omega) (by omega) (by omega) (by omega) _).mono ?_; rintro e w1 ⟨rfl, hb1⟩)))
  have hI1 := hI.trans hb1
  refine onNormal_mk hI1 (OrdI_cons ?_)
  (apply StI_eff rfl; go_wp2_with (first | (go_at_call 43; refine (down_val _ _ q2 He2.out (by omega) (by omega) (by omega) (by omega) _).mono ?_; rintro e w2 ⟨rfl, hb2⟩)))
  have hI2 : Below w.heap.size w w2 := bl_step hI1 hb2
  refine onNormal_mk hI2 (OrdI_fin ?_)
  (apply StI_plain (w0 := w2) hI2 rfl rfl rfl rfl; (focus (intro W hW K hK; skip; go_step; exact hK)); (focus rfl)); (apply StI_plain (w0 := w2) hI2 rfl rfl rfl rfl; (focus (intro W hW K hK; skip; go_step; exact hK)); (focus rfl))
  refine StI_nil ?_
  go_wp2_with fail
  go_ret
  exact ⟨rfl, hI2⟩
end Go.Proofs.Ytfbmjecikilghaa
