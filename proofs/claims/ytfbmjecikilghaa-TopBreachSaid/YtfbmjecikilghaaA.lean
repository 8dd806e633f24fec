/- tide: spans and quotients. -/
import Derived.Test.YtfbmjecikilghaaMem
import Derived.Test.YtfbmjecikilghaaOrd
namespace Go.Proofs.Ytfbmjecikilghaa
open Go.RowKit

theorem ret_int {k : IntKind} {a b : Int} (h : a = b) : Ending.returned (.int k a) = .returned (.int k b) := by rw [h]
theorem w64 (x : Int) (h0 : -9223372036854775808 ≤ x) (h1 : x < 9223372036854775808) : wrap64 x = x := by unfold wrap64; omega

set_option maxHeartbeats 2000000 in
set_option maxRecDepth 100000 in
theorem of_any (lo hi : Int) (w : World) :
    Calls Try.prog 42 #[.int .i64 lo, .int .i64 hi] w fun e w' => e = .returned (.agg #[.int .i64 lo, .int .i64 hi]) ∧ Below w.heap.size w w' := by
  go_enter Try.func42, Try.ntmps42
  go_wp2
  ((try simp only [Exit.inBlock, Exit.then]); refine bodyPost_ret (v := .agg #[.int .i64 lo, .int .i64 hi]) (by simp [results, Try.results42, go_sem, *]) rfl ?_)
  exact ⟨rfl, (by repeat (first | exact Below.refl _ _ | (refine bl_setCell ?_ _ _ ?_; rotate_left; focus (first | omega | (simp; done) | (simp; omega))) | refine bl_alloc ?_ _ | refine bl_step ?_ (by assumption) | refine bl_drew ?_ | refine bl_drewN ?_ _))⟩

set_option maxHeartbeats 2000000 in
set_option maxRecDepth 100000 in
theorem tspan_any (lo hi : Int) (w : World) :
    Calls Try.prog 8 #[.int .i64 lo, .int .i64 hi] w fun e w' => e = .returned (.agg #[.int .i64 lo, .int .i64 hi]) ∧ Below w.heap.size w w' := by
  go_enter Try.func8, Try.ntmps8
  go_wp2
  ((try simp only [Exit.inBlock, Exit.then]); refine bodyPost_ret (v := .agg #[.int .i64 lo, .int .i64 hi]) (by simp [results, Try.results8, go_sem, *]) rfl ?_)
  exact ⟨rfl, (by repeat (first | exact Below.refl _ _ | (refine bl_setCell ?_ _ _ ?_; rotate_left; focus (first | omega | (simp; done) | (simp; omega))) | refine bl_alloc ?_ _ | refine bl_step ?_ (by assumption) | refine bl_drew ?_ | refine bl_drewN ?_ _))⟩


set_option maxHeartbeats 2000000 in
set_option maxRecDepth 100000 in
theorem negative_any (lo hi : Int) (h0 : -1000000 ≤ lo ∧ lo ≤ 1000000) (h1 : -1000000 ≤ hi ∧ hi ≤ 1000000) (w : World) :
    Calls Try.prog 87 #[.agg #[.int .i64 lo, .int .i64 hi]] w fun e w' => e = .returned (.agg #[.int .i64 (-hi), .int .i64 (-lo)]) ∧ Below w.heap.size w w' := by
  obtain ⟨a0, a1⟩ := h0
  obtain ⟨b0, b1⟩ := h1
  go_enter Try.func87, Try.ntmps87
  go_wp2_with (go_at_call 42; refine (of_any _ _ _).mono ?_; rintro e w1 ⟨rfl, hb1⟩; obtain ⟨_, _, _⟩ := bk (w.heap.size) hb1 (by (first | omega | (simp; done) | (simp; omega))); obtain ⟨_, _, _⟩ := bk (w.heap.size + 1) hb1 (by (first | omega | (simp; done) | (simp; omega))); have hzhb1 := bsz hb1; try simp only [World.size_alloc] at hzhb1)
  ((try simp only [Exit.inBlock, Exit.then]); refine bodyPost_ret (v := .agg #[.int .i64 (-hi), .int .i64 (-lo)]) (by simp [results, Try.results87, go_sem, *]) rfl ?_)
  exact ⟨rfl, (by repeat (first | exact Below.refl _ _ | (refine bl_setCell ?_ _ _ ?_; rotate_left; focus (first | omega | (simp; done) | (simp; omega))) | refine bl_alloc ?_ _ | refine bl_step ?_ (by assumption) | refine bl_drew ?_ | refine bl_drewN ?_ _))⟩

set_option maxHeartbeats 2000000 in
set_option maxRecDepth 100000 in
theorem join_any (a b c d : Int) (w : World) :
    Calls Try.prog 63 #[.agg #[.int .i64 a, .int .i64 b], .agg #[.int .i64 c, .int .i64 d]] w fun e w' => e = .returned (.agg #[.int .i64 (min a c), .int .i64 (max b d)]) ∧ Below w.heap.size w w' := by
  go_enter Try.func63, Try.ntmps63
  go_wp2_with (go_at_call 42; refine (of_any _ _ _).mono ?_; rintro e w1 ⟨rfl, hb1⟩; obtain ⟨_, _, _⟩ := bk (w.heap.size) hb1 (by (first | omega | (simp; done) | (simp; omega))); obtain ⟨_, _, _⟩ := bk (w.heap.size + 1) hb1 (by (first | omega | (simp; done) | (simp; omega))); obtain ⟨_, _, _⟩ := bk (w.heap.size + 2) hb1 (by (first | omega | (simp; done) | (simp; omega))); have hzhb1 := bsz hb1; try simp only [World.size_alloc] at hzhb1)
  all_goals first
    | (((try simp only [Exit.inBlock, Exit.then]); refine bodyPost_ret (v := .agg #[.int .i64 a, .int .i64 b]) (by simp [results, Try.results63, go_sem, *]) rfl ?_); exact ⟨by simp; omega, (by repeat (first | exact Below.refl _ _ | (refine bl_setCell ?_ _ _ ?_; rotate_left; focus (first | omega | (simp; done) | (simp; omega))) | refine bl_alloc ?_ _ | refine bl_step ?_ (by assumption) | refine bl_drew ?_ | refine bl_drewN ?_ _))⟩)
    | (((try simp only [Exit.inBlock, Exit.then]); refine bodyPost_ret (v := .agg #[.int .i64 a, .int .i64 d]) (by simp [results, Try.results63, go_sem, *]) rfl ?_); exact ⟨by simp; omega, (by repeat (first | exact Below.refl _ _ | (refine bl_setCell ?_ _ _ ?_; rotate_left; focus (first | omega | (simp; done) | (simp; omega))) | refine bl_alloc ?_ _ | refine bl_step ?_ (by assumption) | refine bl_drew ?_ | refine bl_drewN ?_ _))⟩)
    | (((try simp only [Exit.inBlock, Exit.then]); refine bodyPost_ret (v := .agg #[.int .i64 c, .int .i64 b]) (by simp [results, Try.results63, go_sem, *]) rfl ?_); exact ⟨by simp; omega, (by repeat (first | exact Below.refl _ _ | (refine bl_setCell ?_ _ _ ?_; rotate_left; focus (first | omega | (simp; done) | (simp; omega))) | refine bl_alloc ?_ _ | refine bl_step ?_ (by assumption) | refine bl_drew ?_ | refine bl_drewN ?_ _))⟩)
    | (((try simp only [Exit.inBlock, Exit.then]); refine bodyPost_ret (v := .agg #[.int .i64 c, .int .i64 d]) (by simp [results, Try.results63, go_sem, *]) rfl ?_); exact ⟨by simp; omega, (by repeat (first | exact Below.refl _ _ | (refine bl_setCell ?_ _ _ ?_; rotate_left; focus (first | omega | (simp; done) | (simp; omega))) | refine bl_alloc ?_ _ | refine bl_step ?_ (by assumption) | refine bl_drew ?_ | refine bl_drewN ?_ _))⟩)

set_option maxHeartbeats 2000000 in
set_option maxRecDepth 100000 in
theorem add_any (a b f c d : Int) (ha : -1000000000000000000 ≤ a ∧ a ≤ 1000000000000000000) (hb : -1000000000000000000 ≤ b ∧ b ≤ 1000000000000000000) (hc : -4611686018427387904 ≤ f * c ∧ f * c ≤ 4611686018427387904) (hd : -4611686018427387904 ≤ f * d ∧ f * d ≤ 4611686018427387904) (w : World) :
    Calls Try.prog 39 #[.agg #[.int .i64 a, .int .i64 b], .int .i64 f, .agg #[.int .i64 c, .int .i64 d]] w fun e w' => e = .returned (.agg #[.int .i64 (a + f * c), .int .i64 (b + f * d)]) ∧ Below w.heap.size w w' := by
  obtain ⟨ha0, ha1⟩ := ha
  obtain ⟨hb0, hb1⟩ := hb
  obtain ⟨hc0, hc1⟩ := hc
  obtain ⟨hd0, hd1⟩ := hd
  go_enter Try.func39, Try.ntmps39
  go_wp2_with (go_at_call 42; refine (of_any _ _ _).mono ?_; rintro e w1 ⟨rfl, hb1⟩; obtain ⟨_, _, _⟩ := bk (w.heap.size) hb1 (by (first | omega | (simp; done) | (simp; omega))); obtain ⟨_, _, _⟩ := bk (w.heap.size + 1) hb1 (by (first | omega | (simp; done) | (simp; omega))); obtain ⟨_, _, _⟩ := bk (w.heap.size + 2) hb1 (by (first | omega | (simp; done) | (simp; omega))); have hzhb1 := bsz hb1; try simp only [World.size_alloc] at hzhb1)
  ((try simp only [Exit.inBlock, Exit.then]); refine bodyPost_ret (v := .agg #[.int .i64 (a + f * c), .int .i64 (b + f * d)]) (by simp [results, Try.results39, go_sem, *]) rfl ?_)
  exact ⟨rfl, (by repeat (first | exact Below.refl _ _ | (refine bl_setCell ?_ _ _ ?_; rotate_left; focus (first | omega | (simp; done) | (simp; omega))) | refine bl_alloc ?_ _ | refine bl_step ?_ (by assumption) | refine bl_drew ?_ | refine bl_drewN ?_ _))⟩

/-- Go's division and rest, rounded down. -/
theorem down_yes {a b : Int} (hb : 0 < b) (h : a.tmod b < 0) : a / b = a.tdiv b - 1 := by
  have h1 := Int.mul_tdiv_add_tmod a b
  have h2 := Int.lt_tmod_of_pos a hb
  exact ((Int.ediv_emod_unique hb (r := a.tmod b + b) (q := a.tdiv b - 1)).2 ⟨by rw [Int.mul_sub]; omega, by omega, by omega⟩).1
theorem down_no {a b : Int} (hb : 0 < b) (h : 0 ≤ a.tmod b) : a / b = a.tdiv b := by
  have h1 := Int.mul_tdiv_add_tmod a b
  have h2 := Int.tmod_lt_of_pos a hb
  exact ((Int.ediv_emod_unique hb (r := a.tmod b) (q := a.tdiv b)).2 ⟨by omega, by omega, by omega⟩).1
theorem ediv_bd {a b : Int} (hb : 0 < b) (h0 : -4611686018427387904 ≤ a) (h1 : a ≤ 4611686018427387904) : -4611686018427387904 ≤ a / b ∧ a / b ≤ 4611686018427387904 := by
  have h2 := Int.mul_ediv_add_emod a b
  have h3 := Int.emod_nonneg a (show b ≠ 0 by omega)
  have h4 := Int.emod_lt_of_pos a hb
  constructor
  · refine Decidable.byContradiction fun hc => ?_
    have : b * (a / b) ≤ 1 * (a / b + 1) - b := by
      have h5 : a / b + 1 ≤ 0 := by omega
      have := Int.mul_le_mul_of_nonpos_right (show 1 ≤ b by omega) h5
      rw [Int.mul_add] at this
      omega
    omega
  · refine Decidable.byContradiction fun hc => ?_
    have := Int.mul_le_mul_of_nonneg_right (show 1 ≤ b by omega) (show 0 ≤ a / b by omega)
    omega

/-- A span is one, and within bounds. -/
def vldB (a b lo hi : Int) : Bool := decide (a ≤ b) && decide (lo ≤ a) && decide (b ≤ hi)

set_option maxHeartbeats 2000000 in
set_option maxRecDepth 100000 in
theorem tvalid_any (a b lo hi : Int) (w : World) :
    Calls Try.prog 38 #[.agg #[.int .i64 a, .int .i64 b], .int .i64 lo, .int .i64 hi] w fun e w' => e = .returned (.bool (vldB a b lo hi)) ∧ Below w.heap.size w w' := by
  go_enter Try.func38, Try.ntmps38
  go_wp2
  all_goals go_ret
  all_goals exact ⟨by simp_all [vldB] <;> omega, (by repeat (first | exact Below.refl _ _ | (refine bl_setCell ?_ _ _ ?_; rotate_left; focus (first | omega | (simp; done) | (simp; omega))) | refine bl_alloc ?_ _ | refine bl_step ?_ (by assumption) | refine bl_drew ?_ | refine bl_drewN ?_ _))⟩

set_option maxHeartbeats 2000000 in
set_option maxRecDepth 100000 in
theorem dvalid_any (a b lo hi : Int) (w : World) :
    Calls Try.prog 35 #[.agg #[.int .i64 a, .int .i64 b], .int .i64 lo, .int .i64 hi] w fun e w' => e = .returned (.bool (vldB a b lo hi)) ∧ Below w.heap.size w w' := by
  go_enter Try.func35, Try.ntmps35
  go_wp2
  all_goals go_ret
  all_goals exact ⟨by simp_all [vldB] <;> omega, (by repeat (first | exact Below.refl _ _ | (refine bl_setCell ?_ _ _ ?_; rotate_left; focus (first | omega | (simp; done) | (simp; omega))) | refine bl_alloc ?_ _ | refine bl_step ?_ (by assumption) | refine bl_drew ?_ | refine bl_drewN ?_ _))⟩

set_option maxHeartbeats 2000000 in
set_option maxRecDepth 100000 in
theorem down_any (a b : Int) (hb0 : 0 < b) (hb1 : b ≤ 4611686018427387904) (ha0 : -4611686018427387904 ≤ a) (ha1 : a ≤ 4611686018427387904) (w : World) :
    Calls Try.prog 43 #[.int .i64 a, .int .i64 b] w fun e w' => e = .returned (.int .i64 (a / b)) ∧ Below w.heap.size w w' := by
  have hbd := ediv_bd hb0 ha0 ha1
  go_enter Try.func43, Try.ntmps43
  go_wp2_with fail
  go_quiet (fail)
  go_wp2_with fail
  all_goals go_ret
  · exact ⟨ret_int (by have := down_yes hb0 ‹_›; rw [w64 _ (by omega) (by omega)]; exact this.symm), (by repeat (first | exact Below.refl _ _ | (refine bl_setCell ?_ _ _ ?_; rotate_left; focus (first | omega | (simp; done) | (simp; omega))) | refine bl_alloc ?_ _ | refine bl_step ?_ (by assumption) | refine bl_drew ?_ | refine bl_drewN ?_ _))⟩
  · exact ⟨ret_int (down_no hb0 ‹_›).symm, (by repeat (first | exact Below.refl _ _ | (refine bl_setCell ?_ _ _ ?_; rotate_left; focus (first | omega | (simp; done) | (simp; omega))) | refine bl_alloc ?_ _ | refine bl_step ?_ (by assumption) | refine bl_drew ?_ | refine bl_drewN ?_ _))⟩

theorem down_val (a b v : Int) (hv : a / b = v) (hb0 : 0 < b) (hb1 : b ≤ 4611686018427387904) (ha0 : -4611686018427387904 ≤ a) (ha1 : a ≤ 4611686018427387904) (w : World) :
    Calls Try.prog 43 #[.int .i64 a, .int .i64 b] w fun e w' => e = .returned (.int .i64 v) ∧ Below w.heap.size w w' := by
  subst hv; exact down_any a b hb0 hb1 ha0 ha1 w

set_option maxHeartbeats 2000000 in
set_option maxRecDepth 100000 in
theorem up_any (a b v : Int) (hv : v = -(-a / b)) (hb0 : 0 < b) (hb1 : b ≤ 4611686018427387904) (ha0 : -4611686018427387904 ≤ a) (ha1 : a ≤ 4611686018427387904) (w : World) :
    Calls Try.prog 44 #[.int .i64 a, .int .i64 b] w fun e w' => e = .returned (.int .i64 v) ∧ Below w.heap.size w w' := by
  obtain ⟨q, hq⟩ : ∃ q, -a / b = q := ⟨_, rfl⟩
  have hbd := ediv_bd (a := -a) hb0 (by omega) (by omega)
  rw [hq] at hv hbd
  obtain ⟨hq0, hq1⟩ := hbd
  subst hv
  have Hhq := Lib.hid hq; clear hq
  go_enter Try.func44, Try.ntmps44
  go_wp2_with (go_at_call 43; refine (down_val _ _ q Hhq.out hb0 hb1 (by omega) (by omega) _).mono ?_; rintro e w1 ⟨rfl, hb1⟩; have hzhb1 := bsz hb1)
  go_ret
  exact ⟨rfl, (by repeat (first | exact Below.refl _ _ | (refine bl_setCell ?_ _ _ ?_; rotate_left; focus (first | omega | (simp; done) | (simp; omega))) | refine bl_alloc ?_ _ | refine bl_step ?_ (by assumption) | refine bl_drew ?_ | refine bl_drewN ?_ _))⟩
end Go.Proofs.Ytfbmjecikilghaa
