/- The top's own helpers: one span within another, and the shore of four. -/
import Derived.Test.YtfbmjecikilghaaA
import Derived.Test.YtfbmjecikilghaaOrdC
namespace Go.Proofs.Ytfbmjecikilghaa
open Go.RowKit

set_option maxHeartbeats 2000000 in
set_option maxRecDepth 100000 in
theorem within_any (a b c d : Int) (w : World) :
    Calls Try.prog 12 #[.agg #[.int .i64 a, .int .i64 b], .agg #[.int .i64 c, .int .i64 d]] w fun e w' => e = .returned (.bool (decide (c ≤ a) && decide (b ≤ d) && decide (a ≤ b))) ∧ Below w.heap.size w w' := by
  go_enter Try.func12, Try.ntmps12
  by_cases h1 : c ≤ a <;> by_cases h2 : b ≤ d <;> by_cases h3 : a ≤ b
  all_goals
    first | rw [decide_eq_true h1] | rw [decide_eq_false h1]
    first | rw [decide_eq_true h2] | rw [decide_eq_false h2]
    first | rw [decide_eq_true h3] | rw [decide_eq_false h3]
    go_wp2
  all_goals first
    | (((try simp only [Exit.inBlock, Exit.then]); refine bodyPost_ret (v := .bool true) (by simp [results, Try.results12, go_sem, *]) rfl ?_); refine ⟨?_, (by repeat (first | exact Below.refl _ _ | (refine bl_setCell ?_ _ _ ?_; rotate_left; focus (first | omega | (simp; done) | (simp; omega))) | refine bl_alloc ?_ _ | refine bl_step ?_ (by assumption) | refine bl_drew ?_ | refine bl_drewN ?_ _))⟩; rfl)
    | (((try simp only [Exit.inBlock, Exit.then]); refine bodyPost_ret (v := .bool false) (by simp [results, Try.results12, go_sem, *]) rfl ?_); refine ⟨?_, (by repeat (first | exact Below.refl _ _ | (refine bl_setCell ?_ _ _ ?_; rotate_left; focus (first | omega | (simp; done) | (simp; omega))) | refine bl_alloc ?_ _ | refine bl_step ?_ (by assumption) | refine bl_drew ?_ | refine bl_drewN ?_ _))⟩; rfl)

set_option maxHeartbeats 2000000 in
set_option maxRecDepth 100000 in
theorem shoreFour_ok (w : World) :
    Calls Try.prog 18 #[] w fun e w' => ∃ g, e = .returned (.agg #[.int .i64 4, .int .i64 1, .int .i64 1000, .slice (some ⟨g, 0, none⟩) 4 4]) ∧
      w'.heap[g]? = some (.cells #[.int .i64 (-40000), .int .i64 (-40000), .int .i64 (-40000), .int .i64 (-40000), .int .i64 (-1000), .int .i64 (-1000), .int .i64 200, .int .i64 400] 46 (0, 0)) ∧ w.heap.size ≤ g ∧ Below w.heap.size w w' := by
  go_enter Try.func18, Try.ntmps18
  go_wp2_with fail
  refine (tspan_any _ _ _).mono ?_
  rintro e w1 ⟨rfl, hb1⟩
  go_wp2_with fail
  refine (tspan_any _ _ _).mono ?_
  rintro e w2 ⟨rfl, hb2⟩
  go_wp2_with fail
  refine (tspan_any _ _ _).mono ?_
  rintro e w3 ⟨rfl, hb3⟩
  go_wp2_with fail
  refine (tspan_any _ _ _).mono ?_
  rintro e w4 ⟨rfl, hb4⟩
  have hbx := bl_step (bl_step (bl_step (bl_step (show Below w.heap.size w _ from (by repeat (first | exact Below.refl _ _ | (refine bl_setCell ?_ _ _ ?_; rotate_left; focus (first | omega | (simp; done) | (simp; omega))) | refine bl_alloc ?_ _ | refine bl_step ?_ (by assumption) | refine bl_drew ?_ | refine bl_drewN ?_ _))) hb1) hb2) hb3) hb4
  have y0 : w4.heap[w.heap.size]? = some (.cells #[.int .i64 0, .int .i64 0, .int .i64 0, .slice none 0 0] 36 (0, 0)) := (bl_step (bl_step (bl_step hb1 hb2) hb3) hb4).block w.heap.size (by simp) |>.trans (heap_alloc_at _ _)
  have y0c := cells_of y0
  have y0f := frozen_of y0
  have y0l := lt_of_heap y0
  have Hy0 := Lib.hid y0; clear y0; have Hhbx := Lib.hid hbx; clear hbx
  go_wp2_with fail
  ((try simp only [Exit.inBlock, Exit.then]); refine bodyPost_ret (v := .agg #[.int .i64 4, .int .i64 1, .int .i64 1000, .slice (some ⟨w4.heap.size, 0, none⟩) 4 4]) (by simp [results, Try.results18, go_sem, *]) rfl ?_)
  refine ⟨w4.heap.size, rfl, ?_, by omega, ?_⟩
  · refine heap_alloc_at' _ _ ?_
    simp
  · exact bl_alloc (bl_setCell (bl_setCell (bl_setCell (bl_setCell Hhbx.out _ _ (Nat.le_refl _)) _ _ (Nat.le_refl _)) _ _ (Nat.le_refl _)) _ _ (Nat.le_refl _)) _
end Go.Proofs.Ytfbmjecikilghaa
