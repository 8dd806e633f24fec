/- TopEbb beyond its guard. -/
import Derived.Test.YtfbmjecikilghaaEWorks
namespace Go.Proofs.Ytfbmjecikilghaa
open Go.RowKit

set_option maxHeartbeats 8000000 in
set_option maxRecDepth 100000 in
theorem topEbb_many (s : ShoreL) (mean f lg lv : Int) (ps : List U3) (ats seas : List Int) (al am aw a1 a2 a3 : Option Addr) (cl cm cw c1 c2 c3 : Nat) (w : World)
    (hn1 : ps.length ≤ 9223372036854775807) (hn2 : ats.length ≤ 9223372036854775807) (hn3 : seas.length ≤ 9223372036854775807) (h : 4 < ps.length ∨ 6 < ats.length ∨ 4 < seas.length) :
    Calls Try.prog 3 #[.agg #[.int .u8 s.wide, .int .u8 s.high, .slice al s.low.length cl, .slice am s.more.length cm, .slice aw s.where_.length cw, .int .i8 mean, .slice a1 ps.length c1, .int .u32 f, .int .u32 lg, .int .i16 lv, .slice a2 ats.length c2, .slice a3 seas.length c3]] w fun e w' => e = .returned (.bool true) ∧ Below w.heap.size w w' := by
  by_cases h4 : 4 < ps.length
  · clear h
    go_enter Try.func3, Try.ntmps3
    go_wp2_with fail
    refine (ebbWorks_ok _).mono ?_
    rintro e w1 ⟨rfl, hb1⟩
    go_wp2_with fail
    go_ret
    exact ⟨rfl, (by repeat (first | exact Below.refl _ _ | (refine bl_setCell ?_ _ _ ?_; rotate_left; focus (first | omega | (simp; done) | (simp; omega))) | refine bl_alloc ?_ _ | refine bl_step ?_ (by assumption) | refine bl_drew ?_ | refine bl_drewN ?_ _))⟩
  · have h4' : ps.length ≤ 4 := by omega
    by_cases h6 : 6 < ats.length
    · clear h h4
      go_enter Try.func3, Try.ntmps3
      go_wp2_with fail
      refine (ebbWorks_ok _).mono ?_
      rintro e w1 ⟨rfl, hb1⟩
      go_wp2_with fail
      go_ret
      exact ⟨rfl, (by repeat (first | exact Below.refl _ _ | (refine bl_setCell ?_ _ _ ?_; rotate_left; focus (first | omega | (simp; done) | (simp; omega))) | refine bl_alloc ?_ _ | refine bl_step ?_ (by assumption) | refine bl_drew ?_ | refine bl_drewN ?_ _))⟩
    · have h6' : ats.length ≤ 6 := by omega
      have h8 : 4 < seas.length := by omega
      clear h h4 h6
      go_enter Try.func3, Try.ntmps3
      go_wp2_with fail
      refine (ebbWorks_ok _).mono ?_
      rintro e w1 ⟨rfl, hb1⟩
      go_wp2_with fail
      go_ret
      exact ⟨rfl, (by repeat (first | exact Below.refl _ _ | (refine bl_setCell ?_ _ _ ?_; rotate_left; focus (first | omega | (simp; done) | (simp; omega))) | refine bl_alloc ?_ _ | refine bl_step ?_ (by assumption) | refine bl_drew ?_ | refine bl_drewN ?_ _))⟩
end Go.Proofs.Ytfbmjecikilghaa
