/- TopBreach beyond its guard. -/
import Derived.Test.YtfbmjecikilghaaBrcF
namespace Go.Proofs.Ytfbmjecikilghaa
open Go.RowKit

set_option maxHeartbeats 8000000 in
set_option maxRecDepth 100000 in
theorem topBreach_many (s : ShoreL) (cell cr st we sp : Int) (ws : List U3) (wh : List Int) (al am aw a5 ah : Option Addr) (cl cm cw c5 ch : Nat) (w : World)
    (hn1 : ws.length ≤ 9223372036854775807) (_hn2 : wh.length ≤ 9223372036854775807) (h : ws.length < 1 ∨ 8 < ws.length) :
    Calls Try.prog 4 #[.agg #[.int .u8 s.wide, .int .u8 s.high, .slice al s.low.length cl, .slice am s.more.length cm, .slice aw s.where_.length cw, .int .u8 cell, .int .u8 cr, .int .u8 st, .int .u8 we, .slice a5 ws.length c5, .int .u8 sp, .slice ah wh.length ch]] w fun e w' => e = .returned (.bool true) ∧ Below w.heap.size w w' := by
  by_cases h1 : ws.length < 1
  · clear h
    have h0 : ws.length = 0 := by omega
    clear h1
    go_enter Try.func4, Try.ntmps4
    go_wp2_with fail
    refine (bworks_ok _).mono ?_
    rintro e w1 ⟨rfl, hb1⟩
    go_wp2_with fail
    go_ret
    exact ⟨rfl, (by repeat (first | exact Below.refl _ _ | (refine bl_setCell ?_ _ _ ?_; rotate_left; focus (first | omega | (simp; done) | (simp; omega))) | refine bl_alloc ?_ _ | refine bl_step ?_ (by assumption) | refine bl_drew ?_ | refine bl_drewN ?_ _))⟩
  · have h8 : 8 < ws.length := by omega
    have h1' : 1 ≤ ws.length := by omega
    clear h h1
    go_enter Try.func4, Try.ntmps4
    go_wp2_with fail
    refine (bworks_ok _).mono ?_
    rintro e w1 ⟨rfl, hb1⟩
    go_wp2_with fail
    go_ret
    exact ⟨rfl, (by repeat (first | exact Below.refl _ _ | (refine bl_setCell ?_ _ _ ?_; rotate_left; focus (first | omega | (simp; done) | (simp; omega))) | refine bl_alloc ?_ _ | refine bl_step ?_ (by assumption) | refine bl_drew ?_ | refine bl_drewN ?_ _))⟩
end Go.Proofs.Ytfbmjecikilghaa
