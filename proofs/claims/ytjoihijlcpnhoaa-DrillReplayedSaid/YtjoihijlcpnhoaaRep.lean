/- DrillReplayed: whatever is given, it returns true. -/
import Derived.Test.YtjoihijlcpnhoaaRepW
import Derived.Test.YtjoihijlcpnhoaaRpl
import Derived.Test.YtjoihijlcpnhoaaFew
import Derived.Test.YtjoihijlcpnhoaaDrEw
namespace Go.Proofs.Ytjoihijlcpnhoaa
open Go.RowKit Go.Shelf

theorem run_q (T : Town) (a1 a2 a3 a4 : Option Addr) (c1 c2 c3 c4 : Nat) (p : Plan) (p1 p2 : Option Addr) (d1 d2 : Nat) (c : Case) (l1 l2 l3 l4 : Option Addr) (e1 e2 e3 e4 : Nat) (w : World) (hT : TownM w.heap.size w a1 a2 a3 a4 T) (hP : PlanM w.heap.size w p1 p2 p) (hC : CaseM w.heap.size w l1 l2 l3 l4 c) :
    Calls Try.prog 17 #[.agg #[.int .i64 T.steps, .slice a1 T.places.length c1, .slice a2 T.ways.length c2, .slice a3 T.groups.length c3, .slice a4 T.vehicles.length c4], .agg #[.slice p1 p.trips.length d1, .slice p2 p.rides.length d2], .agg #[.slice l1 c.late.length e1, .slice l2 c.absent.length e2, .slice l3 c.rides.length e3, .slice l4 c.broken.length e4]] w (RunQ T p c w) := by
  refine (run_any T _ _ _ _ _ _ _ _ p _ _ _ _ c l1 l2 l3 l4 e1 e2 e3 e4 w hT hP hC).mono ?_
  rintro e w' ⟨hb, h | ⟨hv, hc, v, he, hr⟩⟩
  · exact ⟨hb, .inl h⟩
  · obtain ⟨a, cap, rfl, hs⟩ := log_sl hr (runLog_few hv hc)
    exact ⟨hb, .inr ⟨hv, hc, runLog_few hv hc, a, cap, row_bear hr, he, hs⟩⟩

set_option maxHeartbeats 4000000 in
set_option maxRecDepth 100000 in
theorem repd_no (T : Town) (a1 a2 a3 a4 : Option Addr) (c1 c2 c3 c4 : Nat) (p : Plan) (p1 p2 : Option Addr) (d1 d2 : Nat) (c : Case) (l1 l2 l3 l4 : Option Addr) (e1 e2 e3 e4 : Nat) (a b : Int) (w : World)
    (HFew : ∀ W, Below w.heap.size w W → Calls Try.prog 15 #[.agg #[.int .i64 T.steps, .slice a1 T.places.length c1, .slice a2 T.ways.length c2, .slice a3 T.groups.length c3, .slice a4 T.vehicles.length c4], .agg #[.slice p1 p.trips.length d1, .slice p2 p.rides.length d2], .agg #[.slice l1 c.late.length e1, .slice l2 c.absent.length e2, .slice l3 c.rides.length e3, .slice l4 c.broken.length e4]] W fun e w' => e = .returned (.bool false) ∧ Below W.heap.size W w') :
    Calls Try.prog 6 #[.agg #[.int .i64 T.steps, .slice a1 T.places.length c1, .slice a2 T.ways.length c2, .slice a3 T.groups.length c3, .slice a4 T.vehicles.length c4], .agg #[.slice p1 p.trips.length d1, .slice p2 p.rides.length d2], .agg #[.slice l1 c.late.length e1, .slice l2 c.absent.length e2, .slice l3 c.rides.length e3, .slice l4 c.broken.length e4], .int .u8 a, .int .u8 b] w
      fun e w' => e = .returned (.bool true) ∧ Below w.heap.size w w' := by
  have HWk := works_any
  have HHFew := Lib.hid HFew; clear HFew; have HHWk := Lib.hid HWk; clear HWk
  go_enter Try.func6, Try.ntmps6
  go_wp2_with (first | (go_at_call 15; refine (HHFew.out _ (by repeat (first | exact Below.refl _ _ | (refine bl_setCell ?_ _ _ ?_; rotate_left; focus (first | omega | (simp; done) | (simp; omega))) | refine bl_alloc ?_ _ | refine bl_step ?_ (by assumption) | refine bl_drew ?_ | refine bl_drewN ?_ _))).mono ?_; rintro e w1 ⟨rfl, hb1⟩; obtain ⟨_, _, _⟩ := bk (w.heap.size) hb1 (by (first | omega | (simp; done) | (simp; omega))); have hzhb1 := bsz hb1; (try simp only [World.size_alloc] at hzhb1)) | (go_at_call 16; refine (HHWk.out _).mono ?_; rintro e w2 ⟨rfl, hb2⟩; obtain ⟨_, _, _⟩ := bk (w.heap.size) hb2 (by (first | omega | (simp; done) | (simp; omega))); have hzhb2 := bsz hb2; (try simp only [World.size_alloc] at hzhb2)))
  go_ret
  exact ⟨rfl, (by repeat (first | exact Below.refl _ _ | (refine bl_setCell ?_ _ _ ?_; rotate_left; focus (first | omega | (simp; done) | (simp; omega))) | refine bl_alloc ?_ _ | refine bl_step ?_ (by assumption) | refine bl_drew ?_ | refine bl_drewN ?_ _))⟩

/-- Whatever is given. -/
theorem repd_all (T : Town) (a1 a2 a3 a4 : Option Addr) (c1 c2 c3 c4 : Nat) (p : Plan) (p1 p2 : Option Addr) (d1 d2 : Nat) (c : Case) (l1 l2 l3 l4 : Option Addr) (e1 e2 e3 e4 : Nat) (a b : Int) (w : World) (ha : 0 ≤ a ∧ a ≤ 255) (hb : 0 ≤ b ∧ b ≤ 255)
    (hT : TownU w.heap.size w a1 a2 a3 a4 T) (hP : PlanU w.heap.size w p1 p2 p) (hC : CaseU w.heap.size w l1 l2 l3 l4 c) :
    Calls Try.prog 6 #[.agg #[.int .i64 T.steps, .slice a1 T.places.length c1, .slice a2 T.ways.length c2, .slice a3 T.groups.length c3, .slice a4 T.vehicles.length c4], .agg #[.slice p1 p.trips.length d1, .slice p2 p.rides.length d2], .agg #[.slice l1 c.late.length e1, .slice l2 c.absent.length e2, .slice l3 c.rides.length e3, .slice l4 c.broken.length e4], .int .u8 a, .int .u8 b] w
      fun e w' => e = .returned (.bool true) ∧ Below w.heap.size w w' := by
  have hfew : ∀ W, Below w.heap.size w W → Calls Try.prog 15 #[.agg #[.int .i64 T.steps, .slice a1 T.places.length c1, .slice a2 T.ways.length c2, .slice a3 T.groups.length c3, .slice a4 T.vehicles.length c4], .agg #[.slice p1 p.trips.length d1, .slice p2 p.rides.length d2], .agg #[.slice l1 c.late.length e1, .slice l2 c.absent.length e2, .slice l3 c.rides.length e3, .slice l4 c.broken.length e4]] W fun e w' => FewP T p c e ∧ Below W.heap.size W w' := fun W hW =>
    few_any T _ _ _ _ _ _ _ _ p _ _ _ _ c l1 l2 l3 l4 e1 e2 e3 e4 w.heap.size W (hT.below hW) (hP.below hW) (hC.below hW) hW.size
  by_cases hf : FewB T p c ∧ FewT p.trips ∧ FewR p.rides
  · obtain ⟨f1, f2, f3⟩ := hf
    have hTM := hT.few f1
    have hPM := hP.few f1 f2 f3
    have hCM := hC.few f1
    refine repd_body T _ _ _ _ _ _ _ _ p _ _ _ _ c l1 l2 l3 l4 e1 e2 e3 e4 a b w ha hb
      (fun W hW => (hfew W hW).mono fun e w' ⟨⟨v, he, _⟩, hb⟩ => ⟨⟨v, he⟩, hb⟩) works_any
      (fun W hW => run_q T _ _ _ _ _ _ _ _ p _ _ _ _ c l1 l2 l3 l4 e1 e2 e3 e4 W ((hTM.below hW).mono hW.size) ((hPM.below hW).mono hW.size) ((hCM.below hW).mono hW.size)) (fun W m am em hW hm hz => ?_)
    refine (replay_any T _ _ _ _ _ _ _ _ p _ _ _ _ c l1 l2 l3 l4 e1 e2 e3 e4 m am em W ((hTM.below hW).mono hW.size) ((hPM.below hW).mono hW.size) ((hCM.below hW).mono hW.size) hm).mono ?_
    rintro e w' ⟨hb, ⟨hne, _⟩ | ⟨_, _, he⟩⟩
    · exact absurd hz hne
    · exact ⟨he, hb⟩
  · refine repd_no T _ _ _ _ _ _ _ _ p _ _ _ _ c l1 l2 l3 l4 e1 e2 e3 e4 a b w fun W hW => (hfew W hW).mono ?_
    rintro e w' ⟨⟨v, he, hv⟩, hb⟩
    refine ⟨?_, hb⟩
    cases v
    · exact he
    · exact absurd (hv rfl) hf

end Go.Proofs.Ytjoihijlcpnhoaa
