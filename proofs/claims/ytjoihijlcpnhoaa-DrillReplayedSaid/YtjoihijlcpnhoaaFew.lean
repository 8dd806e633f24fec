/- law11.few: where it answers true, all is few. -/
import Derived.Test.YtjoihijlcpnhoaaOpenT
namespace Go.Proofs.Ytjoihijlcpnhoaa
open Go.RowKit

/-- What few answers. -/
def FewP (T : Town) (p : Plan) (c : Case) (e : Ending) : Prop := ∃ v, e = .returned (.bool v) ∧ (v = true → FewB T p c ∧ FewT p.trips ∧ FewR p.rides)
theorem few_no {T : Town} {p : Plan} {c : Case} {e : Ending} (h : e = .returned (.bool false)) : FewP T p c e := ⟨false, h, fun h => by cases h⟩
theorem few_yes {T : Town} {p : Plan} {c : Case} {e : Ending} (h : e = .returned (.bool true)) (hf : FewB T p c) (ht : FewT p.trips) (hr : FewR p.rides) : FewP T p c e := ⟨true, h, fun _ => ⟨hf, ht, hr⟩⟩

set_option maxHeartbeats 8000000 in
set_option maxRecDepth 100000 in
theorem few_any (T : Town) (a1 a2 a3 a4 : Option Addr) (c1 c2 c3 c4 : Nat) (p : Plan) (p1 p2 : Option Addr) (d1 d2 : Nat) (c : Case) (l1 l2 l3 l4 : Option Addr) (e1 e2 e3 e4 B : Nat) (w : World) (hT : TownU B w a1 a2 a3 a4 T) (hP : PlanU B w p1 p2 p) (hC : CaseU B w l1 l2 l3 l4 c) (hB : B ≤ w.heap.size) :
    Calls Try.prog 15 #[.agg #[.int .i64 T.steps, .slice a1 T.places.length c1, .slice a2 T.ways.length c2, .slice a3 T.groups.length c3, .slice a4 T.vehicles.length c4], .agg #[.slice p1 p.trips.length d1, .slice p2 p.rides.length d2], .agg #[.slice l1 c.late.length e1, .slice l2 c.absent.length e2, .slice l3 c.rides.length e3, .slice l4 c.broken.length e4]] w
      fun e w' => FewP T p c e ∧ Below w.heap.size w w' := by
  have hl1 := hP.trips.1
  have hl2 := hP.rides.1
  have hc1 := hC.late.1
  have hc2 := hC.absent.1
  have hc3 := hC.rides.1
  have hc4 := hC.broken.1
  have ht1 := hT.places.1
  have ht2 := hT.ways.1
  have ht3 := hT.groups.1
  have ht4 := hT.vehicles.1
  have HhP := Lib.hid hP; clear hP; have HhC := Lib.hid hC; clear hC; have HhT := Lib.hid hT; clear hT
  by_cases g0 : 70 < T.places.length
  · go_enter Try.func15, Try.ntmps15
    go_upto_region 1 with fail
    simp only [List.append_eq, List.cons_append, List.nil_append]
    go_wp2_with fail
    all_goals (go_ret; refine ⟨few_no ?_, (by repeat (first | exact Below.refl _ _ | (refine bl_setCell ?_ _ _ ?_; rotate_left; focus (first | omega | (simp; done) | (simp; omega))) | refine bl_alloc ?_ _ | refine bl_step ?_ (by assumption) | refine bl_drew ?_ | refine bl_drewN ?_ _))⟩; first | rfl | simp)
  by_cases g1 : 70 < T.groups.length
  · go_enter Try.func15, Try.ntmps15
    go_upto_region 1 with fail
    simp only [List.append_eq, List.cons_append, List.nil_append]
    go_wp2_with fail
    all_goals (go_ret; refine ⟨few_no ?_, (by repeat (first | exact Below.refl _ _ | (refine bl_setCell ?_ _ _ ?_; rotate_left; focus (first | omega | (simp; done) | (simp; omega))) | refine bl_alloc ?_ _ | refine bl_step ?_ (by assumption) | refine bl_drew ?_ | refine bl_drewN ?_ _))⟩; first | rfl | simp)
  by_cases g2 : 70 < T.vehicles.length
  · go_enter Try.func15, Try.ntmps15
    go_upto_region 1 with fail
    simp only [List.append_eq, List.cons_append, List.nil_append]
    go_wp2_with fail
    all_goals (go_ret; refine ⟨few_no ?_, (by repeat (first | exact Below.refl _ _ | (refine bl_setCell ?_ _ _ ?_; rotate_left; focus (first | omega | (simp; done) | (simp; omega))) | refine bl_alloc ?_ _ | refine bl_step ?_ (by assumption) | refine bl_drew ?_ | refine bl_drewN ?_ _))⟩; first | rfl | simp)
  by_cases g3 : 260 < T.ways.length
  · go_enter Try.func15, Try.ntmps15
    go_upto_region 1 with fail
    simp only [List.append_eq, List.cons_append, List.nil_append]
    go_wp2_with fail
    all_goals (go_ret; refine ⟨few_no ?_, (by repeat (first | exact Below.refl _ _ | (refine bl_setCell ?_ _ _ ?_; rotate_left; focus (first | omega | (simp; done) | (simp; omega))) | refine bl_alloc ?_ _ | refine bl_step ?_ (by assumption) | refine bl_drew ?_ | refine bl_drewN ?_ _))⟩; first | rfl | simp)
  by_cases s1 : 60 < T.steps ∧ T.steps ≤ 200
  · obtain ⟨s2, s3⟩ := s1
    go_enter Try.func15, Try.ntmps15
    go_upto_region 1 with fail
    simp only [List.append_eq, List.cons_append, List.nil_append]
    go_wp2_with fail
    all_goals (go_ret; refine ⟨few_no ?_, (by repeat (first | exact Below.refl _ _ | (refine bl_setCell ?_ _ _ ?_; rotate_left; focus (first | omega | (simp; done) | (simp; omega))) | refine bl_alloc ?_ _ | refine bl_step ?_ (by assumption) | refine bl_drew ?_ | refine bl_drewN ?_ _))⟩; first | rfl | simp)
  by_cases g5 : 40 < p.trips.length
  · go_enter Try.func15, Try.ntmps15
    go_upto_region 1 with fail
    simp only [List.append_eq, List.cons_append, List.nil_append]
    go_wp2_with fail
    all_goals (go_ret; refine ⟨few_no ?_, (by repeat (first | exact Below.refl _ _ | (refine bl_setCell ?_ _ _ ?_; rotate_left; focus (first | omega | (simp; done) | (simp; omega))) | refine bl_alloc ?_ _ | refine bl_step ?_ (by assumption) | refine bl_drew ?_ | refine bl_drewN ?_ _))⟩; first | rfl | simp)
  by_cases g6 : 40 < p.rides.length
  · go_enter Try.func15, Try.ntmps15
    go_upto_region 1 with fail
    simp only [List.append_eq, List.cons_append, List.nil_append]
    go_wp2_with fail
    all_goals (go_ret; refine ⟨few_no ?_, (by repeat (first | exact Below.refl _ _ | (refine bl_setCell ?_ _ _ ?_; rotate_left; focus (first | omega | (simp; done) | (simp; omega))) | refine bl_alloc ?_ _ | refine bl_step ?_ (by assumption) | refine bl_drew ?_ | refine bl_drewN ?_ _))⟩; first | rfl | simp)
  by_cases g7 : 50 < c.late.length
  · go_enter Try.func15, Try.ntmps15
    go_upto_region 1 with fail
    simp only [List.append_eq, List.cons_append, List.nil_append]
    go_wp2_with fail
    all_goals (go_ret; refine ⟨few_no ?_, (by repeat (first | exact Below.refl _ _ | (refine bl_setCell ?_ _ _ ?_; rotate_left; focus (first | omega | (simp; done) | (simp; omega))) | refine bl_alloc ?_ _ | refine bl_step ?_ (by assumption) | refine bl_drew ?_ | refine bl_drewN ?_ _))⟩; first | rfl | simp)
  by_cases g8 : 50 < c.absent.length
  · go_enter Try.func15, Try.ntmps15
    go_upto_region 1 with fail
    simp only [List.append_eq, List.cons_append, List.nil_append]
    go_wp2_with fail
    all_goals (go_ret; refine ⟨few_no ?_, (by repeat (first | exact Below.refl _ _ | (refine bl_setCell ?_ _ _ ?_; rotate_left; focus (first | omega | (simp; done) | (simp; omega))) | refine bl_alloc ?_ _ | refine bl_step ?_ (by assumption) | refine bl_drew ?_ | refine bl_drewN ?_ _))⟩; first | rfl | simp)
  by_cases g9 : 50 < c.rides.length
  · go_enter Try.func15, Try.ntmps15
    go_upto_region 1 with fail
    simp only [List.append_eq, List.cons_append, List.nil_append]
    go_wp2_with fail
    all_goals (go_ret; refine ⟨few_no ?_, (by repeat (first | exact Below.refl _ _ | (refine bl_setCell ?_ _ _ ?_; rotate_left; focus (first | omega | (simp; done) | (simp; omega))) | refine bl_alloc ?_ _ | refine bl_step ?_ (by assumption) | refine bl_drew ?_ | refine bl_drewN ?_ _))⟩; first | rfl | simp)
  by_cases g10 : 50 < c.broken.length
  · go_enter Try.func15, Try.ntmps15
    go_upto_region 1 with fail
    simp only [List.append_eq, List.cons_append, List.nil_append]
    go_wp2_with fail
    all_goals (go_ret; refine ⟨few_no ?_, (by repeat (first | exact Below.refl _ _ | (refine bl_setCell ?_ _ _ ?_; rotate_left; focus (first | omega | (simp; done) | (simp; omega))) | refine bl_alloc ?_ _ | refine bl_step ?_ (by assumption) | refine bl_drew ?_ | refine bl_drewN ?_ _))⟩; first | rfl | simp)
  have hfew : FewB T p c := by constructor <;> omega
  have Hhfew := Lib.hid hfew; clear hfew
  go_enter Try.func15, Try.ntmps15
  go_upto_region 1 with fail
  go_cut [76] from 9 to 116 (fun v wx => v = .bool false ∧ wx = (((w.alloc (.cells #[.int .i64 T.steps, .slice a1 T.places.length c1, .slice a2 T.ways.length c2, .slice a3 T.groups.length c3, .slice a4 T.vehicles.length c4] 27)).alloc (.cells #[.slice p1 p.trips.length d1, .slice p2 p.rides.length d2] 31)).alloc (.cells #[.slice l1 c.late.length e1, .slice l2 c.absent.length e2, .slice l3 c.rides.length e3, .slice l4 c.broken.length e4] 62)))
  case first =>
    simp only [List.append_eq, List.cons_append, List.nil_append]
    rcases Int.lt_or_le 60 T.steps with s2 | s2
    · have s3 : 200 < T.steps := by omega
      go_wp2_with fail
      all_goals (go_meet; refine ⟨congrArg Value.bool ?_, rfl⟩; simp only [Bool.or_eq_false_iff, decide_eq_false_iff_not]; omega)
    · go_wp2_with fail
      all_goals (go_meet; refine ⟨congrArg Value.bool ?_, rfl⟩; simp only [Bool.or_eq_false_iff, decide_eq_false_iff_not]; omega)
  case rest =>
  obtain ⟨rfl, rfl⟩ := hcut
  have hb0 : Below w.heap.size w (((w.alloc (.cells #[.int .i64 T.steps, .slice a1 T.places.length c1, .slice a2 T.ways.length c2, .slice a3 T.groups.length c3, .slice a4 T.vehicles.length c4] 27)).alloc (.cells #[.slice p1 p.trips.length d1, .slice p2 p.rides.length d2] 31)).alloc (.cells #[.slice l1 c.late.length e1, .slice l2 c.absent.length e2, .slice l3 c.rides.length e3, .slice l4 c.broken.length e4] 62)) := (by repeat (first | exact Below.refl _ _ | (refine bl_setCell ?_ _ _ ?_; rotate_left; focus (first | omega | (simp; done) | (simp; omega))) | refine bl_alloc ?_ _ | refine bl_step ?_ (by assumption) | refine bl_drew ?_ | refine bl_drewN ?_ _))
  have HhP' := Lib.hid (HhP.out.below (hb0.mono hB))
  have y1 : (((w.alloc (.cells #[.int .i64 T.steps, .slice a1 T.places.length c1, .slice a2 T.ways.length c2, .slice a3 T.groups.length c3, .slice a4 T.vehicles.length c4] 27)).alloc (.cells #[.slice p1 p.trips.length d1, .slice p2 p.rides.length d2] 31)).alloc (.cells #[.slice l1 c.late.length e1, .slice l2 c.absent.length e2, .slice l3 c.rides.length e3, .slice l4 c.broken.length e4] 62)).heap[w.heap.size + 1]? = some (.cells #[.slice p1 p.trips.length d1, .slice p2 p.rides.length d2] 31 (0, 0)) := by repeat (first | with_reducible assumption | (with_reducible refine heap_alloc_at' _ _ ?_; focus (simp; done)) | with_reducible refine heap_alloc_off ?_ _ | (with_reducible refine heap_setCell_off ?_ _ ?_; rotate_left; focus omega) | with_reducible refine heap_drew' ?_ | with_reducible refine heap_drewN' ?_ | with_reducible refine heap_below (by with_reducible assumption) ?_)
  have hs : (((w.alloc (.cells #[.int .i64 T.steps, .slice a1 T.places.length c1, .slice a2 T.ways.length c2, .slice a3 T.groups.length c3, .slice a4 T.vehicles.length c4] 27)).alloc (.cells #[.slice p1 p.trips.length d1, .slice p2 p.rides.length d2] 31)).alloc (.cells #[.slice l1 c.late.length e1, .slice l2 c.absent.length e2, .slice l3 c.rides.length e3, .slice l4 c.broken.length e4] 62)).heap.size = w.heap.size + 3 := by simp
  generalize (((w.alloc (.cells #[.int .i64 T.steps, .slice a1 T.places.length c1, .slice a2 T.ways.length c2, .slice a3 T.groups.length c3, .slice a4 T.vehicles.length c4] 27)).alloc (.cells #[.slice p1 p.trips.length d1, .slice p2 p.rides.length d2] 31)).alloc (.cells #[.slice l1 c.late.length e1, .slice l2 c.absent.length e2, .slice l3 c.rides.length e3, .slice l4 c.broken.length e4] 62)) = W at hb0 HhP' y1 hs
  have y1l := lt_of_heap y1
  have y1c := cells_of y1
  clear s1 g0 g1 g2 g3 g5 g6 g7 g8 g9 g10 y1
  go_wp2_with fail
  go_loopw [7] (fun i wr => ∃ k : Nat, k ≤ p.trips.length ∧ i = .int .i64 k ∧ wr = W ∧ Hid (∀ x ∈ p.trips.take k, x.hops.length ≤ 70)) (fun i _ => p.trips.length - (intOf i).toNat)
  case atStart => exact ⟨0, Nat.zero_le _, rfl, rfl, Lib.hid (fun x hx => by simp at hx)⟩
  case round =>
    obtain ⟨k, hk, rfl, rfl, hr⟩ := hrel
    by_cases hlt : k < p.trips.length
    · obtain ⟨b, off, rfl, hbb, a, d, f0, f1, f2, f3, hsl⟩ := HhP'.out.trips.2 k hlt
      have hhl := hsl.1
      obtain ⟨x, hx⟩ : ∃ x, x = p.trips[k] := ⟨_, rfl⟩
      rw [← hx] at f2 hhl
      have hbr : b < wr.heap.size := by omega
      have hnx : 70 < x.hops.length ∨ x.hops.length ≤ 70 := by omega
      clear f0 f1 f3 hsl
      have Hhx := Lib.hid hx; clear hx
      rcases hnx with hn | hn
      · go_wp2_with fail
        go_ret
        refine ⟨few_no ?_, hb0⟩
        first | rfl | simp
      · go_wp2_with fail
        go_roundw
        case rel => exact ⟨k + 1, by omega, by go_num, trivial, Lib.hid (fun y hy => by
          rw [List.take_succ_eq_append_getElem hlt, List.mem_append] at hy
          rcases hy with hy | hy
          · exact hr.out y hy
          · rw [List.mem_singleton.1 hy, ← Hhx.out]; exact hn)⟩
        case measure => simp [intOf]; omega
    · obtain rfl : k = p.trips.length := by omega
      have hft : FewT p.trips := fun x hx => hr.out x (by rw [List.take_length]; exact hx)
      clear hr
      have Hhft := Lib.hid hft; clear hft
      go_wp2_with fail
      go_loopw [8] (fun i wx => ∃ k : Nat, k ≤ p.rides.length ∧ i = .int .i64 k ∧ wx = wr ∧ Hid (∀ x ∈ p.rides.take k, x.hops.length ≤ 70 ∧ x.boards.length ≤ 70)) (fun i _ => p.rides.length - (intOf i).toNat)
      case atStart => exact ⟨0, Nat.zero_le _, rfl, rfl, Lib.hid (fun x hx => by simp at hx)⟩
      case round =>
        obtain ⟨k, hk, rfl, rfl, hr⟩ := hrel
        by_cases hlt : k < p.rides.length
        · obtain ⟨b, off, rfl, hbb, a, d, a', d', f0, f1, f2, hsl, hsl'⟩ := HhP'.out.rides.2 k hlt
          have hhl := hsl.1
          have hhl' := hsl'.1
          obtain ⟨x, hx⟩ : ∃ x, x = p.rides[k] := ⟨_, rfl⟩
          rw [← hx] at f1 f2 hhl hhl'
          have hbr : b < wr.heap.size := by omega
          have hnx : 70 < x.hops.length ∨ x.hops.length ≤ 70 := by omega
          have hnx' : 70 < x.boards.length ∨ x.boards.length ≤ 70 := by omega
          clear f0 hsl hsl'
          have Hhx := Lib.hid hx; clear hx
          rcases hnx with hn | hn
          · go_wp2_with fail
            go_ret
            refine ⟨few_no ?_, hb0⟩
            first | rfl | simp
          · rcases hnx' with hn' | hn'
            · go_wp2_with fail
              go_ret
              refine ⟨few_no ?_, hb0⟩
              first | rfl | simp
            · go_wp2_with fail
              go_roundw
              case rel => exact ⟨k + 1, by omega, by go_num, trivial, Lib.hid (fun y hy => by
                rw [List.take_succ_eq_append_getElem hlt, List.mem_append] at hy
                rcases hy with hy | hy
                · exact hr.out y hy
                · rw [List.mem_singleton.1 hy, ← Hhx.out]; exact ⟨hn, hn'⟩)⟩
              case measure => simp [intOf]; omega
        · obtain rfl : k = p.rides.length := by omega
          have hfr : FewR p.rides := fun x hx => hr.out x (by rw [List.take_length]; exact hx)
          clear hr
          have Hhfr := Lib.hid hfr; clear hfr
          go_wp2_with fail
          go_ret
          refine ⟨few_yes ?_ Hhfew.out Hhft.out Hhfr.out, hb0⟩
          first | rfl | simp

end Go.Proofs.Ytjoihijlcpnhoaa
