/- town: checked: the trips. -/
import Derived.Test.YtjoihijlcpnhoaaCkR
namespace Go.Proofs.Ytjoihijlcpnhoaa
open Go.RowKit

set_option maxHeartbeats 16000000 in
set_option maxRecDepth 100000 in
theorem ck_good (T : Town) (a1 a2 a3 a4 : Option Addr) (c1 c2 c3 c4 : Nat) (p : Plan) (p1 p2 : Option Addr) (d1 d2 : Nat) (B : Nat) (w : World) (hT : TownM B w a1 a2 a3 a4 T) (hP : PlanM B w p1 p2 p) (hB : B ≤ w.heap.size) (h : checkT T = 0) (hl : longP p = false) :
    Calls Try.prog 29 #[.agg #[.int .i64 T.steps, .slice a1 T.places.length c1, .slice a2 T.ways.length c2, .slice a3 T.groups.length c3, .slice a4 T.vehicles.length c4], .agg #[.slice p1 p.trips.length d1, .slice p2 p.rides.length d2]] w (CkPost T a1 a2 a3 a4 c1 c2 c3 c4 w (checkedT T p)) := by
  have hv := checkedT_good h hl
  have hG := checkT_zero h
  rw [longP_eq] at hl
  simp only [Bool.or_eq_false_iff, decide_eq_false_iff_not] at hl
  obtain ⟨⟨⟨q1, q2⟩, q3⟩, q4⟩ := hl
  have hl1 := hP.trips.1
  have hl2 := hP.rides.1
  have r1 : decide (4096 < (p.trips.length : Int)) = false := by simp; omega
  have r2 : decide (256 < (p.rides.length : Int)) = false := by simp; omega
  have hC : ∀ W, Below B w W → B ≤ W.heap.size → Calls Try.prog 50 #[.agg #[.int .i64 T.steps, .slice a1 T.places.length c1, .slice a2 T.ways.length c2, .slice a3 T.groups.length c3, .slice a4 T.vehicles.length c4]] W fun e w' => e = .returned (.int .i64 0) ∧ Below W.heap.size W w' := by
    intro W hW hBW
    rw [← h]
    exact check_any T _ _ _ _ _ _ _ _ B W (hT.below hW) hBW
  have HhC := Lib.hid hC; clear hC; have HhT := Lib.hid hT; clear hT; have HhP := Lib.hid hP; clear hP; have Hh := Lib.hid h; clear h; have Hq1 := Lib.hid q1; clear q1; have Hq2 := Lib.hid q2; clear q2; have Hhv := Lib.hid hv; clear hv; have HhG := Lib.hid hG; clear hG
  go_enter Try.func29, Try.ntmps29
  go_upto_region 7 with (first
    | (go_at_call 50; refine (HhC.out _ ((show Below w.heap.size w _ from (by repeat (first | exact Below.refl _ _ | (refine bl_setCell ?_ _ _ ?_; rotate_left; focus (first | omega | (simp; done) | (simp; omega))) | refine bl_alloc ?_ _ | refine bl_step ?_ (by assumption) | refine bl_drew ?_ | refine bl_drewN ?_ _))).mono hB) (by (first | omega | (simp; done) | (simp; omega)))).mono ?_; rintro e w1 ⟨rfl, hb1⟩; obtain ⟨_, _, _⟩ := bk (w.heap.size) hb1 (by (first | omega | (simp; done) | (simp; omega))); obtain ⟨_, _, _⟩ := bk (w.heap.size + 1) hb1 (by (first | omega | (simp; done) | (simp; omega))); have hzhb1 := bsz hb1; (try simp only [World.size_alloc] at hzhb1))
    | (go_at_call 51; refine (tripLong_val p.trips p1 d1 B false q3 _ (HhP.out.below ((show Below w.heap.size w _ from (by repeat (first | exact Below.refl _ _ | (refine bl_setCell ?_ _ _ ?_; rotate_left; focus (first | omega | (simp; done) | (simp; omega))) | refine bl_alloc ?_ _ | refine bl_step ?_ (by assumption) | refine bl_drew ?_ | refine bl_drewN ?_ _))).mono hB)).trips (by (first | omega | (simp; done) | (simp; omega)))).mono ?_; rintro e w2 ⟨rfl, hb2⟩; obtain ⟨_, _, _⟩ := bk (w.heap.size) hb2 (by (first | omega | (simp; done) | (simp; omega))); obtain ⟨_, _, _⟩ := bk (w.heap.size + 1) hb2 (by (first | omega | (simp; done) | (simp; omega))); have hzhb2 := bsz hb2; (try simp only [World.size_alloc] at hzhb2))
    | (go_at_call 53; refine (rideLong_val p.rides p2 d2 B false q4 _ (HhP.out.below ((show Below w.heap.size w _ from (by repeat (first | exact Below.refl _ _ | (refine bl_setCell ?_ _ _ ?_; rotate_left; focus (first | omega | (simp; done) | (simp; omega))) | refine bl_alloc ?_ _ | refine bl_step ?_ (by assumption) | refine bl_drew ?_ | refine bl_drewN ?_ _))).mono hB)).rides (by (first | omega | (simp; done) | (simp; omega)))).mono ?_; rintro e w3 ⟨rfl, hb3⟩; obtain ⟨_, _, _⟩ := bk (w.heap.size) hb3 (by (first | omega | (simp; done) | (simp; omega))); obtain ⟨_, _, _⟩ := bk (w.heap.size + 1) hb3 (by (first | omega | (simp; done) | (simp; omega))); have hzhb3 := bsz hb3; (try simp only [World.size_alloc] at hzhb3)))
  go_cut [8] from 27 to 56 (fun v wx => ∃ ab mb, v = .pointer (some ⟨ab, 0, none⟩) ∧ CkS T a1 a2 a3 a4 c1 c2 c3 c4 p p1 p2 d1 d2 w ab mb ⟨[], false, false⟩ wx)
  case first =>
    have hz3 : w.heap.size + 1 < w3.heap.size := by omega
    have hmm := @run_makeMap Try.prog
    go_wp2_with fail
    clear hmm
    go_meet
    refine ⟨w3.heap.size + 1, w3.heap.size, rfl, (by repeat (first | exact Below.refl _ _ | (refine bl_setCell ?_ _ _ ?_; rotate_left; focus (first | omega | (simp; done) | (simp; omega))) | refine bl_alloc ?_ _ | refine bl_step ?_ (by assumption) | refine bl_drew ?_ | refine bl_drewN ?_ _)), (by repeat (first | with_reducible assumption | (with_reducible refine heap_alloc_at' _ _ ?_; focus (simp; done)) | with_reducible refine heap_alloc_off ?_ _ | (with_reducible refine heap_setCell_off ?_ _ ?_; rotate_left; focus omega) | with_reducible refine heap_drew' ?_ | with_reducible refine heap_drewN' ?_ | with_reducible refine heap_below (by with_reducible assumption) ?_)), (by repeat (first | with_reducible assumption | (with_reducible refine heap_alloc_at' _ _ ?_; focus (simp; done)) | with_reducible refine heap_alloc_off ?_ _ | (with_reducible refine heap_setCell_off ?_ _ ?_; rotate_left; focus omega) | with_reducible refine heap_drew' ?_ | with_reducible refine heap_drewN' ?_ | with_reducible refine heap_below (by with_reducible assumption) ?_)), ⟨heap_alloc_at' _ _ (by simp), (MapE.made encT intV w3).same ((MapKept.heap_alloc _ _).2 _ (by simp)), by omega, AccG.nil, GoodKeys.nil⟩, by omega, by omega⟩
  case rest =>
    obtain ⟨ab, mb, rfl, hck⟩ := hcut
    have hr0 := Hhv
    have btc := cells_of hck.bt
    have bpc := cells_of hck.bp
    have btl := lt_of_heap hck.bt
    have bpl := lt_of_heap hck.bp
    go_wp2_with fail
    go_loopw [60] (fun i wr => ∃ (k : Nat) (a : Acc), k ≤ p.trips.length ∧ i = .int .i64 k ∧ CkS T a1 a2 a3 a4 c1 c2 c3 c4 p p1 p2 d1 d2 w ab mb a wr ∧ Hid (checkedT T p = ckRides T p (tripsRun T a (p.trips.drop k)))) (fun i _ => p.trips.length - (intOf i).toNat)
    case atStart => exact ⟨0, _, Nat.zero_le _, rfl, hck, hr0⟩
    case round =>
      clear btc bpc btl bpl hck
      obtain ⟨k, a, hk, rfl, hck, hr⟩ := hrel
      have btc := cells_of hck.bt
      have bpc := cells_of hck.bp
      have btl := lt_of_heap hck.bt
      have bpl := lt_of_heap hck.bp
      have hab := hck.hab
      have hmb := hck.hmb
      have abl := lt_of_heap hck.am.blk
      have mbl := hck.am.mp.lt
      have hBr : B ≤ wr.heap.size := Nat.le_trans hB hck.bl.size
      by_cases hlt : k < p.trips.length
      · obtain ⟨b, off, hp1, hbb, he⟩ := HhP.out.trips.2 k hlt
        obtain ⟨x, hx⟩ : ∃ x, x = p.trips[k] := ⟨_, rfl⟩
        rw [← hx] at he
        obtain ⟨a', c', e0, e1, e2, e3, hsl⟩ := he
        obtain ⟨c', hcq'⟩ : ∃ q, x.hops.length + c' = q := ⟨_, rfl⟩
        rw [hcq'] at e2
        clear hcq'
        have hB1 : Below B w wr := hck.bl.mono hB
        replace e0 := ek_cell hB1 hbb e0
        replace e1 := ek_cell hB1 hbb e1
        replace e2 := ek_cell hB1 hbb e2
        replace e3 := ek_cell hB1 hbb e3
        subst hp1
        have hbr : b < wr.heap.size := by omega
        have hll := hsl.1
        obtain ⟨⟨t1, t2, t3⟩, ht⟩ : ∃ v, tripT T x = v := ⟨_, rfl⟩
        have hTr : ∀ W, Below B w W → B ≤ W.heap.size → Calls Try.prog 55 #[.agg #[.int .i64 T.steps, .slice a1 T.places.length c1, .slice a2 T.ways.length c2, .slice a3 T.groups.length c3, .slice a4 T.vehicles.length c4], .agg #[.int .i64 x.group, .int .i64 x.count, .slice a' x.hops.length c', .int .i64 x.enter]] W fun e w' => e = .returned (.tuple #[.agg #[.int .i64 t1, .int .i64 t2], .int .i64 t3]) ∧ Below W.heap.size W w' := by
          intro W hW hBW
          have := trip_any T a1 a2 a3 a4 c1 c2 c3 c4 B x a' c' W HhG.out (HhT.out.below hW) (hsl.below (ek_hop B) hW) hBW
          rw [ht] at this
          exact this
        have hdr := tripsRun_drop T a p.trips k hlt
        rw [← hx, ht] at hdr
        simp only at hdr
        have Hhx := Lib.hid hx; clear hx; have Hhck := Lib.hid hck; clear hck; have HhTr := Lib.hid hTr; clear hTr; have Hhsl := Lib.hid hsl; clear hsl; have HhB1 := Lib.hid hB1; clear hB1; have Hht := Lib.hid ht; clear ht
        by_cases q : t3 = 0
        · have q' : (t3 != 0) = false := by simp [q]
          rw [if_pos q] at hdr
          have Hhdr := Lib.hid hdr; clear hdr
          go_upto_region 14 with (go_at_call 55; refine (HhTr.out _ (HhB1.out.trans ((show Below wr.heap.size wr _ from (by repeat (first | exact Below.refl _ _ | (refine bl_setCell ?_ _ _ ?_; rotate_left; focus (first | omega | (simp; done) | (simp; omega))) | refine bl_alloc ?_ _ | refine bl_step ?_ (by assumption) | refine bl_drew ?_ | refine bl_drewN ?_ _))).mono hBr)) (by (first | omega | (simp; done) | (simp; omega)))).mono ?_; rintro e w4 ⟨rfl, hb4⟩; obtain ⟨_, _, _⟩ := bk (w.heap.size) hb4 (by (first | omega | (simp; done) | (simp; omega))); obtain ⟨_, _, _⟩ := bk (w.heap.size + 1) hb4 (by (first | omega | (simp; done) | (simp; omega))); obtain ⟨_, _, _⟩ := bk (wr.heap.size) hb4 (by (first | omega | (simp; done) | (simp; omega))); have hzhb4 := bsz hb4; (try simp only [World.size_alloc] at hzhb4))
          subst q
          obtain ⟨z1, z2, z3, z4, z5, z6, z7⟩ := tripT_zero HhG.out (show (tripT T x).2.2 = 0 by rw [Hht.out])
          rw [Hht.out] at z6 z7
          simp only at z6 z7
          have hb10 : (w4.alloc (.cells #[.int .i64 t1, .int .i64 t2] 121 (0, 0))).heap[wr.heap.size]? = some (.cells #[.int .i64 x.group, .int .i64 x.count, .slice a' x.hops.length c', .int .i64 x.enter] 41 (0, 0)) := (by repeat (first | with_reducible assumption | (with_reducible refine heap_alloc_at' _ _ ?_; focus (simp; done)) | with_reducible refine heap_alloc_off ?_ _ | (with_reducible refine heap_setCell_off ?_ _ ?_; rotate_left; focus omega) | with_reducible refine heap_drew' ?_ | with_reducible refine heap_drewN' ?_ | with_reducible refine heap_below (by with_reducible assumption) ?_))
          have hb11 : (w4.alloc (.cells #[.int .i64 t1, .int .i64 t2] 121 (0, 0))).heap[w4.heap.size]? = some (.cells #[.int .i64 t1, .int .i64 t2] 121 (0, 0)) := heap_alloc_at _ _
          have hck5 := Hhck.out.below (show Below wr.heap.size wr (w4.alloc (.cells #[.int .i64 t1, .int .i64 t2] 121 (0, 0))) from (by repeat (first | exact Below.refl _ _ | (refine bl_setCell ?_ _ _ ?_; rotate_left; focus (first | omega | (simp; done) | (simp; omega))) | refine bl_alloc ?_ _ | refine bl_step ?_ (by assumption) | refine bl_drew ?_ | refine bl_drewN ?_ _)))
          obtain ⟨w5, hw5⟩ : ∃ W, w4.alloc (.cells #[.int .i64 t1, .int .i64 t2] 121 (0, 0)) = W := ⟨_, rfl⟩
          obtain ⟨q11, hq11⟩ : ∃ n, w4.heap.size = n := ⟨_, rfl⟩
          obtain ⟨q10, hq10⟩ : ∃ n, wr.heap.size = n := ⟨_, rfl⟩
          rw [hw5] at hb10 hb11 hck5
          rw [hq11] at hb11
          rw [hq10] at hb10
          rw [hw5, hq11, hq10]
          have o1 : ¬ q10 ∈ [ab, mb] := by simp; omega
          have o2 : ¬ q11 ∈ [ab, mb] := by simp; omega
          have hdr5 : checkedT T p = ckRides T p (tripsRun T (enterT T (hopsUse T 1 x.count (useT T a ⟨0, x.group, 0⟩ x.count) x.hops) t1 t2 x.count) (p.trips.drop (k + 1))) := by rw [hr.out, Hhdr.out]; rfl
          have k1 : ThingG T ⟨0, x.group, 0⟩ := ⟨by simp, fun _ => z1, fun e => by simp at e, fun e => by simp at e⟩
          have hng := HhG.out.ng
          have hnw := HhG.out.nw
          have hst := HhG.out.steps
          have k1g : goodT ⟨0, x.group, 0⟩ := ⟨by unfold I64; simp, by unfold I64; simp only; omega, by unfold I64; simp⟩
          have hn0 : 0 ≤ x.count := by omega
          have hs2 : I64 t2 := by unfold I64; omega
          have b10c := cells_of hb10
          clear hzhb4 hb4 z7
          have Hhdr5 := Lib.hid hdr5; clear hdr5; have Hhck5 := Lib.hid hck5; clear hck5; have Hhb10 := Lib.hid hb10; clear hb10; have Hhb11 := Lib.hid hb11; clear hb11; have Hk1 := Lib.hid k1; clear k1; have Hk1g := Lib.hid k1g; clear k1g; have Hz4 := Lib.hid z4; clear z4
          go_wp2_with (go_at_call 56; refine (use_ck B HhG.out HhT.out hB Hhck5.out ⟨0, x.group, 0⟩ x.count Hk1.out Hk1g.out hn0).mono ?_; rintro e w6 ⟨rfl, hk6, hck6⟩; have hb10 := hk6.heap Hhb10.out o1; have hb11 := hk6.heap Hhb11.out o2; clear Hhb10 Hhb11 Hhck5; clear b10c; have b10c := cells_of hb10; have Hhb10 := Lib.hid hb10; clear hb10; have Hhb11 := Lib.hid hb11; clear hb11; have Hhck6 := Lib.hid hck6; clear hck6)
          obtain ⟨aF, haF⟩ : ∃ v, hopsUse T 1 x.count (useT T a ⟨0, x.group, 0⟩ x.count) x.hops = v := ⟨_, rfl⟩
          have hdr6 := Hhdr5.out
          rw [haF] at hdr6
          clear Hhdr5
          have Hhdr6 := Lib.hid hdr6; clear hdr6; have HhaF := Lib.hid haF; clear haF
          go_loopw [83] (fun i wr => ∃ (j : Nat) (aj : Acc), j ≤ x.hops.length ∧ i = .int .i64 j ∧ CkS T a1 a2 a3 a4 c1 c2 c3 c4 p (some ⟨b, off, none⟩) p2 d1 d2 w ab mb aj wr ∧ wr.heap[q10]? = some (.cells #[.int .i64 x.group, .int .i64 x.count, .slice a' x.hops.length c', .int .i64 x.enter] 41 (0, 0)) ∧ wr.heap[q11]? = some (.cells #[.int .i64 t1, .int .i64 t2] 121 (0, 0)) ∧ Hid (hopsUse T 1 x.count aj (x.hops.drop j) = aF)) (fun i _ => x.hops.length - (intOf i).toNat)
          case atStart => exact ⟨0, _, Nat.zero_le _, rfl, Hhck6.out, Hhb10.out, Hhb11.out, HhaF⟩
          case round =>
            clear Hhck6 Hhb10 Hhb11 HhaF b10c
            obtain ⟨j, aj, hj, rfl, hckj, hb10, hb11, hrj⟩ := hrel
            have b10c := cells_of hb10
            have b11c := cells_of hb11
            have b10l := lt_of_heap hb10
            have b11l := lt_of_heap hb11
            have abl2 := lt_of_heap hckj.am.blk
            have mbl2 := hckj.am.mp.lt
            have hsz2 := hckj.bl.size
            by_cases hlj : j < x.hops.length
            · obtain ⟨b2, off2, ha', hbb2, he2⟩ := Hhsl.out.2 j hlj
              obtain ⟨hp, hhp⟩ : ∃ h, h = x.hops[j] := ⟨_, rfl⟩
              rw [← hhp] at he2
              obtain ⟨f0, f1⟩ := he2
              have hB2 : Below B w wr := hckj.bl.mono hB
              replace f0 := ek_cell hB2 hbb2 f0
              replace f1 := ek_cell hB2 hbb2 f1
              subst ha'
              have hbr2 : b2 < wr.heap.size := by omega
              obtain ⟨hpu, hpo⟩ := Hz4.out hp (by rw [hhp]; exact List.getElem_mem hlj)
              have hpu' := unknown_not.1 hpu
              have hpo' := outside_not.1 hpo
              have k2 : ThingG T ⟨1, hp.way, hp.leave⟩ := ⟨by simp, fun e => by simp at e, fun _ => hpu', fun e => by simp at e⟩
              have k2g : goodT ⟨1, hp.way, hp.leave⟩ := ⟨by unfold I64; simp, by unfold I64; simp only; omega, by unfold I64; simp only; omega⟩
              have hdrj := hopsUse_drop T 1 x.count aj x.hops j hlj
              rw [← hhp] at hdrj
              have o3 : ¬ wr.heap.size ∈ [ab, mb] := by simp; omega
              have Hhhp := Lib.hid hhp; clear hhp; have Hhdrj := Lib.hid hdrj; clear hdrj; have Hk2 := Lib.hid k2; clear k2; have Hk2g := Lib.hid k2g; clear k2g; have Hhpu := Lib.hid hpu; clear hpu; have Hhpo := Lib.hid hpo; clear hpo; have Hhpu' := Lib.hid hpu'; clear hpu'; have Hhpo' := Lib.hid hpo'; clear hpo'; have HhB2 := Lib.hid hB2; clear hB2; have Hhckj := Lib.hid hckj; clear hckj; have Hhb10 := Lib.hid hb10; clear hb10; have Hhb11 := Lib.hid hb11; clear hb11
              go_wp2_with (go_at_call 56; refine (use_ck B HhG.out HhT.out hB (Hhckj.out.below (show Below wr.heap.size wr _ from (by repeat (first | exact Below.refl _ _ | (refine bl_setCell ?_ _ _ ?_; rotate_left; focus (first | omega | (simp; done) | (simp; omega))) | refine bl_alloc ?_ _ | refine bl_step ?_ (by assumption) | refine bl_drew ?_ | refine bl_drewN ?_ _)))) ⟨1, hp.way, hp.leave⟩ x.count Hk2.out Hk2g.out hn0).mono ?_; rintro e w7 ⟨rfl, hk7, hck7⟩)
              go_roundw
              case rel => exact ⟨j + 1, _, by omega, by go_num, hck7, hk7.heap (heap_alloc_off Hhb10.out _) o1, hk7.heap (heap_alloc_off Hhb11.out _) o2, Lib.hid (by rw [← Hhdrj.out]; exact hrj.out)⟩
              case measure => simp [intOf]; omega
            · have hdrj := hopsUse_end T 1 x.count aj x.hops j hlj
              have haF : aj = aF := by rw [← hdrj]; exact hrj.out
              subst haF
              have Hhckj := Lib.hid hckj; clear hckj; have Hhb10 := Lib.hid hb10; clear hb10; have Hhb11 := Lib.hid hb11; clear hb11; have Hhdrj := Lib.hid hdrj; clear hdrj
              go_wp2_with (go_at_call 57; refine (enter_ck B HhG.out HhT.out hB Hhckj.out t1 t2 x.count z6 hs2 hn0).mono ?_; rintro e w8 ⟨rfl, hk8, hck8⟩)
              go_roundw
              case rel => exact ⟨k + 1, _, by omega, by go_num, hck8, Hhdr6⟩
              case measure => simp [intOf]; omega
        · have q' : (t3 != 0) = true := by simpa using q
          rw [if_neg q] at hdr
          have Hhdr := Lib.hid hdr; clear hdr; have Hq := Lib.hid q; clear q
          go_wp2_with (go_at_call 55; refine (HhTr.out _ (HhB1.out.trans ((show Below wr.heap.size wr _ from (by repeat (first | exact Below.refl _ _ | (refine bl_setCell ?_ _ _ ?_; rotate_left; focus (first | omega | (simp; done) | (simp; omega))) | refine bl_alloc ?_ _ | refine bl_step ?_ (by assumption) | refine bl_drew ?_ | refine bl_drewN ?_ _))).mono hBr)) (by (first | omega | (simp; done) | (simp; omega)))).mono ?_; rintro e w4 ⟨rfl, hb4⟩; obtain ⟨_, _, _⟩ := bk (w.heap.size) hb4 (by (first | omega | (simp; done) | (simp; omega))); obtain ⟨_, _, _⟩ := bk (w.heap.size + 1) hb4 (by (first | omega | (simp; done) | (simp; omega))); obtain ⟨_, _, _⟩ := bk (wr.heap.size) hb4 (by (first | omega | (simp; done) | (simp; omega))); have hzhb4 := bsz hb4; (try simp only [World.size_alloc] at hzhb4))
          go_ret2
          refine ⟨?_, ?_⟩
          · have := Hhck.out.bl
            exact bl_step this (by repeat (first | exact Below.refl _ _ | (refine bl_setCell ?_ _ _ ?_; rotate_left; focus (first | omega | (simp; done) | (simp; omega))) | refine bl_alloc ?_ _ | refine bl_step ?_ (by assumption) | refine bl_drew ?_ | refine bl_drewN ?_ _))
          · have := hr.out
            rw [this, Hhdr.out]
            rfl
      · have hdr := tripsRun_end T a p.trips k hlt
        have hdr2 : checkedT T p = ckEnd (ridesRun T a (T.vehicles.map fun v => (v.place, 0)) p.rides) := by rw [hr.out, hdr]; rfl
        obtain ⟨base, hbase⟩ : ∃ n, wr.heap.size = n := ⟨_, rfl⟩
        have hbz : base ≤ wr.heap.size := by omega
        have habB : ab < base := by omega
        have hmbB : mb < base := by omega
        have hnv := HhG.out.nv
        obtain ⟨i0, hinf, hz0, hz1, hz2⟩ := info_parts infoM
        clear hdr hr hbase
        have Hhdr2 := Lib.hid hdr2; clear hdr2; have Hhck := Lib.hid hck; clear hck
        go_wp2_with fail
        go_loopw [15, 106] (fun u i wr => ∃ (k : Nat), k ≤ T.vehicles.length ∧ i = .int .i64 k ∧ CkS T a1 a2 a3 a4 c1 c2 c3 c4 p p1 p2 d1 d2 w ab mb a wr ∧ base ≤ wr.heap.size ∧ wr.ownsRow base 121 2 u k (wcells ((T.vehicles.take k).map fun v => (v.place, 0)))) (fun _ i _ => T.vehicles.length - (intOf i).toNat)
        case atStart => exact ⟨0, Nat.zero_le _, rfl, Hhck.out, hbz, World.ownsRow_nil _ _ _ _⟩
        case round =>
          clear btc bpc btl bpl Hhck hbz abl mbl hBr
          obtain ⟨kv, hkv, rfl, hck, hbz, hrow⟩ := hrel
          obtain ⟨av, cv, rfl⟩ := row_len hrow
          have btc := cells_of hck.bt
          have bpc := cells_of hck.bp
          have btl := lt_of_heap hck.bt
          have bpl := lt_of_heap hck.bp
          have hBr : B ≤ wr.heap.size := Nat.le_trans hB hck.bl.size
          by_cases hlv : kv < T.vehicles.length
          · obtain ⟨b, off, ha4, hbb, he⟩ := HhT.out.vehicles.2 kv hlv
            obtain ⟨x, hx⟩ : ∃ x, x = T.vehicles[kv] := ⟨_, rfl⟩
            rw [← hx] at he
            obtain ⟨e0, e1⟩ := he
            have hB1 : Below B w wr := hck.bl.mono hB
            replace e0 := ek_cell hB1 hbb e0
            replace e1 := ek_cell hB1 hbb e1
            subst ha4
            have hbr : b < wr.heap.size := by omega
            have hll := HhT.out.vehicles.1
            have htk : (T.vehicles.take (kv + 1)).map (fun v => (v.place, (0 : Int))) = (T.vehicles.take kv).map (fun v => (v.place, (0 : Int))) ++ [(x.place, 0)] := by
              rw [List.take_add_one, List.getElem?_eq_getElem hlv, ← hx]
              simp
            have hmax : kv + 1 ≤ maxLen := by unfold maxLen; omega
            have hnews : ∀ j u, [Value.int .i64 x.place, Value.int .i64 0][j]? = some u → ((wr.alloc (.cells #[.int .i64 x.place, .int .i64 x.seats] 50)).alloc (.cells #[.int .i64 x.place, .int .i64 0] 121)).cell? ((⟨wr.heap.size + 1, 0, none⟩ : Addr).add j) = some u := by
              intro j u hj
              have := news2 (wr.alloc (.cells #[.int .i64 x.place, .int .i64 x.seats] 50)) (.int .i64 x.place) (.int .i64 0) 121 j u hj
              simpa using this
            have Hhx := Lib.hid hx; clear hx; have Hhck := Lib.hid hck; clear hck; have HhB1 := Lib.hid hB1; clear hB1; have Hhrow := Lib.hid hrow; clear hrow; have Hhtk := Lib.hid htk; clear htk
            go_wp2_with (at_builtin; refine wpList_append_own_at _ rfl _ _ 152 rfl base 121 i0 (.agg #[.int .i64 0, .int .i64 0]) 2 16 Try.underlying152 hinf hz0 hz1 hz2 rfl (by decide) (.slice av kv cv) kv (wcells ((T.vehicles.take kv).map fun v => (v.place, 0))) rfl ((Hhrow.out.alloc _).alloc _) ⟨wr.heap.size + 1, 0, none⟩ 1 1 [.int .i64 x.place, .int .i64 0] rfl rfl hnews (by simp [Value.oneCell']) hmax (by omega) (by simp; omega) ?_; intro v1 w6 hown hgrow _ hloc; have hck6 := (Hhck.out.below (show Below wr.heap.size wr ((wr.alloc (.cells #[.int .i64 x.place, .int .i64 x.seats] 50)).alloc (.cells #[.int .i64 x.place, .int .i64 0] 121)) from (by repeat (first | exact Below.refl _ _ | (refine bl_setCell ?_ _ _ ?_; rotate_left; focus (first | omega | (simp; done) | (simp; omega))) | refine bl_alloc ?_ _ | refine bl_step ?_ (by assumption) | refine bl_drew ?_ | refine bl_drewN ?_ _)))).grown hgrow (fun r e => by have := (Hhrow.out.lt r e).1; omega); have hz6 := hgrow.size; simp only [World.size_alloc] at hz6; clear hnews hloc hgrow e0 e1; have Hhown := Lib.hid hown; clear hown; have Hhck6 := Lib.hid hck6; clear hck6)
            go_roundw
            case rel => exact ⟨kv + 1, by omega, by go_num, Hhck6.out, by omega, by rw [Hhtk.out, wcells_snoc]; exact Hhown.out⟩
            case measure => simp [intOf]; omega
          · obtain rfl : kv = T.vehicles.length := by omega
            rw [List.take_length] at hrow
            obtain ⟨ms, hms⟩ : ∃ m, T.vehicles.map (fun v => (v.place, (0 : Int))) = m := ⟨_, rfl⟩
            have hmsl : ms.length = T.vehicles.length := by rw [← hms]; simp
            have hmsS : AtS T ms := by rw [← hms]; exact AtS.start HhG.out
            have hdr3 : checkedT T p = ckEnd (ridesRun T a ms (p.rides.drop 0)) := by rw [Hhdr2.out, hms]; rfl
            rw [hms] at hrow
            have hpr : PairRow base 121 wr (.slice av T.vehicles.length cv) ms := ⟨by rw [hmsl]; exact hrow⟩
            clear hrow hinf hz0 hz1 hz2 Hhdr2 hms hkv
            have Hhck := Lib.hid hck; clear hck; have Hhpr := Lib.hid hpr; clear hpr; have HhmsS := Lib.hid hmsS; clear hmsS; have Hhdr3 := Lib.hid hdr3; clear hdr3
            go_wp2_with fail
            go_loopw [120] (fun i wr => ∃ (k : Nat) (a : Acc) (m : List (Int × Int)), k ≤ p.rides.length ∧ i = .int .i64 k ∧ CkS T a1 a2 a3 a4 c1 c2 c3 c4 p p1 p2 d1 d2 w ab mb a wr ∧ base ≤ wr.heap.size ∧ PairRow base 121 wr (.slice av T.vehicles.length cv) m ∧ m.length = T.vehicles.length ∧ AtS T m ∧ Hid (checkedT T p = ckEnd (ridesRun T a m (p.rides.drop k)))) (fun i _ => p.rides.length - (intOf i).toNat)
            case atStart => exact ⟨0, _, _, Nat.zero_le _, rfl, Hhck.out, hbz, Hhpr.out, hmsl, HhmsS.out, Lib.hid Hhdr3.out⟩
            case round =>
              clear btc bpc btl bpl Hhck hbz hBr Hhpr hmsl HhmsS Hhdr3
              obtain ⟨k, a, m, hk, rfl, hck, hbz, hpr, hml, hmS, hr⟩ := hrel
              have btc := cells_of hck.bt
              have bpc := cells_of hck.bp
              have btl := lt_of_heap hck.bt
              have bpl := lt_of_heap hck.bp
              have hab := hck.hab
              have hmb := hck.hmb
              have hBr : B ≤ wr.heap.size := Nat.le_trans hB hck.bl.size
              by_cases hlt : k < p.rides.length
              · obtain ⟨b, off, hp2, hbb, he⟩ := HhP.out.rides.2 k hlt
                obtain ⟨x, hx⟩ : ∃ x, x = p.rides[k] := ⟨_, rfl⟩
                rw [← hx] at he
                obtain ⟨a', c', a'', c'', e0, e1, e2, hsl, hbl⟩ := he
                obtain ⟨c', hcq'⟩ : ∃ q, x.hops.length + c' = q := ⟨_, rfl⟩
                rw [hcq'] at e1
                clear hcq'
                have hB1 : Below B w wr := hck.bl.mono hB
                replace e0 := ek_cell hB1 hbb e0
                replace e1 := ek_cell hB1 hbb e1
                replace e2 := ek_cell hB1 hbb e2
                subst hp2
                have hbr : b < wr.heap.size := by omega
                have hll := hsl.1
                have hll2 := hbl.1
                have hdr := ridesRun_drop T a m p.rides k hlt
                rw [← hx, hml] at hdr
                obtain ⟨vv, hvv⟩ : ∃ v, within x.vehicle 0 ((T.vehicles.length : Int) - 1) = v := ⟨_, rfl⟩
                rw [hvv] at hdr
                cases vv
                · simp only [Bool.not_false, if_true] at hdr
                  have hdr4 : checkedT T p = .bad 4 := by rw [hr.out, hdr]; rfl
                  clear hr hdr
                  have Hhx := Lib.hid hx; clear hx; have Hhck := Lib.hid hck; clear hck; have Hhsl := Lib.hid hsl; clear hsl; have Hhbl := Lib.hid hbl; clear hbl; have HhB1 := Lib.hid hB1; clear hB1; have Hhpr := Lib.hid hpr; clear hpr; have HhmS := Lib.hid hmS; clear hmS; have Hhdr4 := Lib.hid hdr4; clear hdr4
                  go_wp2_with ((go_at_call 49; refine (within_any _ _ _ _).mono ?_; rintro e w' ⟨rfl, rfl⟩))
                  go_ret2
                  exact ⟨bl_step Hhck.out.bl (by repeat (first | exact Below.refl _ _ | (refine bl_setCell ?_ _ _ ?_; rotate_left; focus (first | omega | (simp; done) | (simp; omega))) | refine bl_alloc ?_ _ | refine bl_step ?_ (by assumption) | refine bl_drew ?_ | refine bl_drewN ?_ _)), by rw [Hhdr4.out]; rfl⟩
                · simp only [Bool.not_true, Bool.false_eq_true, if_false] at hdr
                  obtain ⟨i0', i1'⟩ := (within_iff _ _ _).1 hvv
                  have i1 : x.vehicle < (T.vehicles.length : Int) := by omega
                  obtain ⟨vi, hvi⟩ : ∃ n : Nat, x.vehicle = (n : Int) := ⟨x.vehicle.toNat, by omega⟩
                  have hvl : vi < m.length := by omega
                  obtain ⟨g, cap, hsli, hgb, hgl, hgc⟩ := hpr.at (by omega)
                  simp only [Value.slice.injEq] at hsli
                  obtain ⟨rfl, hsl0, rfl⟩ := hsli
                  clear hsl0
                  obtain ⟨g0, g1⟩ := hgc vi hvl
                  obtain ⟨⟨mp, mt⟩, hmv⟩ : ∃ u, m[vi] = u := ⟨_, rfl⟩
                  have hmD : m.getD x.vehicle.toNat (0, 0) = (mp, mt) := by rw [hvi, Int.toNat_natCast, List.getD_eq_getElem?_getD, List.getElem?_eq_getElem hvl, hmv]; rfl
                  rw [hmv] at g0 g1
                  simp only at g0 g1
                  obtain ⟨hmp, hmt⟩ := hmS _ (hmv ▸ List.getElem_mem hvl : (mp, mt) ∈ m)
                  simp only at hmp hmt
                  rw [hmD] at hdr
                  simp only at hdr
                  obtain ⟨⟨t1, t2, t3⟩, ht⟩ : ∃ v, rideT T x mp mt = v := ⟨_, rfl⟩
                  rw [ht] at hdr
                  simp only at hdr
                  have hb19 := heap_alloc_at wr (.cells #[.int .i64 x.vehicle, .slice a' x.hops.length c', .slice a'' x.boards.length c''] 53)
                  have hck5 := hck.below (show Below wr.heap.size wr (wr.alloc (.cells #[.int .i64 x.vehicle, .slice a' x.hops.length c', .slice a'' x.boards.length c''] 53)) from (by repeat (first | exact Below.refl _ _ | (refine bl_setCell ?_ _ _ ?_; rotate_left; focus (first | omega | (simp; done) | (simp; omega))) | refine bl_alloc ?_ _ | refine bl_step ?_ (by assumption) | refine bl_drew ?_ | refine bl_drewN ?_ _)))
                  have hpr5 : PairRow base 121 (wr.alloc (.cells #[.int .i64 x.vehicle, .slice a' x.hops.length c', .slice a'' x.boards.length c''] 53)) (.slice (some ⟨g, 0, none⟩) T.vehicles.length cv) m := ⟨row_below hpr.row (by repeat (first | exact Below.refl _ _ | (refine bl_setCell ?_ _ _ ?_; rotate_left; focus (first | omega | (simp; done) | (simp; omega))) | refine bl_alloc ?_ _ | refine bl_step ?_ (by assumption) | refine bl_drew ?_ | refine bl_drewN ?_ _))⟩
                  have hbw5 : Below wr.heap.size wr (wr.alloc (.cells #[.int .i64 x.vehicle, .slice a' x.hops.length c', .slice a'' x.boards.length c''] 53)) := (by repeat (first | exact Below.refl _ _ | (refine bl_setCell ?_ _ _ ?_; rotate_left; focus (first | omega | (simp; done) | (simp; omega))) | refine bl_alloc ?_ _ | refine bl_step ?_ (by assumption) | refine bl_drew ?_ | refine bl_drewN ?_ _))
                  obtain ⟨w5, hw5⟩ : ∃ W, wr.alloc (.cells #[.int .i64 x.vehicle, .slice a' x.hops.length c', .slice a'' x.boards.length c''] 53) = W := ⟨_, rfl⟩
                  obtain ⟨q19, hq19⟩ : ∃ n, wr.heap.size = n := ⟨_, rfl⟩
                  rw [hw5] at hb19 hck5 hpr5 hbw5
                  rw [hq19] at hb19
                  have hz5 : w5.heap.size = q19 + 1 := by rw [← hw5, ← hq19]; simp
                  have hvt : x.vehicle.toNat = vi := by omega
                  have g05 : w5.cell? ⟨g, x.vehicle.toNat * 2, none⟩ = some (.int .i64 mp) := by rw [hvt]; exact ek_cell hbw5 hgl g0
                  have g15 : w5.cell? ⟨g, x.vehicle.toNat * 2 + 1, none⟩ = some (.int .i64 mt) := by rw [hvt]; exact ek_cell hbw5 hgl g1
                  have hRd : ∀ W, Below w5.heap.size w5 W → Calls Try.prog 58 #[.agg #[.int .i64 T.steps, .slice a1 T.places.length c1, .slice a2 T.ways.length c2, .slice a3 T.groups.length c3, .slice a4 T.vehicles.length c4], .agg #[.int .i64 x.vehicle, .slice a' x.hops.length c', .slice a'' x.boards.length c''], .agg #[.int .i64 mp, .int .i64 mt]] W fun e w' => e = .returned (.tuple #[.agg #[.int .i64 t1, .int .i64 t2], .int .i64 t3]) ∧ Below W.heap.size W w' := by
                    intro W hW
                    have hWB : Below B w W := (hck5.bl.mono hB).trans (hW.mono (by have := hck5.bl.size; omega))
                    have := ride_any T a1 a2 a3 a4 c1 c2 c3 c4 B x a' a'' c' c'' mp mt W HhG.out (HhT.out.below hWB) (hsl.below (ek_hop B) hWB) (hbl.below (ek_board B) hWB) (by have := hck5.bl.size; have := hW.size; omega) hmp hmt
                    rw [ht] at this
                    exact this
                  have b19c := cells_of hb19
                  have b19l := lt_of_heap hb19
                  have btc5 := cells_of hck5.bt
                  have btl5 := lt_of_heap hck5.bt
                  have hgl5 : g < w5.heap.size := by omega
                  have hx0 : 0 ≤ x.vehicle := i0'
                  clear hmv hmD g0 g1 hpr hck
                  have Hhx := Lib.hid hx; clear hx; have Hhsl := Lib.hid hsl; clear hsl; have Hhbl := Lib.hid hbl; clear hbl; have HhB1 := Lib.hid hB1; clear hB1; have Hhpr5 := Lib.hid hpr5; clear hpr5; have HhmS := Lib.hid hmS; clear hmS; have Hhck5 := Lib.hid hck5; clear hck5; have Hhb19 := Lib.hid hb19; clear hb19; have HhRd := Lib.hid hRd; clear hRd; have Hht := Lib.hid ht; clear ht; have Hhdr := Lib.hid hdr; clear hdr; have Hhbw5 := Lib.hid hbw5; clear hbw5; have Hhvi := Lib.hid hvi; clear hvi; have Hhw5 := Lib.hid hw5; clear hw5; have Hhq19 := Lib.hid hq19; clear hq19; have Hhml := Lib.hid hml; clear hml; have Hhz5 := Lib.hid hz5; clear hz5; have Hhvt := Lib.hid hvt; clear hvt; have Hhmp := Lib.hid hmp; clear hmp; have Hhmt := Lib.hid hmt; clear hmt
                  go_upto_region 33 with ((go_at_call 49; refine (within_any _ _ _ _).mono ?_; rintro e w' ⟨rfl, rfl⟩))
                  rw [Hhw5.out, Hhq19.out]
                  clear e0 e1 e2 btc bpc btl bpl
                  go_cut [20, 21] from 131 to 141 (fun v e wx => RdB t1 t2 t3 w5 v e wx)
                  case first =>
                    have hI : Below w5.heap.size w5 w5.drew := (Below.refl _ _).drew
                    refine wp_region_ordT (fun W => Below w5.heap.size w5 W) (.two [0, 1, 2, 3, 4, 5, 6] 7 (.one [8, 9, 10] 11 (.one [] 12 (.fin [13] none))) 11 (.one [] 7 (.one [8, 9, 10] 12 (.fin [13] none)))) (by kernel_rfl) (by kernel_rfl) hI ?_
                    refine otTwo ?_
                    (apply StI_plain (w0 := w5.drew) hI rfl rfl rfl rfl; (focus (intro W hW K hK; obtain ⟨_, _, _⟩ := bk w.heap.size hW btl5; obtain ⟨_, _, _⟩ := bk q19 hW b19l; obtain ⟨_, _, _⟩ := bk g hW hgl5; go_step; exact hK)); (focus rfl)); (apply StI_plain (w0 := w5.drew) hI rfl rfl rfl rfl; (focus (intro W hW K hK; obtain ⟨_, _, _⟩ := bk w.heap.size hW btl5; obtain ⟨_, _, _⟩ := bk q19 hW b19l; obtain ⟨_, _, _⟩ := bk g hW hgl5; go_step; exact hK)); (focus rfl)); (apply StI_plain (w0 := w5.drew) hI rfl rfl rfl rfl; (focus (intro W hW K hK; obtain ⟨_, _, _⟩ := bk w.heap.size hW btl5; obtain ⟨_, _, _⟩ := bk q19 hW b19l; obtain ⟨_, _, _⟩ := bk g hW hgl5; go_step; exact hK)); (focus rfl)); (apply StI_plain (w0 := w5.drew) hI rfl rfl rfl rfl; (focus (intro W hW K hK; obtain ⟨_, _, _⟩ := bk w.heap.size hW btl5; obtain ⟨_, _, _⟩ := bk q19 hW b19l; obtain ⟨_, _, _⟩ := bk g hW hgl5; go_step; exact hK)); (focus rfl)); (apply StI_plain (w0 := w5.drew) hI rfl rfl rfl rfl; (focus (intro W hW K hK; obtain ⟨_, _, _⟩ := bk w.heap.size hW btl5; obtain ⟨_, _, _⟩ := bk q19 hW b19l; obtain ⟨_, _, _⟩ := bk g hW hgl5; go_step; exact hK)); (focus rfl)); (apply StI_plain (w0 := w5.drew) hI rfl rfl rfl rfl; (focus (intro W hW K hK; obtain ⟨_, _, _⟩ := bk w.heap.size hW btl5; obtain ⟨_, _, _⟩ := bk q19 hW b19l; obtain ⟨_, _, _⟩ := bk g hW hgl5; go_step; exact hK)); (focus rfl)); (apply StI_plain (w0 := w5.drew) hI rfl rfl rfl rfl; (focus (intro W hW K hK; obtain ⟨_, _, _⟩ := bk w.heap.size hW btl5; obtain ⟨_, _, _⟩ := bk q19 hW b19l; obtain ⟨_, _, _⟩ := bk g hW hgl5; go_step; exact hK)); (focus rfl))
                    refine StI_nil ⟨?_, ?_⟩
                    · (apply wpOp_eff rfl; go_wp2_with (first | (go_at_call 58; refine (HhRd.out _ hI).mono ?_; rintro e x1 ⟨rfl, hy1⟩)))
                      have hI1 : Below w5.heap.size w5 x1 := below_on hI (Nat.le_refl _) hy1
                      refine otN hI1 (otOne ?_)
                      (apply StI_plain (w0 := x1) hI1 rfl rfl rfl rfl; (focus (intro W hW K hK; skip; go_step; exact hK)); (focus rfl)); (apply StI_plain (w0 := x1) hI1 rfl rfl rfl rfl; (focus (intro W hW K hK; skip; go_step; exact hK)); (focus rfl)); (apply StI_plain (w0 := x1) hI1 rfl rfl rfl rfl; (focus (intro W hW K hK; skip; go_step; exact hK)); (focus rfl))
                      (apply StI_eff rfl; go_wp2_with (first | fail))
                      have hqq : w5.heap.size ≤ x1.heap.size := hI1.size
                      have hIa : Below w5.heap.size w5 (x1.alloc (.cells #[.int .i64 0, .int .i64 0] 121)) := hI1.alloc hqq _
                      have xq := heap_alloc_at x1 (.cells #[.int .i64 0, .int .i64 0] 121)
                      generalize (x1.alloc (.cells #[.int .i64 0, .int .i64 0] 121)) = xa at hIa xq ⊢
                      refine otN hIa (otOne ?_)
                      have xqc := cells_of xq
                      have xqf := frozen_of xq
                      have xql := lt_of_heap xq
                      have Hxq := Lib.hid xq; clear xq
                      (apply StI_eff rfl; go_wp2_with (first | fail))
                      have hIz := below_two hIa hqq (.int .i64 t1) (.int .i64 t2)
                      refine otN hIz (otFin ?_)
                      (apply StI_plain (w0 := ((xa.setCell ⟨x1.heap.size, 0, none⟩ (.int .i64 t1)).setCell ⟨x1.heap.size, 1, none⟩ (.int .i64 t2))) hIz rfl rfl rfl rfl; (focus (intro W hW K hK; skip; go_step; exact hK)); (focus rfl))
                      refine StI_nil ?_
                      go_wp2_with fail
                      go_meet
                      exact ⟨_, rfl, rfl, hqq, two_at Hxq.out _ _, hIz⟩
                    · (apply wpOp_eff rfl; go_wp2_with (first | fail))
                      have hqq : w5.heap.size ≤ w5.heap.size := Nat.le_refl _
                      have hIa : Below w5.heap.size w5 (w5.alloc (.cells #[.int .i64 0, .int .i64 0] 121)).drew := ((Below.refl _ _).alloc hqq _).drew
                      have xq : (w5.alloc (.cells #[.int .i64 0, .int .i64 0] 121)).drew.heap[w5.heap.size]? = some (.cells #[.int .i64 0, .int .i64 0] 121 (0, 0)) := heap_drew' (heap_alloc_at w5 (.cells #[.int .i64 0, .int .i64 0] 121))
                      generalize (w5.alloc (.cells #[.int .i64 0, .int .i64 0] 121)).drew = xa at hIa xq ⊢
                      refine otN hIa (otOne ?_)
                      (apply StI_eff rfl; go_wp2_with (first | (go_at_call 58; refine (HhRd.out _ hIa).mono ?_; rintro e x1 ⟨rfl, hy1⟩)))
                      have hI1 : Below w5.heap.size w5 x1 := below_on hIa hIa.size hy1
                      replace xq := heap_below hy1 xq
                      refine otN hI1 (otOne ?_)
                      (apply StI_plain (w0 := x1) hI1 rfl rfl rfl rfl; (focus (intro W hW K hK; skip; go_step; exact hK)); (focus rfl)); (apply StI_plain (w0 := x1) hI1 rfl rfl rfl rfl; (focus (intro W hW K hK; skip; go_step; exact hK)); (focus rfl)); (apply StI_plain (w0 := x1) hI1 rfl rfl rfl rfl; (focus (intro W hW K hK; skip; go_step; exact hK)); (focus rfl))
                      have xqc := cells_of xq
                      have xqf := frozen_of xq
                      have xql := lt_of_heap xq
                      have Hxq := Lib.hid xq; clear xq
                      (apply StI_eff rfl; go_wp2_with (first | fail))
                      have hIz := below_two hI1 hqq (.int .i64 t1) (.int .i64 t2)
                      refine otN hIz (otFin ?_)
                      (apply StI_plain (w0 := ((x1.setCell ⟨w5.heap.size, 0, none⟩ (.int .i64 t1)).setCell ⟨w5.heap.size, 1, none⟩ (.int .i64 t2))) hIz rfl rfl rfl rfl; (focus (intro W hW K hK; skip; go_step; exact hK)); (focus rfl))
                      refine StI_nil ?_
                      go_wp2_with fail
                      go_meet
                      exact ⟨_, rfl, rfl, hqq, two_at Hxq.out _ _, hIz⟩
                  case rest =>
                    obtain ⟨q20, rfl, rfl, hq20, hb20, hb5c⟩ := hcut
                    have hckc := Hhck5.out.below hb5c
                    have hprc : PairRow base 121 wc (.slice (some ⟨g, 0, none⟩) T.vehicles.length cv) m := ⟨row_below Hhpr5.out.row hb5c⟩
                    have hb19c := heap_below hb5c Hhb19.out
                    have g0c : wc.cell? ⟨g, x.vehicle.toNat * 2, none⟩ = some (.int .i64 mp) := ek_cell hb5c hgl5 g05
                    have g1c : wc.cell? ⟨g, x.vehicle.toNat * 2 + 1, none⟩ = some (.int .i64 mt) := ek_cell hb5c hgl5 g15
                    have gfc := hprc.frozen
                    clear g05 g15 b19c btc5 HhRd Hhb19 Hhpr5 Hhck5
                    have hdr' := Hhdr.out
                    by_cases q : t3 = 0
                    · subst q
                      rw [if_pos rfl] at hdr'
                      have hrz : (rideT T x mp mt).2.2 = 0 := by rw [Hht.out]
                      obtain ⟨z1, z2, z3, z4⟩ := rideT_zero HhG.out Hhmp.out hrz
                      have z5 := rideT_step HhG.out Hhmp.out Hhmt.out hrz
                      rw [Hht.out] at z4 z5
                      simp only at z4 z5
                      have hs2 : I64 t2 := by unfold I64; omega
                      have b19c := cells_of hb19c
                      have b20c := cells_of hb20
                      have b19l := lt_of_heap hb19c
                      have b20l := lt_of_heap hb20
                      have btc5 := cells_of hckc.bt
                      have hz5' := Hhz5.out
                      have ng19 : g ≠ q19 := by have := Hhq19.out; omega
                      have ng20 : g ≠ q20 := by omega
                      have habl := lt_of_heap hckc.am.blk
                      have hmbl := hckc.am.mp.lt
                      have hb19w : ((wc.setCell ⟨g, x.vehicle.toNat * 2, none⟩ (.int .i64 t1)).setCell ⟨g, x.vehicle.toNat * 2 + 1, none⟩ (.int .i64 t2)).heap[q19]? = some (.cells #[.int .i64 x.vehicle, .slice a' x.hops.length c', .slice a'' x.boards.length c''] 53 (0, 0)) := heap_setCell_off (heap_setCell_off hb19c _ ng19) _ ng19
                      have hb20w : ((wc.setCell ⟨g, x.vehicle.toNat * 2, none⟩ (.int .i64 t1)).setCell ⟨g, x.vehicle.toNat * 2 + 1, none⟩ (.int .i64 t2)).heap[q20]? = some (.cells #[.int .i64 t1, .int .i64 t2] 121 (0, 0)) := heap_setCell_off (heap_setCell_off hb20 _ ng20) _ ng20
                      have hckw : CkS T a1 a2 a3 a4 c1 c2 c3 c4 p p1 (some ⟨b, off, none⟩) d1 d2 w ab mb a ((wc.setCell ⟨g, x.vehicle.toNat * 2, none⟩ (.int .i64 t1)).setCell ⟨g, x.vehicle.toNat * 2 + 1, none⟩ (.int .i64 t2)) := (hckc.set ⟨g, x.vehicle.toNat * 2, none⟩ _ ⟨by show ab < g; omega, by show mb < g; omega⟩).set ⟨g, x.vehicle.toNat * 2 + 1, none⟩ _ ⟨by show ab < g; omega, by show mb < g; omega⟩
                      have hprw : PairRow base 121 ((wc.setCell ⟨g, x.vehicle.toNat * 2, none⟩ (.int .i64 t1)).setCell ⟨g, x.vehicle.toNat * 2 + 1, none⟩ (.int .i64 t2)) (.slice (some ⟨g, 0, none⟩) T.vehicles.length cv) (m.set vi (t1, t2)) := by
                        have h1 : PairRow base 121 wc (.slice (some ⟨g, 0, none⟩) m.length cv) m := by rw [Hhml.out]; exact hprc
                        have h2 := h1.write hvl t1 t2
                        rw [Hhml.out] at h2
                        rw [Hhvt.out]
                        exact h2
                      have hszw : ((wc.setCell ⟨g, x.vehicle.toNat * 2, none⟩ (.int .i64 t1)).setCell ⟨g, x.vehicle.toNat * 2 + 1, none⟩ (.int .i64 t2)).heap.size = wc.heap.size := by simp [World.setCell]
                      have hbzc : base ≤ wc.heap.size := by omega
                      obtain ⟨m', hm'⟩ : ∃ l, m.set vi (t1, t2) = l := ⟨_, rfl⟩
                      have hml' : m'.length = T.vehicles.length := by rw [← hm', List.length_set]; exact Hhml.out
                      have hmS' : AtS T m' := by rw [← hm']; exact HhmS.out.set vi ⟨z4, z5⟩
                      rw [hm'] at hprw
                      rw [Hhvt.out, hm'] at hdr'
                      have Hhdr' := Lib.hid hdr'; clear hdr'; have Hz1 := Lib.hid z1; clear z1; have Hz3 := Lib.hid z3; clear z3; have Hhckc := Lib.hid hckc; clear hckc; have Hhprc := Lib.hid hprc; clear hprc; have Hhb19c := Lib.hid hb19c; clear hb19c; have Hhb20 := Lib.hid hb20; clear hb20; have Hhb19w := Lib.hid hb19w; clear hb19w; have Hhb20w := Lib.hid hb20w; clear hb20w; have Hhckw := Lib.hid hckw; clear hckw; have Hhprw := Lib.hid hprw; clear hprw; have Hhml' := Lib.hid hml'; clear hml'; have HhmS' := Lib.hid hmS'; clear hmS'; have Hhm' := Lib.hid hm'; clear hm'; have Hhszw := Lib.hid hszw; clear hszw; have Hhb5c := Lib.hid hb5c; clear hb5c; have Hhrz := Lib.hid hrz; clear hrz
                      go_upto_region 37 with fail
                      clear b19c b20c btc5 g0c g1c gfc b19l b20l
                      obtain ⟨w7, hw7⟩ : ∃ W, (wc.setCell ⟨g, x.vehicle.toNat * 2, none⟩ (.int .i64 t1)).setCell ⟨g, x.vehicle.toNat * 2 + 1, none⟩ (.int .i64 t2) = W := ⟨_, rfl⟩
                      have hsz7 := Hhszw.out
                      have hb19 := Hhb19w.out
                      have hb20' := Hhb20w.out
                      have hck7 := Hhckw.out
                      have hpr7 := Hhprw.out
                      rw [hw7] at hsz7 hb19 hb20' hck7 hpr7 ⊢
                      clear hw7 Hhb19w Hhb20w Hhckw Hhprw Hhszw Hhckc Hhprc Hhb19c Hhb20
                      obtain ⟨aF, haF⟩ : ∃ v, hopsUse T 2 1 a x.hops = v := ⟨_, rfl⟩
                      obtain ⟨aG, haG⟩ : ∃ v, boardsUse T t1 t2 aF (T.vh x.vehicle).seats x.boards = v := ⟨_, rfl⟩
                      have hdr8 := Hhdr'.out
                      rw [haF, haG] at hdr8
                      clear Hhdr'
                      have hbz7 : base ≤ w7.heap.size := by omega
                      have b19c := cells_of hb19
                      have o1 : ¬ q19 ∈ [ab, mb] := by simp; omega
                      have o2 : ¬ q20 ∈ [ab, mb] := by simp; omega
                      have Hhdr8 := Lib.hid hdr8; clear hdr8; have HhaF := Lib.hid haF; clear haF; have HhaG := Lib.hid haG; clear haG; have Hhb19 := Lib.hid hb19; clear hb19; have Hhb20' := Lib.hid hb20'; clear hb20'; have Hhck7 := Lib.hid hck7; clear hck7; have Hhpr7 := Lib.hid hpr7; clear hpr7
                      go_wp2_with fail
                      go_loopw [153] (fun i wr => ∃ (j : Nat) (aj : Acc), j ≤ x.hops.length ∧ i = .int .i64 j ∧ CkS T a1 a2 a3 a4 c1 c2 c3 c4 p p1 (some ⟨b, off, none⟩) d1 d2 w ab mb aj wr ∧ base ≤ wr.heap.size ∧ PairRow base 121 wr (.slice (some ⟨g, 0, none⟩) T.vehicles.length cv) m' ∧ wr.heap[q19]? = some (.cells #[.int .i64 x.vehicle, .slice a' x.hops.length c', .slice a'' x.boards.length c''] 53 (0, 0)) ∧ wr.heap[q20]? = some (.cells #[.int .i64 t1, .int .i64 t2] 121 (0, 0)) ∧ Hid (hopsUse T 2 1 aj (x.hops.drop j) = aF)) (fun i _ => x.hops.length - (intOf i).toNat)
                      case atStart => exact ⟨0, _, Nat.zero_le _, rfl, Hhck7.out, hbz7, Hhpr7.out, Hhb19.out, Hhb20'.out, HhaF⟩
                      case round =>
                        clear Hhck7 Hhpr7 Hhb19 Hhb20' HhaF b19c hbz7 hsz7
                        obtain ⟨j, aj, hj, rfl, hckj, hbzj, hprj, hb19, hb20, hrj⟩ := hrel
                        have b19c := cells_of hb19
                        have b20c := cells_of hb20
                        have b19l := lt_of_heap hb19
                        have b20l := lt_of_heap hb20
                        have abl2 := lt_of_heap hckj.am.blk
                        have mbl2 := hckj.am.mp.lt
                        have hsz2 := hckj.bl.size
                        have btcj := cells_of hckj.bt
                        have btlj := lt_of_heap hckj.bt
                        by_cases hlj : j < x.hops.length
                        · obtain ⟨b2, off2, ha', hbb2, he2⟩ := Hhsl.out.2 j hlj
                          obtain ⟨hp, hhp⟩ : ∃ h, h = x.hops[j] := ⟨_, rfl⟩
                          rw [← hhp] at he2
                          obtain ⟨f0, f1⟩ := he2
                          have hB2 : Below B w wr := hckj.bl.mono hB
                          replace f0 := ek_cell hB2 hbb2 f0
                          replace f1 := ek_cell hB2 hbb2 f1
                          subst ha'
                          have hbr2 : b2 < wr.heap.size := by omega
                          obtain ⟨hpu, hpo⟩ := Hz1.out hp (by rw [hhp]; exact List.getElem_mem hlj)
                          have hpu' := unknown_not.1 hpu
                          have hpo' := outside_not.1 hpo
                          have hnw := HhG.out.nw
                          have hst := HhG.out.steps
                          have k2 : ThingG T ⟨2, hp.way, hp.leave⟩ := ⟨by simp, fun e => by simp at e, fun _ => hpu', fun e => by simp at e⟩
                          have k2g : goodT ⟨2, hp.way, hp.leave⟩ := ⟨by unfold I64; simp, by unfold I64; simp only; omega, by unfold I64; simp only; omega⟩
                          have hdrj := hopsUse_drop T 2 1 aj x.hops j hlj
                          rw [← hhp] at hdrj
                          have Hhhp := Lib.hid hhp; clear hhp; have Hhdrj := Lib.hid hdrj; clear hdrj; have Hk2 := Lib.hid k2; clear k2; have Hk2g := Lib.hid k2g; clear k2g; have Hhpu := Lib.hid hpu; clear hpu; have Hhpo := Lib.hid hpo; clear hpo; have Hhpu' := Lib.hid hpu'; clear hpu'; have Hhpo' := Lib.hid hpo'; clear hpo'; have HhB2 := Lib.hid hB2; clear hB2; have Hhckj := Lib.hid hckj; clear hckj; have Hhb19 := Lib.hid hb19; clear hb19; have Hhb20 := Lib.hid hb20; clear hb20; have Hhprj := Lib.hid hprj; clear hprj
                          go_wp2_with (go_at_call 56; refine (use_ck B HhG.out HhT.out hB (Hhckj.out.below (show Below wr.heap.size wr _ from (by repeat (first | exact Below.refl _ _ | (refine bl_setCell ?_ _ _ ?_; rotate_left; focus (first | omega | (simp; done) | (simp; omega))) | refine bl_alloc ?_ _ | refine bl_step ?_ (by assumption) | refine bl_drew ?_ | refine bl_drewN ?_ _)))) ⟨2, hp.way, hp.leave⟩ 1 Hk2.out Hk2g.out (by decide)).mono ?_; rintro e w8 ⟨rfl, hk8, hck8⟩; have hz8 := hk8.size; simp only [World.size_alloc] at hz8; have hpr8 : PairRow base 121 w8 (.slice (some ⟨g, 0, none⟩) T.vehicles.length cv) m' := ⟨row_keeps (Hhprj.out.row.alloc _) hk8 (fun i hi => by simp at hi; omega)⟩)
                          go_roundw
                          case rel => exact ⟨j + 1, _, by omega, by go_num, hck8, by omega, hpr8, hk8.heap (heap_alloc_off Hhb19.out _) o1, hk8.heap (heap_alloc_off Hhb20.out _) o2, Lib.hid (by rw [← Hhdrj.out]; exact hrj.out)⟩
                          case measure => simp [intOf]; omega
                        · have hdrj := hopsUse_end T 2 1 aj x.hops j hlj
                          obtain rfl : aj = aF := by rw [← hdrj]; exact hrj.out
                          obtain ⟨bv, offv, ha4, hbbv, hev⟩ := HhT.out.vehicles.at hx0 i1 Vehicle.z
                          obtain ⟨vh, hvh⟩ : ∃ v, v = T.vh x.vehicle := ⟨_, rfl⟩
                          have hev' : VehicleE w bv (offv + x.vehicle.toNat * 2) vh := by rw [hvh]; exact hev
                          obtain ⟨ev0, ev1⟩ := hev'
                          have hBv : Below B w wr := hckj.bl.mono hB
                          replace ev1 := ek_cell hBv hbbv ev1
                          have hbvr : bv < wr.heap.size := by omega
                          have hvhb := HhG.out.vehicle _ (getD_mem (z := Vehicle.z) hx0 i1)
                          have hvhs : 1 ≤ vh.seats ∧ vh.seats ≤ 100000 := by rw [hvh]; exact hvhb.2
                          obtain ⟨seats, hseats⟩ : ∃ n, n = vh.seats := ⟨_, rfl⟩
                          rw [← hseats] at ev1 hvhs
                          have haG2 : boardsUse T t1 t2 aj seats (x.boards.drop 0) = aG := by rw [hseats, hvh]; exact HhaG.out
                          have hll3 := HhT.out.vehicles.1
                          subst ha4
                          clear hdrj hrj hev hvhb ev0 HhaG
                          have Hhckj := Lib.hid hckj; clear hckj; have Hhb19 := Lib.hid hb19; clear hb19; have Hhb20 := Lib.hid hb20; clear hb20; have Hhprj := Lib.hid hprj; clear hprj; have HhaG2 := Lib.hid haG2; clear haG2; have HhBv := Lib.hid hBv; clear hBv; have Hhvh := Lib.hid hvh; clear hvh; have Hhseats := Lib.hid hseats; clear hseats
                          go_wp2_with fail
                          go_loopw [24, 175] (fun sv i wr => ∃ (j : Nat) (ak : Acc) (n : Int), j ≤ x.boards.length ∧ i = .int .i64 j ∧ sv = .int .i64 n ∧ (0 ≤ n ∧ n ≤ 100000) ∧ CkS T a1 a2 a3 (some ⟨bv, offv, none⟩) c1 c2 c3 c4 p p1 (some ⟨b, off, none⟩) d1 d2 w ab mb ak wr ∧ base ≤ wr.heap.size ∧ PairRow base 121 wr (.slice (some ⟨g, 0, none⟩) T.vehicles.length cv) m' ∧ wr.heap[q19]? = some (.cells #[.int .i64 x.vehicle, .slice a' x.hops.length c', .slice a'' x.boards.length c''] 53 (0, 0)) ∧ wr.heap[q20]? = some (.cells #[.int .i64 t1, .int .i64 t2] 121 (0, 0)) ∧ Hid (boardsUse T t1 t2 ak n (x.boards.drop j) = aG)) (fun _ i _ => x.boards.length - (intOf i).toNat)
                          case atStart => exact ⟨0, _, _, Nat.zero_le _, rfl, rfl, by omega, Hhckj.out, hbzj, Hhprj.out, Hhb19.out, Hhb20.out, HhaG2⟩
                          case round =>
                            clear Hhckj Hhprj Hhb19 Hhb20 HhaG2 b19c b20c b19l b20l abl2 mbl2 btcj btlj hbzj ev1 hbvr hsz2 HhBv
                            obtain ⟨j2, ak, n, hj2, rfl, rfl, hn, hckj, hbzj, hprj, hb19, hb20, hrj⟩ := hrel
                            have b19c := cells_of hb19
                            have b20c := cells_of hb20
                            have b19l := lt_of_heap hb19
                            have b20l := lt_of_heap hb20
                            have abl2 := lt_of_heap hckj.am.blk
                            have mbl2 := hckj.am.mp.lt
                            have hsz2 := hckj.bl.size
                            by_cases hlj2 : j2 < x.boards.length
                            · obtain ⟨b3, off3, ha'', hbb3, he3⟩ := Hhbl.out.2 j2 hlj2
                              obtain ⟨bd, hbd⟩ : ∃ h, h = x.boards[j2] := ⟨_, rfl⟩
                              rw [← hbd] at he3
                              obtain ⟨f0, f1, f2⟩ := he3
                              have hB2 : Below B w wr := hckj.bl.mono hB
                              replace f0 := ek_cell hB2 hbb3 f0
                              replace f1 := ek_cell hB2 hbb3 f1
                              replace f2 := ek_cell hB2 hbb3 f2
                              subst ha''
                              have hbr3 : b3 < wr.heap.size := by omega
                              obtain ⟨zb1, zb2, zb3⟩ := Hz3.out bd (by rw [hbd]; exact List.getElem_mem hlj2)
                              have hng := HhG.out.ng
                              have k3 : ThingG T ⟨0, bd.group, 0⟩ := ⟨by simp, fun _ => zb2, fun e => by simp at e, fun e => by simp at e⟩
                              have k3g : goodT ⟨0, bd.group, 0⟩ := ⟨by unfold I64; simp, by unfold I64; simp only; omega, by unfold I64; simp⟩
                              have hn3 : 0 ≤ bd.count := by omega
                              have hdrj := boardsUse_drop T t1 t2 ak n x.boards j2 hlj2
                              rw [← hbd] at hdrj
                              obtain ⟨au, hau⟩ : ∃ v, useT T ak ⟨0, bd.group, 0⟩ bd.count = v := ⟨_, rfl⟩
                              have hbu : boardUse T t1 t2 ak n bd = enterT T { au with full := au.full || decide (n < bd.count) } t1 t2 bd.count := by unfold boardUse; rw [hau]
                              rw [hbu] at hdrj
                              have huse : ∀ W, Below wr.heap.size wr W → Calls Try.prog 56 #[.pointer (some ⟨ab, 0, none⟩), .agg #[.int .i64 0, .int .i64 bd.group, .int .i64 0], .int .i64 bd.count] W fun e w' => e = .returned (.tuple #[]) ∧ Keeps [ab, mb] W w' ∧ CkS T a1 a2 a3 (some ⟨bv, offv, none⟩) c1 c2 c3 c4 p p1 (some ⟨b, off, none⟩) d1 d2 w ab mb au w' := by
                                intro W hW
                                have := use_ck B HhG.out HhT.out hB (hckj.below hW) ⟨0, bd.group, 0⟩ bd.count k3 k3g hn3
                                rw [hau] at this
                                exact this
                              clear hbu
                              have Hhbd := Lib.hid hbd; clear hbd; have Hhdrj := Lib.hid hdrj; clear hdrj; have Hk3 := Lib.hid k3; clear k3; have Hk3g := Lib.hid k3g; clear k3g; have HhB2 := Lib.hid hB2; clear hB2; have Hhckj := Lib.hid hckj; clear hckj; have Hhb19 := Lib.hid hb19; clear hb19; have Hhb20 := Lib.hid hb20; clear hb20; have Hhprj := Lib.hid hprj; clear hprj; have Hhau := Lib.hid hau; clear hau; have Hhuse := Lib.hid huse; clear huse; have Hzb1 := Lib.hid zb1; clear zb1; have Hzb2 := Lib.hid zb2; clear zb2
                              go_upto_region 47 with (go_at_call 56; refine (Hhuse.out _ (by repeat (first | exact Below.refl _ _ | (refine bl_setCell ?_ _ _ ?_; rotate_left; focus (first | omega | (simp; done) | (simp; omega))) | refine bl_alloc ?_ _ | refine bl_step ?_ (by assumption) | refine bl_drew ?_ | refine bl_drewN ?_ _))).mono ?_; rintro e w8 ⟨rfl, hk8, hck8⟩; have hz8 := hk8.size; simp only [World.size_alloc] at hz8; have hb26 := hk8.heap (heap_alloc_at wr (.cells #[.int .i64 bd.hop, .int .i64 bd.group, .int .i64 bd.count] 56)) (by simp; omega); have hb19' := hk8.heap (heap_alloc_off Hhb19.out _) o1; have hb20' := hk8.heap (heap_alloc_off Hhb20.out _) o2; have hpr8 : PairRow base 121 w8 (.slice (some ⟨g, 0, none⟩) T.vehicles.length cv) m' := ⟨row_keeps (Hhprj.out.row.alloc _) hk8 (fun i hi => by simp at hi; omega)⟩; clear hk8; have Hhck8 := Lib.hid hck8; clear hck8; have Hhb26 := Lib.hid hb26; clear hb26; have Hhb19' := Lib.hid hb19'; clear hb19'; have Hhb20' := Lib.hid hb20'; clear hb20'; have Hhpr8 := Lib.hid hpr8; clear hpr8)
                              have habc := cells_of Hhck8.out.am.blk
                              have habf := frozen_of Hhck8.out.am.blk
                              have habl8 := lt_of_heap Hhck8.out.am.blk
                              have b26c := cells_of Hhb26.out
                              have b26l := lt_of_heap Hhb26.out
                              simp only [acCells] at habc
                              obtain ⟨fv, hfv⟩ : ∃ v, au.full = v := ⟨_, rfl⟩
                              rw [hfv] at habc
                              have hbase8 : base ≤ w8.heap.size := by omega
                              clear f0 f1 f2 b19c b20c
                              have Hhfv := Lib.hid hfv; clear hfv
                              go_cut [] from 186 to 198 (fun wx => CkS T a1 a2 a3 (some ⟨bv, offv, none⟩) c1 c2 c3 c4 p p1 (some ⟨b, off, none⟩) d1 d2 w ab mb { au with full := fv || decide (n < bd.count) } wx ∧ base ≤ wx.heap.size ∧ PairRow base 121 wx (.slice (some ⟨g, 0, none⟩) T.vehicles.length cv) m' ∧ wx.heap[q19]? = some (.cells #[.int .i64 x.vehicle, .slice a' x.hops.length c', .slice (some ⟨b3, off3, none⟩) x.boards.length c''] 53 (0, 0)) ∧ wx.heap[q20]? = some (.cells #[.int .i64 t1, .int .i64 t2] 121 (0, 0)) ∧ wx.heap[wr.heap.size]? = some (.cells #[.int .i64 bd.hop, .int .i64 bd.group, .int .i64 bd.count] 56 (0, 0)))
                              case first =>
                                have n1 : ab ≠ q19 := by simp at o1; omega
                                have n2 : ab ≠ q20 := by simp at o2; omega
                                have n3 : ab ≠ wr.heap.size := by omega
                                have hpw : ∀ v, PairRow base 121 (w8.setCell ⟨ab, 7, none⟩ v) (.slice (some ⟨g, 0, none⟩) T.vehicles.length cv) m' := fun v => ⟨ownsRow_setCell_below Hhpr8.out.row (by show ab < base; omega) v⟩
                                cases fv
                                · go_wp2_with fail
                                  go_meet
                                  exact ⟨Hhck8.out.full _, by simpa [World.setCell] using hbase8, hpw _, heap_setCell_off Hhb19'.out _ n1, heap_setCell_off Hhb20'.out _ n2, heap_setCell_off Hhb26.out _ n3⟩
                                · go_wp2_with fail
                                  go_meet
                                  exact ⟨Hhck8.out.full _, by simpa [World.setCell] using hbase8, hpw _, heap_setCell_off Hhb19'.out _ n1, heap_setCell_off Hhb20'.out _ n2, heap_setCell_off Hhb26.out _ n3⟩
                              case rest =>
                                clear habc habf b26c Hhck8 Hhpr8 Hhb19' Hhb20' Hhb26
                                obtain ⟨hckw, hbw, hprw, hb19, hb20, hb26⟩ := hcut
                                have b20c := cells_of hb20
                                have b26c := cells_of hb26
                                have b20l := lt_of_heap hb20
                                have b26l := lt_of_heap hb26
                                have b19l := lt_of_heap hb19
                                have hdrk := Hhdrj.out
                                rw [Hhfv.out] at hdrk
                                have hmin : 0 ≤ min bd.count n ∧ min bd.count n ≤ n := by omega
                                obtain ⟨mn, hmn⟩ : ∃ v, min bd.count n = v := ⟨_, rfl⟩
                                rw [hmn] at hdrk hmin
                                have hn' : 0 ≤ n - mn ∧ n - mn ≤ 100000 := by omega
                                clear Hhdrj
                                have Hhckw := Lib.hid hckw; clear hckw; have Hhb19 := Lib.hid hb19; clear hb19; have Hhb20 := Lib.hid hb20; clear hb20; have Hhb26 := Lib.hid hb26; clear hb26; have Hhprw := Lib.hid hprw; clear hprw; have Hhdrk := Lib.hid hdrk; clear hdrk
                                go_wp2_with (go_at_call 57; refine (enter_ck B HhG.out HhT.out hB Hhckw.out t1 t2 bd.count z4 hs2 hn3).mono ?_; rintro e w9 ⟨rfl, hk9, hck9⟩; have hz9 := hk9.size; have hpr9 : PairRow base 121 w9 (.slice (some ⟨g, 0, none⟩) T.vehicles.length cv) m' := ⟨row_keeps Hhprw.out.row hk9 (fun i hi => by simp at hi; omega)⟩)
                                go_roundw
                                case rel => exact ⟨j2 + 1, _, n - mn, by omega, by go_num, by go_num, hn', hck9, by omega, hpr9, hk9.heap Hhb19.out o1, hk9.heap Hhb20.out o2, Lib.hid (by rw [← Hhdrk.out]; exact hrj.out)⟩
                                case measure => simp [intOf]; omega
                            · have hdrj := boardsUse_end T t1 t2 ak n x.boards j2 hlj2
                              obtain rfl : ak = aG := by rw [← hdrj]; exact hrj.out
                              have hdr9 : checkedT T p = ckEnd (ridesRun T ak m' (p.rides.drop (k + 1))) := by rw [hr.out, Hhdr8.out]
                              clear hdrj hrj
                              have Hhckj := Lib.hid hckj; clear hckj; have Hhb19 := Lib.hid hb19; clear hb19; have Hhb20 := Lib.hid hb20; clear hb20; have Hhprj := Lib.hid hprj; clear hprj; have Hhdr9 := Lib.hid hdr9; clear hdr9
                              go_wp2_with fail
                              go_roundw
                              case rel => exact ⟨k + 1, _, _, by omega, by go_num, Hhckj.out, hbzj, Hhprj.out, Hhml'.out, HhmS'.out, Hhdr9⟩
                              case measure => simp [intOf]; omega
                    · have q' : (t3 != 0) = true := by simpa using q
                      rw [if_neg q] at hdr'
                      have hdr4 : checkedT T p = .bad t3 := by rw [hr.out, hdr']; rfl
                      have Hhckc := Lib.hid hckc; clear hckc; have Hhdr4 := Lib.hid hdr4; clear hdr4; have Hq := Lib.hid q; clear q; have Hhprc := Lib.hid hprc; clear hprc; have Hhb19c := Lib.hid hb19c; clear hb19c; have Hhb20 := Lib.hid hb20; clear hb20; have Hhdr' := Lib.hid hdr'; clear hdr'
                      go_wp2_with fail
                      go_ret2
                      exact ⟨bl_step Hhckc.out.bl (by repeat (first | exact Below.refl _ _ | (refine bl_setCell ?_ _ _ ?_; rotate_left; focus (first | omega | (simp; done) | (simp; omega))) | refine bl_alloc ?_ _ | refine bl_step ?_ (by assumption) | refine bl_drew ?_ | refine bl_drewN ?_ _)), by rw [Hhdr4.out]; rfl⟩
              · have hdr := ridesRun_end T a m p.rides k hlt
                have hdr2 : checkedT T p = accEnd a := by rw [hr.out, hdr]; rfl
                have habc := cells_of hck.am.blk
                have habl := lt_of_heap hck.am.blk
                simp only [acCells] at habc
                obtain ⟨ov, hov⟩ : ∃ v, a.over = v := ⟨_, rfl⟩
                obtain ⟨fv, hfv⟩ : ∃ v, a.full = v := ⟨_, rfl⟩
                have hae : accEnd a = if ov then .bad 12 else if fv then .bad 13 else .ok a := by unfold accEnd; rw [hov, hfv]
                rw [hov, hfv] at habc
                rw [hae] at hdr2
                clear hr hdr hae btc bpc
                cases ov
                · cases fv
                  · simp only [Bool.false_eq_true, if_false] at hdr2
                    have Hhck := Lib.hid hck; clear hck; have Hhpr := Lib.hid hpr; clear hpr; have HhmS := Lib.hid hmS; clear hmS; have Hhdr2 := Lib.hid hdr2; clear hdr2
                    go_wp2_with fail
                    go_ret2
                    exact ⟨Hhck.out.bl, by rw [Hhdr2.out]; exact ⟨ab, mb, rfl, by omega, by omega, Hhck.out.am⟩⟩
                  · simp only [Bool.false_eq_true, if_false, if_true] at hdr2
                    have Hhck := Lib.hid hck; clear hck; have Hhpr := Lib.hid hpr; clear hpr; have HhmS := Lib.hid hmS; clear hmS; have Hhdr2 := Lib.hid hdr2; clear hdr2
                    go_wp2_with fail
                    go_ret2
                    exact ⟨Hhck.out.bl, by rw [Hhdr2.out]; rfl⟩
                · simp only [if_true] at hdr2
                  have Hhck := Lib.hid hck; clear hck; have Hhpr := Lib.hid hpr; clear hpr; have HhmS := Lib.hid hmS; clear hmS; have Hhdr2 := Lib.hid hdr2; clear hdr2
                  go_wp2_with fail
                  go_ret2
                  exact ⟨Hhck.out.bl, by rw [Hhdr2.out]; rfl⟩
end Go.Proofs.Ytjoihijlcpnhoaa
namespace Go.Proofs.Ytjoihijlcpnhoaa
open Go.RowKit

theorem checked_any (T : Town) (a1 a2 a3 a4 : Option Addr) (c1 c2 c3 c4 : Nat) (p : Plan) (p1 p2 : Option Addr) (d1 d2 : Nat) (B : Nat) (w : World) (hT : TownM B w a1 a2 a3 a4 T) (hP : PlanM B w p1 p2 p) (hB : B ≤ w.heap.size) :
    Calls Try.prog 29 #[.agg #[.int .i64 T.steps, .slice a1 T.places.length c1, .slice a2 T.ways.length c2, .slice a3 T.groups.length c3, .slice a4 T.vehicles.length c4], .agg #[.slice p1 p.trips.length d1, .slice p2 p.rides.length d2]] w (CkPost T a1 a2 a3 a4 c1 c2 c3 c4 w (checkedT T p)) := by
  by_cases h : checkT T = 0
  · cases hl : longP p
    · exact ck_good T _ _ _ _ _ _ _ _ p _ _ _ _ B w hT hP hB h hl
    · exact ck_long T _ _ _ _ _ _ _ _ p _ _ _ _ B w hT hP hB h hl
  · exact ck_err T _ _ _ _ _ _ _ _ p _ _ _ _ B w hT hB h

set_option maxHeartbeats 2000000 in
set_option maxRecDepth 100000 in
theorem verify_any (T : Town) (a1 a2 a3 a4 : Option Addr) (c1 c2 c3 c4 : Nat) (p : Plan) (p1 p2 : Option Addr) (d1 d2 : Nat) (B : Nat) (w : World) (hT : TownM B w a1 a2 a3 a4 T) (hP : PlanM B w p1 p2 p) (hB : B ≤ w.heap.size) :
    Calls Try.prog 10 #[.agg #[.int .i64 T.steps, .slice a1 T.places.length c1, .slice a2 T.ways.length c2, .slice a3 T.groups.length c3, .slice a4 T.vehicles.length c4], .agg #[.slice p1 p.trips.length d1, .slice p2 p.rides.length d2]] w fun e w' => e = .returned (.int .i64 (verifyT T p)) ∧ Below w.heap.size w w' := by
  have hC : ∀ W, Below w.heap.size w W → Calls Try.prog 29 #[.agg #[.int .i64 T.steps, .slice a1 T.places.length c1, .slice a2 T.ways.length c2, .slice a3 T.groups.length c3, .slice a4 T.vehicles.length c4], .agg #[.slice p1 p.trips.length d1, .slice p2 p.rides.length d2]] W fun e w' => ∃ v, e = .returned (.tuple #[v, .int .i64 (verifyT T p)]) ∧ Below W.heap.size W w' := by
    intro W hW
    refine (checked_any T _ _ _ _ _ _ _ _ p _ _ _ _ B W (hT.below (hW.mono hB)) (hP.below (hW.mono hB)) (Nat.le_trans hB hW.size)).mono ?_
    rintro e w' ⟨hb, hr⟩
    unfold verifyT Res.err
    cases hc : checkedT T p with
    | bad n => rw [hc] at hr; exact ⟨_, hr, hb⟩
    | ok a =>
      rw [hc] at hr
      obtain ⟨ab, mb, rfl, _⟩ := hr
      exact ⟨_, rfl, hb⟩
  obtain ⟨ev, hev⟩ : ∃ v, verifyT T p = v := ⟨_, rfl⟩
  rw [hev] at hC ⊢
  clear hev
  have HhC := Lib.hid hC; clear hC; have HhT := Lib.hid hT; clear hT; have HhP := Lib.hid hP; clear hP
  go_enter Try.func10, Try.ntmps10
  go_wp2_with (go_at_call 29; refine (HhC.out _ (by repeat (first | exact Below.refl _ _ | (refine bl_setCell ?_ _ _ ?_; rotate_left; focus (first | omega | (simp; done) | (simp; omega))) | refine bl_alloc ?_ _ | refine bl_step ?_ (by assumption) | refine bl_drew ?_ | refine bl_drewN ?_ _))).mono ?_; rintro e w1 ⟨v, rfl, hb1⟩)
  go_ret
  exact ⟨rfl, (by repeat (first | exact Below.refl _ _ | (refine bl_setCell ?_ _ _ ?_; rotate_left; focus (first | omega | (simp; done) | (simp; omega))) | refine bl_alloc ?_ _ | refine bl_step ?_ (by assumption) | refine bl_drew ?_ | refine bl_drewN ?_ _))⟩

end Go.Proofs.Ytjoihijlcpnhoaa
