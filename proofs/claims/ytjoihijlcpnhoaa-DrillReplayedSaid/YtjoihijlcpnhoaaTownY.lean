/- town: a trip. -/
import Derived.Test.YtjoihijlcpnhoaaTownX
namespace Go.Proofs.Ytjoihijlcpnhoaa
open Go.RowKit

def tripEnd (T : Town) (x : Trip) : Option WSt → Int × Int × Int
  | none => (0, 0, 11)
  | some st => if !T.refuge st.place then (0, 0, 11) else (st.place, x.enter, WSt.err { st with late := st.late || decide (x.enter < st.step) })

/-- In the midst of a trip: the boxes of the call's own, and the walker. -/
def TripS (w : World) (q r : Nat) (x : Trip) (a' : Option Addr) (c' : Nat) (T : Town) (a1 a3 a2 a4 : Option Addr) (c1 c2 c3 c4 : Nat) (c : Int) (st : WSt) (wx : World) : Prop :=
  Below w.heap.size w wx ∧ w.heap.size + 2 < q ∧ q ≠ r ∧ w.heap.size + 2 < r ∧ wx.heap[q]? = some (wkOf T a1 a2 a3 a4 c1 c2 c3 c4 c st) ∧ wx.heap[r]? = some (.cells #[.pointer (some ⟨q, 0, none⟩)] 202 (0, 0)) ∧
  wx.heap[w.heap.size]? = some (.cells #[.int .i64 T.steps, .slice a1 T.places.length c1, .slice a2 T.ways.length c2, .slice a3 T.groups.length c3, .slice a4 T.vehicles.length c4] 27 (0, 0)) ∧
  wx.heap[w.heap.size + 1]? = some (.cells #[.int .i64 x.group, .int .i64 x.count, .slice a' x.hops.length c', .int .i64 x.enter] 41 (0, 0)) ∧
  wx.heap[w.heap.size + 2]? = some (.cells #[.int .i64 0, .int .i64 0] 121 (0, 0))

set_option maxHeartbeats 2000000 in
set_option maxRecDepth 100000 in
theorem trip_any (T : Town) (a1 a2 a3 a4 : Option Addr) (c1 c2 c3 c4 : Nat) (B : Nat) (x : Trip) (a' : Option Addr) (c' : Nat) (w : World) (hG : TownG T) (hT : TownM B w a1 a2 a3 a4 T) (hs : Sl HopE 2 B w a' x.hops) (hB : B ≤ w.heap.size) :
    Calls Try.prog 55 #[.agg #[.int .i64 T.steps, .slice a1 T.places.length c1, .slice a2 T.ways.length c2, .slice a3 T.groups.length c3, .slice a4 T.vehicles.length c4], .agg #[.int .i64 x.group, .int .i64 x.count, .slice a' x.hops.length c', .int .i64 x.enter]] w
      fun e w' => e = .returned (.tuple #[.agg #[.int .i64 (tripT T x).1, .int .i64 (tripT T x).2.1], .int .i64 (tripT T x).2.2]) ∧ Below w.heap.size w w' := by
  have hl2 := hT.ways.1
  have hl3 := hT.groups.1
  obtain ⟨v1, hv1⟩ : ∃ v, within x.group 0 ((T.groups.length : Int) - 1) = v := ⟨_, rfl⟩
  obtain ⟨v2, hv2⟩ : ∃ v, x.hops.any T.unknown = v := ⟨_, rfl⟩
  have hval : tripT T x = tripT T x := rfl
  cases v1
  · conv at hval => rhs; unfold tripT; rw [hv1]; simp only [Bool.not_true, Bool.not_false, Bool.true_or, Bool.or_true, Bool.false_or, Bool.or_false, if_true, Bool.false_eq_true, if_false]
    rw [hval]
    have Hhval := Lib.hid hval; clear hval; have HhT := Lib.hid hT; clear hT; have Hhs := Lib.hid hs; clear hs
    have tok1 : True := trivial
    go_enter Try.func55, Try.ntmps55
    go_wp2_with (first
      | (go_at_call 49; refine (within_any _ _ _ _).mono ?_; rintro e w' ⟨rfl, rfl⟩))
    ((try simp only [Exit.inBlock, Exit.then]); refine bodyPost_ret (v := .tuple #[.agg #[.int .i64 0, .int .i64 0], .int .i64 4]) (by simp [results, Try.results55, go_sem, *]) rfl ?_)
    exact ⟨rfl, (by repeat (first | exact Below.refl _ _ | (refine bl_setCell ?_ _ _ ?_; rotate_left; focus (first | omega | (simp; done) | (simp; omega))) | refine bl_alloc ?_ _ | refine bl_step ?_ (by assumption) | refine bl_drew ?_ | refine bl_drewN ?_ _))⟩
  cases v2
  rotate_left
  · conv at hval => rhs; unfold tripT; rw [hv1, hv2]; simp only [Bool.not_true, Bool.not_false, Bool.true_or, Bool.or_true, Bool.false_or, Bool.or_false, if_true, Bool.false_eq_true, if_false]
    rw [hval]
    have Hhval := Lib.hid hval; clear hval; have HhT := Lib.hid hT; clear hT; have Hhs := Lib.hid hs; clear hs
    have tok1 : True := trivial
    go_enter Try.func55, Try.ntmps55
    go_wp2_with (first
      | (go_at_call 49; refine (within_any _ _ _ _).mono ?_; rintro e w' ⟨rfl, rfl⟩)
      | (go_at_call 89; have _t := tok1; clear _t; refine (unknown_val T _ _ _ _ _ _ _ _ B x.hops a' c' _ hv2 hl2 _ (Hhs.out.below (ek_hop B) ((show Below w.heap.size w _ from (by repeat (first | exact Below.refl _ _ | (refine bl_setCell ?_ _ _ ?_; rotate_left; focus (first | omega | (simp; done) | (simp; omega))) | refine bl_alloc ?_ _ | refine bl_step ?_ (by assumption) | refine bl_drew ?_ | refine bl_drewN ?_ _))).mono hB)) (by (first | omega | (simp; done) | (simp; omega)))).mono ?_; rintro e w1 ⟨rfl, hb1⟩; obtain ⟨_, _, _⟩ := bk (w.heap.size) hb1 (by (first | omega | (simp; done) | (simp; omega))); obtain ⟨_, _, _⟩ := bk (w.heap.size + 1) hb1 (by (first | omega | (simp; done) | (simp; omega))); obtain ⟨_, _, _⟩ := bk (w.heap.size + 2) hb1 (by (first | omega | (simp; done) | (simp; omega))); have hzhb1 := bsz hb1; (try simp only [World.size_alloc] at hzhb1); clear tok1))
    ((try simp only [Exit.inBlock, Exit.then]); refine bodyPost_ret (v := .tuple #[.agg #[.int .i64 0, .int .i64 0], .int .i64 4]) (by simp [results, Try.results55, go_sem, *]) rfl ?_)
    exact ⟨rfl, (by repeat (first | exact Below.refl _ _ | (refine bl_setCell ?_ _ _ ?_; rotate_left; focus (first | omega | (simp; done) | (simp; omega))) | refine bl_alloc ?_ _ | refine bl_step ?_ (by assumption) | refine bl_drew ?_ | refine bl_drewN ?_ _))⟩
  obtain ⟨i0, i1⟩ := (within_iff _ _ _).1 hv1
  have i1' : x.group < (T.groups.length : Int) := by omega
  obtain ⟨b, off, ha3, hbb, he⟩ := hT.groups.at i0 i1' Group.z
  have hbw : b < w.heap.size := by omega
  obtain ⟨_, _, _, _, _, _, _⟩ := lts hbw
  obtain ⟨g, hg⟩ : ∃ g, g = T.gr x.group := ⟨_, rfl⟩
  have he' : GroupE w b (off + x.group.toNat * 3) g := by rw [hg]; exact he
  clear he
  obtain ⟨e0, e1, e2⟩ := he'
  have hgm : g ∈ T.groups := by rw [hg]; exact getD_mem i0 i1'
  obtain ⟨⟨gp0, gp1⟩, ⟨gc0, gc1⟩, gn0, gn1⟩ := hG.group g hgm
  subst ha3
  obtain ⟨v3, hv3⟩ : ∃ v, x.hops.any T.outside = v := ⟨_, rfl⟩
  obtain ⟨v4, hv4⟩ : ∃ v, within x.enter 0 T.steps = v := ⟨_, rfl⟩
  by_cases q1 : g.cls = 2
  · have q1' : (g.cls == 2) = true := by simpa using q1
    conv at hval => rhs; unfold tripT; rw [hv1, hv2, ← hg, q1']; simp only [Bool.not_true, Bool.not_false, Bool.true_or, Bool.or_true, Bool.false_or, Bool.or_false, if_true, Bool.false_eq_true, if_false]
    rw [hval]
    clear q1
    have Hhval := Lib.hid hval; clear hval; have HhT := Lib.hid hT; clear hT; have Hhs := Lib.hid hs; clear hs; have Hhg := Lib.hid hg; clear hg; have Hhgm := Lib.hid hgm; clear hgm
    have tok1 : True := trivial
    go_enter Try.func55, Try.ntmps55
    go_wp2_with (first
      | (go_at_call 49; refine (within_any _ _ _ _).mono ?_; rintro e w' ⟨rfl, rfl⟩)
      | (go_at_call 89; have _t := tok1; clear _t; refine (unknown_val T _ _ _ _ _ _ _ _ B x.hops a' c' _ hv2 hl2 _ (Hhs.out.below (ek_hop B) ((show Below w.heap.size w _ from (by repeat (first | exact Below.refl _ _ | (refine bl_setCell ?_ _ _ ?_; rotate_left; focus (first | omega | (simp; done) | (simp; omega))) | refine bl_alloc ?_ _ | refine bl_step ?_ (by assumption) | refine bl_drew ?_ | refine bl_drewN ?_ _))).mono hB)) (by (first | omega | (simp; done) | (simp; omega)))).mono ?_; rintro e w1 ⟨rfl, hb1⟩; obtain ⟨_, _, _⟩ := bk (b) hb1 (by (first | omega | (simp; done) | (simp; omega))); obtain ⟨_, _, _⟩ := bk (w.heap.size) hb1 (by (first | omega | (simp; done) | (simp; omega))); obtain ⟨_, _, _⟩ := bk (w.heap.size + 1) hb1 (by (first | omega | (simp; done) | (simp; omega))); obtain ⟨_, _, _⟩ := bk (w.heap.size + 2) hb1 (by (first | omega | (simp; done) | (simp; omega))); have hzhb1 := bsz hb1; (try simp only [World.size_alloc] at hzhb1); clear tok1))
    ((try simp only [Exit.inBlock, Exit.then]); refine bodyPost_ret (v := .tuple #[.agg #[.int .i64 0, .int .i64 0], .int .i64 2]) (by simp [results, Try.results55, go_sem, *]) rfl ?_)
    exact ⟨rfl, (by repeat (first | exact Below.refl _ _ | (refine bl_setCell ?_ _ _ ?_; rotate_left; focus (first | omega | (simp; done) | (simp; omega))) | refine bl_alloc ?_ _ | refine bl_step ?_ (by assumption) | refine bl_drew ?_ | refine bl_drewN ?_ _))⟩
  have q1' : (g.cls == 2) = false := by simpa using q1
  have q1'' : g.cls < 2 := by omega
  clear q1
  by_cases q2 : x.count < 1
  · have q2' : decide (x.count < 1) = true := by simpa using q2
    conv at hval => rhs; unfold tripT; rw [hv1, hv2, ← hg, q1', q2']; simp only [Bool.not_true, Bool.not_false, Bool.true_or, Bool.or_true, Bool.false_or, Bool.or_false, if_true, Bool.false_eq_true, if_false]
    rw [hval]
    clear q2
    have Hhval := Lib.hid hval; clear hval; have HhT := Lib.hid hT; clear hT; have Hhs := Lib.hid hs; clear hs; have Hhg := Lib.hid hg; clear hg; have Hhgm := Lib.hid hgm; clear hgm
    have tok1 : True := trivial
    go_enter Try.func55, Try.ntmps55
    go_wp2_with (first
      | (go_at_call 49; refine (within_any _ _ _ _).mono ?_; rintro e w' ⟨rfl, rfl⟩)
      | (go_at_call 89; have _t := tok1; clear _t; refine (unknown_val T _ _ _ _ _ _ _ _ B x.hops a' c' _ hv2 hl2 _ (Hhs.out.below (ek_hop B) ((show Below w.heap.size w _ from (by repeat (first | exact Below.refl _ _ | (refine bl_setCell ?_ _ _ ?_; rotate_left; focus (first | omega | (simp; done) | (simp; omega))) | refine bl_alloc ?_ _ | refine bl_step ?_ (by assumption) | refine bl_drew ?_ | refine bl_drewN ?_ _))).mono hB)) (by (first | omega | (simp; done) | (simp; omega)))).mono ?_; rintro e w1 ⟨rfl, hb1⟩; obtain ⟨_, _, _⟩ := bk (b) hb1 (by (first | omega | (simp; done) | (simp; omega))); obtain ⟨_, _, _⟩ := bk (w.heap.size) hb1 (by (first | omega | (simp; done) | (simp; omega))); obtain ⟨_, _, _⟩ := bk (w.heap.size + 1) hb1 (by (first | omega | (simp; done) | (simp; omega))); obtain ⟨_, _, _⟩ := bk (w.heap.size + 2) hb1 (by (first | omega | (simp; done) | (simp; omega))); have hzhb1 := bsz hb1; (try simp only [World.size_alloc] at hzhb1); clear tok1))
    ((try simp only [Exit.inBlock, Exit.then]); refine bodyPost_ret (v := .tuple #[.agg #[.int .i64 0, .int .i64 0], .int .i64 2]) (by simp [results, Try.results55, go_sem, *]) rfl ?_)
    exact ⟨rfl, (by repeat (first | exact Below.refl _ _ | (refine bl_setCell ?_ _ _ ?_; rotate_left; focus (first | omega | (simp; done) | (simp; omega))) | refine bl_alloc ?_ _ | refine bl_step ?_ (by assumption) | refine bl_drew ?_ | refine bl_drewN ?_ _))⟩
  have q2' : decide (x.count < 1) = false := by simpa using q2
  have q2'' : 1 ≤ x.count := by omega
  clear q2
  cases v3
  rotate_left
  · conv at hval => rhs; unfold tripT; rw [hv1, hv2, ← hg, q1', q2', hv3]; simp only [Bool.not_true, Bool.not_false, Bool.true_or, Bool.or_true, Bool.false_or, Bool.or_false, if_true, Bool.false_eq_true, if_false]
    rw [hval]
    have Hhval := Lib.hid hval; clear hval; have HhT := Lib.hid hT; clear hT; have Hhs := Lib.hid hs; clear hs; have Hhg := Lib.hid hg; clear hg; have Hhgm := Lib.hid hgm; clear hgm
    have tok1 : True := trivial
    go_enter Try.func55, Try.ntmps55
    go_wp2_with (first
      | (go_at_call 49; refine (within_any _ _ _ _).mono ?_; rintro e w' ⟨rfl, rfl⟩)
      | (go_at_call 89; have _t := tok1; clear _t; refine (unknown_val T _ _ _ _ _ _ _ _ B x.hops a' c' _ hv2 hl2 _ (Hhs.out.below (ek_hop B) ((show Below w.heap.size w _ from (by repeat (first | exact Below.refl _ _ | (refine bl_setCell ?_ _ _ ?_; rotate_left; focus (first | omega | (simp; done) | (simp; omega))) | refine bl_alloc ?_ _ | refine bl_step ?_ (by assumption) | refine bl_drew ?_ | refine bl_drewN ?_ _))).mono hB)) (by (first | omega | (simp; done) | (simp; omega)))).mono ?_; rintro e w1 ⟨rfl, hb1⟩; obtain ⟨_, _, _⟩ := bk (b) hb1 (by (first | omega | (simp; done) | (simp; omega))); obtain ⟨_, _, _⟩ := bk (w.heap.size) hb1 (by (first | omega | (simp; done) | (simp; omega))); obtain ⟨_, _, _⟩ := bk (w.heap.size + 1) hb1 (by (first | omega | (simp; done) | (simp; omega))); obtain ⟨_, _, _⟩ := bk (w.heap.size + 2) hb1 (by (first | omega | (simp; done) | (simp; omega))); have hzhb1 := bsz hb1; (try simp only [World.size_alloc] at hzhb1); clear tok1)
      | (go_at_call 89; refine (outside_val T _ _ _ _ _ _ _ _ B x.hops a' c' _ hv3 _ (Hhs.out.below (ek_hop B) ((show Below w.heap.size w _ from (by repeat (first | exact Below.refl _ _ | (refine bl_setCell ?_ _ _ ?_; rotate_left; focus (first | omega | (simp; done) | (simp; omega))) | refine bl_alloc ?_ _ | refine bl_step ?_ (by assumption) | refine bl_drew ?_ | refine bl_drewN ?_ _))).mono hB)) (by (first | omega | (simp; done) | (simp; omega)))).mono ?_; rintro e w2 ⟨rfl, hb2⟩; obtain ⟨_, _, _⟩ := bk (b) hb2 (by (first | omega | (simp; done) | (simp; omega))); obtain ⟨_, _, _⟩ := bk (w.heap.size) hb2 (by (first | omega | (simp; done) | (simp; omega))); obtain ⟨_, _, _⟩ := bk (w.heap.size + 1) hb2 (by (first | omega | (simp; done) | (simp; omega))); obtain ⟨_, _, _⟩ := bk (w.heap.size + 2) hb2 (by (first | omega | (simp; done) | (simp; omega))); obtain ⟨_, _, _⟩ := bk (w1.heap.size) hb2 (by (first | omega | (simp; done) | (simp; omega))); have hzhb2 := bsz hb2; (try simp only [World.size_alloc] at hzhb2)))
    ((try simp only [Exit.inBlock, Exit.then]); refine bodyPost_ret (v := .tuple #[.agg #[.int .i64 0, .int .i64 0], .int .i64 3]) (by simp [results, Try.results55, go_sem, *]) rfl ?_)
    exact ⟨rfl, (by repeat (first | exact Below.refl _ _ | (refine bl_setCell ?_ _ _ ?_; rotate_left; focus (first | omega | (simp; done) | (simp; omega))) | refine bl_alloc ?_ _ | refine bl_step ?_ (by assumption) | refine bl_drew ?_ | refine bl_drewN ?_ _))⟩
  cases v4
  · conv at hval => rhs; unfold tripT; rw [hv1, hv2, ← hg, q1', q2', hv3, hv4]; simp only [Bool.not_true, Bool.not_false, Bool.true_or, Bool.or_true, Bool.false_or, Bool.or_false, if_true, Bool.false_eq_true, if_false]
    rw [hval]
    have Hhval := Lib.hid hval; clear hval; have HhT := Lib.hid hT; clear hT; have Hhs := Lib.hid hs; clear hs; have Hhg := Lib.hid hg; clear hg; have Hhgm := Lib.hid hgm; clear hgm
    have tok1 : True := trivial
    go_enter Try.func55, Try.ntmps55
    go_wp2_with (first
      | (go_at_call 49; refine (within_any _ _ _ _).mono ?_; rintro e w' ⟨rfl, rfl⟩)
      | (go_at_call 89; have _t := tok1; clear _t; refine (unknown_val T _ _ _ _ _ _ _ _ B x.hops a' c' _ hv2 hl2 _ (Hhs.out.below (ek_hop B) ((show Below w.heap.size w _ from (by repeat (first | exact Below.refl _ _ | (refine bl_setCell ?_ _ _ ?_; rotate_left; focus (first | omega | (simp; done) | (simp; omega))) | refine bl_alloc ?_ _ | refine bl_step ?_ (by assumption) | refine bl_drew ?_ | refine bl_drewN ?_ _))).mono hB)) (by (first | omega | (simp; done) | (simp; omega)))).mono ?_; rintro e w1 ⟨rfl, hb1⟩; obtain ⟨_, _, _⟩ := bk (b) hb1 (by (first | omega | (simp; done) | (simp; omega))); obtain ⟨_, _, _⟩ := bk (w.heap.size) hb1 (by (first | omega | (simp; done) | (simp; omega))); obtain ⟨_, _, _⟩ := bk (w.heap.size + 1) hb1 (by (first | omega | (simp; done) | (simp; omega))); obtain ⟨_, _, _⟩ := bk (w.heap.size + 2) hb1 (by (first | omega | (simp; done) | (simp; omega))); have hzhb1 := bsz hb1; (try simp only [World.size_alloc] at hzhb1); clear tok1)
      | (go_at_call 89; refine (outside_val T _ _ _ _ _ _ _ _ B x.hops a' c' _ hv3 _ (Hhs.out.below (ek_hop B) ((show Below w.heap.size w _ from (by repeat (first | exact Below.refl _ _ | (refine bl_setCell ?_ _ _ ?_; rotate_left; focus (first | omega | (simp; done) | (simp; omega))) | refine bl_alloc ?_ _ | refine bl_step ?_ (by assumption) | refine bl_drew ?_ | refine bl_drewN ?_ _))).mono hB)) (by (first | omega | (simp; done) | (simp; omega)))).mono ?_; rintro e w2 ⟨rfl, hb2⟩; obtain ⟨_, _, _⟩ := bk (b) hb2 (by (first | omega | (simp; done) | (simp; omega))); obtain ⟨_, _, _⟩ := bk (w.heap.size) hb2 (by (first | omega | (simp; done) | (simp; omega))); obtain ⟨_, _, _⟩ := bk (w.heap.size + 1) hb2 (by (first | omega | (simp; done) | (simp; omega))); obtain ⟨_, _, _⟩ := bk (w.heap.size + 2) hb2 (by (first | omega | (simp; done) | (simp; omega))); obtain ⟨_, _, _⟩ := bk (w1.heap.size) hb2 (by (first | omega | (simp; done) | (simp; omega))); have hzhb2 := bsz hb2; (try simp only [World.size_alloc] at hzhb2)))
    ((try simp only [Exit.inBlock, Exit.then]); refine bodyPost_ret (v := .tuple #[.agg #[.int .i64 0, .int .i64 0], .int .i64 3]) (by simp [results, Try.results55, go_sem, *]) rfl ?_)
    exact ⟨rfl, (by repeat (first | exact Below.refl _ _ | (refine bl_setCell ?_ _ _ ?_; rotate_left; focus (first | omega | (simp; done) | (simp; omega))) | refine bl_alloc ?_ _ | refine bl_step ?_ (by assumption) | refine bl_drew ?_ | refine bl_drewN ?_ _))⟩
  conv at hval => rhs; unfold tripT; rw [hv1, hv2, ← hg, q1', q2', hv3, hv4]; simp only [Bool.not_true, Bool.not_false, Bool.true_or, Bool.or_true, Bool.false_or, Bool.or_false, if_true, Bool.false_eq_true, if_false]
  have HhT := Lib.hid hT; clear hT; have Hhs := Lib.hid hs; clear hs; have Hhval := Lib.hid hval; clear hval; have Hhg := Lib.hid hg; clear hg; have Hhgm := Lib.hid hgm; clear hgm
  have tok1 : True := trivial
  go_enter Try.func55, Try.ntmps55
  go_upto_region 8 with (first
    | (go_at_call 49; refine (within_any _ _ _ _).mono ?_; rintro e w' ⟨rfl, rfl⟩)
    | (go_at_call 89; have _t := tok1; clear _t; refine (unknown_val T _ _ _ _ _ _ _ _ B x.hops a' c' _ hv2 hl2 _ (Hhs.out.below (ek_hop B) ((show Below w.heap.size w _ from (by repeat (first | exact Below.refl _ _ | (refine bl_setCell ?_ _ _ ?_; rotate_left; focus (first | omega | (simp; done) | (simp; omega))) | refine bl_alloc ?_ _ | refine bl_step ?_ (by assumption) | refine bl_drew ?_ | refine bl_drewN ?_ _))).mono hB)) (by (first | omega | (simp; done) | (simp; omega)))).mono ?_; rintro e w1 ⟨rfl, hb1⟩; obtain ⟨_, _, _⟩ := bk (b) hb1 (by (first | omega | (simp; done) | (simp; omega))); obtain ⟨_, _, _⟩ := bk (w.heap.size) hb1 (by (first | omega | (simp; done) | (simp; omega))); obtain ⟨_, _, _⟩ := bk (w.heap.size + 1) hb1 (by (first | omega | (simp; done) | (simp; omega))); obtain ⟨_, _, _⟩ := bk (w.heap.size + 2) hb1 (by (first | omega | (simp; done) | (simp; omega))); have hzhb1 := bsz hb1; (try simp only [World.size_alloc] at hzhb1); clear tok1)
    | (go_at_call 89; refine (outside_val T _ _ _ _ _ _ _ _ B x.hops a' c' _ hv3 _ (Hhs.out.below (ek_hop B) ((show Below w.heap.size w _ from (by repeat (first | exact Below.refl _ _ | (refine bl_setCell ?_ _ _ ?_; rotate_left; focus (first | omega | (simp; done) | (simp; omega))) | refine bl_alloc ?_ _ | refine bl_step ?_ (by assumption) | refine bl_drew ?_ | refine bl_drewN ?_ _))).mono hB)) (by (first | omega | (simp; done) | (simp; omega)))).mono ?_; rintro e w2 ⟨rfl, hb2⟩; obtain ⟨_, _, _⟩ := bk (b) hb2 (by (first | omega | (simp; done) | (simp; omega))); obtain ⟨_, _, _⟩ := bk (w.heap.size) hb2 (by (first | omega | (simp; done) | (simp; omega))); obtain ⟨_, _, _⟩ := bk (w.heap.size + 1) hb2 (by (first | omega | (simp; done) | (simp; omega))); obtain ⟨_, _, _⟩ := bk (w.heap.size + 2) hb2 (by (first | omega | (simp; done) | (simp; omega))); obtain ⟨_, _, _⟩ := bk (w1.heap.size) hb2 (by (first | omega | (simp; done) | (simp; omega))); have hzhb2 := bsz hb2; (try simp only [World.size_alloc] at hzhb2)))
  go_cut [7] from 8 to 62 (fun v wx => ∃ q r, v = .pointer (some ⟨r, 0, none⟩) ∧ TripS w q r x a' c' T a1 (some ⟨b, off, none⟩) a2 a4 c1 c2 c3 c4 g.cls (WSt.start g.place 0) wx)
  case first =>
    go_wp2_with fail
    go_meet
    exact ⟨w2.heap.size, w2.heap.size + 1, rfl, (by repeat (first | exact Below.refl _ _ | (refine bl_setCell ?_ _ _ ?_; rotate_left; focus (first | omega | (simp; done) | (simp; omega))) | refine bl_alloc ?_ _ | refine bl_step ?_ (by assumption) | refine bl_drew ?_ | refine bl_drewN ?_ _)), by omega, by omega, by omega, heap_alloc_off (heap_alloc_at _ _) _, heap_alloc_at' _ _ (by simp), (by repeat (first | with_reducible assumption | (with_reducible refine heap_alloc_at' _ _ ?_; focus (simp; done)) | with_reducible refine heap_alloc_off ?_ _ | (with_reducible refine heap_setCell_off ?_ _ ?_; rotate_left; focus omega) | with_reducible refine heap_drew' ?_ | with_reducible refine heap_drewN' ?_ | with_reducible refine heap_below (by with_reducible assumption) ?_)), (by repeat (first | with_reducible assumption | (with_reducible refine heap_alloc_at' _ _ ?_; focus (simp; done)) | with_reducible refine heap_alloc_off ?_ _ | (with_reducible refine heap_setCell_off ?_ _ ?_; rotate_left; focus omega) | with_reducible refine heap_drew' ?_ | with_reducible refine heap_drewN' ?_ | with_reducible refine heap_below (by with_reducible assumption) ?_)), (by repeat (first | with_reducible assumption | (with_reducible refine heap_alloc_at' _ _ ?_; focus (simp; done)) | with_reducible refine heap_alloc_off ?_ _ | (with_reducible refine heap_setCell_off ?_ _ ?_; rotate_left; focus omega) | with_reducible refine heap_drew' ?_ | with_reducible refine heap_drewN' ?_ | with_reducible refine heap_below (by with_reducible assumption) ?_))⟩
  case rest =>
    obtain ⟨q, r, rfl, hb, hq2, hqr, hr2, wq, wr, x0, x1, x2⟩ := hcut
    have x0c := cells_of x0
    have x1c := cells_of x1
    have x2c := cells_of x2
    have x2f := frozen_of x2
    have wrc := cells_of wr
    have wqf := frozen_of wq
    have x0l := lt_of_heap x0
    have x1l := lt_of_heap x1
    have x2l := lt_of_heap x2
    have wrl := lt_of_heap wr
    have wql := lt_of_heap wq
    have n0 : ¬ w.heap.size ∈ [q] := by simp; omega
    have n1 : ¬ w.heap.size + 1 ∈ [q] := by simp; omega
    have n2 : ¬ r ∈ [q] := by simp; omega
    have n3 : ¬ w.heap.size + 2 ∈ [q] := by simp; omega
    have hTc := HhT.out.below (hb.mono hB)
    have hsc := Hhs.out.below (ek_hop B) (hb.mono hB)
    have hBc : B ≤ wc.heap.size := by omega
    have hI0 : Keeps [q] wc wc.drew := (Keeps.refl _ _).drew
    obtain ⟨vf, hvf⟩ : ∃ v, v = foldS (hopStep T g.cls) (WSt.start g.place 0) x.hops := ⟨_, rfl⟩
    have hval2 : tripT T x = tripEnd T x vf := by rw [Hhval.out, hvf]; rfl
    clear Hhval
    have Hx0 := Lib.hid x0; clear x0; have Hx1 := Lib.hid x1; clear x1; have Hx2 := Lib.hid x2; clear x2; have Hwr := Lib.hid wr; clear wr; have Hwq := Lib.hid wq; clear wq; have HhTc := Lib.hid hTc; clear hTc; have Hhsc := Lib.hid hsc; clear hsc; have Hhval2 := Lib.hid hval2; clear hval2; have Hhb := Lib.hid hb; clear hb
    go_upto_region 9 with fail
    refine wp_region_ord (fun W => Keeps [q] wc W) [([0, 1, 2], 3), ([4, 5, 6, 7, 8, 9, 10], 11)] [12, 13] none (by kernel_rfl) (by kernel_rfl) hI0 ?_
    refine OrdI_cons ?_
    (apply StI_plain (w0 := wc.drew) hI0 rfl rfl rfl rfl; (focus (intro W hW K hK; have := Keeps.cell hW (w.heap.size + 1) x1l n1; have := Keeps.cell hW w.heap.size x0l n0; have := Keeps.cell hW r wrl n2; go_step; exact hK)); (focus rfl)); (apply StI_plain (w0 := wc.drew) hI0 rfl rfl rfl rfl; (focus (intro W hW K hK; have := Keeps.cell hW (w.heap.size + 1) x1l n1; have := Keeps.cell hW w.heap.size x0l n0; have := Keeps.cell hW r wrl n2; go_step; exact hK)); (focus rfl)); (apply StI_plain (w0 := wc.drew) hI0 rfl rfl rfl rfl; (focus (intro W hW K hK; have := Keeps.cell hW (w.heap.size + 1) x1l n1; have := Keeps.cell hW w.heap.size x0l n0; have := Keeps.cell hW r wrl n2; go_step; exact hK)); (focus rfl))
    cases vf with
    | none =>
      (apply StI_eff rfl; go_wp2_with (first | (go_at_call 89; refine (hopsT_val T _ _ _ _ _ _ _ _ B q r g.cls x.hops a' c' (WSt.start g.place 0) true (by rw [← hvf]; rfl) _ hG (HhTc.out.drew) (Hhsc.out.drew (ek_hop B)) hBc (by omega) hqr hv2 hv3 gc0 (by omega) ⟨gp0, gp1⟩ ⟨Int.le_refl 0, (by decide : (0 : Int) ≤ 400)⟩ Hwq.out (by simp [wrc]) wrl).mono ?_; rintro e w3 ⟨st, rfl, hk3, wq3, hst⟩)))
      have hI3 := hI0.trans hk3
      have hI30 := Below.refl w3.heap.size w3
      refine onNormal_to (fun W => Below w3.heap.size w3 W) (fun W h => hI3.stepB h) hI30 (OrdI_cons ?_)
      (apply StI_plain (w0 := w3) hI30 rfl rfl rfl rfl; (focus (intro W hW K hK; skip; go_step; exact hK)); (focus rfl)); (apply StI_no2; (focus rfl); (focus rfl); (focus rfl); (focus rfl); (focus rfl); (focus rfl); (focus (simp only [Act.put, List.setIfInBounds_toArray, List.set_cons_succ, List.set_cons_zero]; exact rfl))); (apply StI_no2; (focus rfl); (focus rfl); (focus rfl); (focus rfl); (focus rfl); (focus rfl); (focus (simp only [Act.put, List.setIfInBounds_toArray, List.set_cons_succ, List.set_cons_zero]; exact rfl))); (apply StI_no2; (focus rfl); (focus rfl); (focus rfl); (focus rfl); (focus rfl); (focus rfl); (focus (simp only [Act.put, List.setIfInBounds_toArray, List.set_cons_succ, List.set_cons_zero]; exact rfl))); (apply StI_no2; (focus rfl); (focus rfl); (focus rfl); (focus rfl); (focus rfl); (focus rfl); (focus (simp only [Act.put, List.setIfInBounds_toArray, List.set_cons_succ, List.set_cons_zero]; exact rfl))); (apply StI_no2; (focus rfl); (focus rfl); (focus rfl); (focus rfl); (focus rfl); (focus rfl); (focus (simp only [Act.put, List.setIfInBounds_toArray, List.set_cons_succ, List.set_cons_zero]; exact rfl))); (apply StI_no2; (focus rfl); (focus rfl); (focus rfl); (focus rfl); (focus rfl); (focus rfl); (focus (simp only [Act.put, List.setIfInBounds_toArray, List.set_cons_succ, List.set_cons_zero]; exact rfl)))
      apply StI_effno2; (focus rfl); (focus rfl); (focus rfl); (focus rfl); (focus rfl); (focus rfl); (focus (simp only [Act.put, List.setIfInBounds_toArray, List.set_cons_succ, List.set_cons_zero]; exact rfl))
      refine nxt_keep hI30 (OrdI_fin ?_)
      (apply StI_no2; (focus rfl); (focus rfl); (focus rfl); (focus rfl); (focus rfl); (focus rfl); (focus (simp only [Act.put, List.setIfInBounds_toArray, List.set_cons_succ, List.set_cons_zero]; exact rfl))); (apply StI_plain (w0 := w3) hI30 rfl rfl rfl rfl; (focus (intro W hW K hK; skip; go_step; exact hK)); (focus rfl))
      refine StI_nil ?_
      have x23 := hI3.heap Hx2.out n3
      have x23c := cells_of x23
      have x23f := frozen_of x23
      have x23l := lt_of_heap x23
      have Hhk3 := Lib.hid hk3; clear hk3; have HhI3 := Lib.hid hI3; clear hI3; have HhI30 := Lib.hid hI30; clear hI30; have Hx23 := Lib.hid x23; clear x23; have Hhst := Lib.hid hst; clear hst
      go_wp2_with fail
      ((try simp only [Exit.inBlock, Exit.then]); refine bodyPost_ret (v := .tuple #[.agg #[.int .i64 0, .int .i64 0], .int .i64 11]) (by simp [results, Try.results55, go_sem, *]) rfl ?_)
      rw [Hhval2.out]
      exact ⟨rfl, by have := (HhI3.out.below (Nat.le_of_lt x0l) (by simp; omega)); exact bl_setCell (bl_setCell (Hhb.out.trans this) _ _ (by (first | omega | (simp; done) | (simp; omega)))) _ _ (by (first | omega | (simp; done) | (simp; omega)))⟩
    | some st0 =>
      (apply StI_eff rfl; go_wp2_with (first | (go_at_call 89; refine (hopsT_val T _ _ _ _ _ _ _ _ B q r g.cls x.hops a' c' (WSt.start g.place 0) false (by rw [← hvf]; rfl) _ hG (HhTc.out.drew) (Hhsc.out.drew (ek_hop B)) hBc (by omega) hqr hv2 hv3 gc0 (by omega) ⟨gp0, gp1⟩ ⟨Int.le_refl 0, (by decide : (0 : Int) ≤ 400)⟩ Hwq.out (by simp [wrc]) wrl).mono ?_; rintro e w3 ⟨st, rfl, hk3, wq3, hst⟩)))
      obtain ⟨rfl, ⟨sp0, sp1⟩, ss0, ss1⟩ := hst st0 hvf.symm
      have hI3 := hI0.trans hk3
      have hI30 := Below.refl w3.heap.size w3
      have x03 := hI3.heap Hx0.out n0
      have x13 := hI3.heap Hx1.out n1
      have x23 := hI3.heap Hx2.out n3
      have wr3 := hI3.heap Hwr.out n2
      have hT3 := HhTc.out.below (hI3.below hBc (by simp; omega))
      have hB3 : B ≤ w3.heap.size := Nat.le_trans hBc hI3.size
      have x03c := cells_of x03
      have x13c := cells_of x13
      have wr3c := cells_of wr3
      have x23c := cells_of x23
      have x23f := frozen_of x23
      have x0m := lt_of_heap x03
      have x1m := lt_of_heap x13
      have x2m := lt_of_heap x23
      have wrm := lt_of_heap wr3
      have wqm := lt_of_heap wq3
      have wq3f := frozen_of wq3
      obtain ⟨sp, ss, sl, sc, sw⟩ := st0
      have wq3c := cells_of wq3
      simp only [wkCells] at wq3c
      have Hx03 := Lib.hid x03; clear x03; have Hx13 := Lib.hid x13; clear x13; have Hx23 := Lib.hid x23; clear x23; have Hwr3 := Lib.hid wr3; clear wr3; have Hwq3 := Lib.hid wq3; clear wq3; have HhT3 := Lib.hid hT3; clear hT3; have Hhk3 := Lib.hid hk3; clear hk3; have HhI3 := Lib.hid hI3; clear hI3; have Hhst := Lib.hid hst; clear hst
      refine onNormal_to (fun W => Below w3.heap.size w3 W) (fun W h => HhI3.out.stepB h) hI30 (OrdI_cons ?_)
      (apply StI_plain (w0 := w3) hI30 rfl rfl rfl rfl; (focus (intro W hW K hK; obtain ⟨_, _, _⟩ := bk (w.heap.size + 1) hW x1m; obtain ⟨_, _, _⟩ := bk w.heap.size hW x0m; obtain ⟨_, _, _⟩ := bk r hW wrm; obtain ⟨_, _, _⟩ := bk q hW wqm; go_step; exact hK)); (focus rfl)); (apply StI_yes (w0 := w3) hI30; (focus rfl); (focus rfl); (focus rfl); (focus rfl); (focus rfl); (focus rfl); (focus rfl); (focus (intro W hW K hK; obtain ⟨_, _, _⟩ := bk (w.heap.size + 1) hW x1m; obtain ⟨_, _, _⟩ := bk w.heap.size hW x0m; obtain ⟨_, _, _⟩ := bk r hW wrm; obtain ⟨_, _, _⟩ := bk q hW wqm; go_step; exact hK)); (focus rfl)); (apply StI_yes (w0 := w3) hI30; (focus rfl); (focus rfl); (focus rfl); (focus rfl); (focus rfl); (focus rfl); (focus rfl); (focus (intro W hW K hK; obtain ⟨_, _, _⟩ := bk (w.heap.size + 1) hW x1m; obtain ⟨_, _, _⟩ := bk w.heap.size hW x0m; obtain ⟨_, _, _⟩ := bk r hW wrm; obtain ⟨_, _, _⟩ := bk q hW wqm; go_step; exact hK)); (focus rfl)); (apply StI_yes (w0 := w3) hI30; (focus rfl); (focus rfl); (focus rfl); (focus rfl); (focus rfl); (focus rfl); (focus rfl); (focus (intro W hW K hK; obtain ⟨_, _, _⟩ := bk (w.heap.size + 1) hW x1m; obtain ⟨_, _, _⟩ := bk w.heap.size hW x0m; obtain ⟨_, _, _⟩ := bk r hW wrm; obtain ⟨_, _, _⟩ := bk q hW wqm; go_step; exact hK)); (focus rfl)); (apply StI_yes (w0 := w3) hI30; (focus rfl); (focus rfl); (focus rfl); (focus rfl); (focus rfl); (focus rfl); (focus rfl); (focus (intro W hW K hK; obtain ⟨_, _, _⟩ := bk (w.heap.size + 1) hW x1m; obtain ⟨_, _, _⟩ := bk w.heap.size hW x0m; obtain ⟨_, _, _⟩ := bk r hW wrm; obtain ⟨_, _, _⟩ := bk q hW wqm; go_step; exact hK)); (focus rfl)); (apply StI_yes (w0 := w3) hI30; (focus rfl); (focus rfl); (focus rfl); (focus rfl); (focus rfl); (focus rfl); (focus rfl); (focus (intro W hW K hK; obtain ⟨_, _, _⟩ := bk (w.heap.size + 1) hW x1m; obtain ⟨_, _, _⟩ := bk w.heap.size hW x0m; obtain ⟨_, _, _⟩ := bk r hW wrm; obtain ⟨_, _, _⟩ := bk q hW wqm; go_step; exact hK)); (focus rfl)); (apply StI_yes (w0 := w3) hI30; (focus rfl); (focus rfl); (focus rfl); (focus rfl); (focus rfl); (focus rfl); (focus rfl); (focus (intro W hW K hK; obtain ⟨_, _, _⟩ := bk (w.heap.size + 1) hW x1m; obtain ⟨_, _, _⟩ := bk w.heap.size hW x0m; obtain ⟨_, _, _⟩ := bk r hW wrm; obtain ⟨_, _, _⟩ := bk q hW wqm; go_step; exact hK)); (focus rfl))
      cases vr : T.refuge sp with
      | false =>
        (apply StI_eff rfl; go_wp2_with (first | (go_at_call 48; refine (refuge_val T _ _ _ _ _ _ _ _ B sp false vr _ HhT3.out hB3 sp0 sp1).mono ?_; rintro e w4 ⟨rfl, hb4⟩)))
        refine onNormal_mk hb4 (OrdI_fin ?_)
        (apply StI_yes (w0 := w4) hb4; (focus rfl); (focus rfl); (focus rfl); (focus rfl); (focus rfl); (focus rfl); (focus rfl); (focus (intro W hW K hK; skip; go_step; exact hK)); (focus rfl)); (apply StI_plain (w0 := w4) hb4 rfl rfl rfl rfl; (focus (intro W hW K hK; skip; go_step; exact hK)); (focus rfl))
        refine StI_nil ?_
        obtain ⟨_, _, _⟩ := bk (w.heap.size + 2) hb4 x2m
        go_wp2_with fail
        ((try simp only [Exit.inBlock, Exit.then]); refine bodyPost_ret (v := .tuple #[.agg #[.int .i64 0, .int .i64 0], .int .i64 11]) (by simp [results, Try.results55, go_sem, *]) rfl ?_)
        rw [Hhval2.out]
        exact ⟨by simp [tripEnd, vr], by have := (HhI3.out.below (Nat.le_of_lt x0l) (by simp; omega)); exact bl_setCell (bl_setCell (bl_step (Hhb.out.trans this) hb4) _ _ (by (first | omega | (simp; done) | (simp; omega)))) _ _ (by (first | omega | (simp; done) | (simp; omega)))⟩
      | true =>
        (apply StI_eff rfl; go_wp2_with (first | (go_at_call 48; refine (refuge_val T _ _ _ _ _ _ _ _ B sp true vr _ HhT3.out hB3 sp0 sp1).mono ?_; rintro e w4 ⟨rfl, hb4⟩)))
        refine onNormal_mk hb4 (OrdI_fin ?_)
        (apply StI_yes (w0 := w4) hb4; (focus rfl); (focus rfl); (focus rfl); (focus rfl); (focus rfl); (focus rfl); (focus rfl); (focus (intro W hW K hK; skip; go_step; exact hK)); (focus rfl)); (apply StI_plain (w0 := w4) hb4 rfl rfl rfl rfl; (focus (intro W hW K hK; skip; go_step; exact hK)); (focus rfl))
        refine StI_nil ?_
        have wq4 := heap_below hb4 Hwq3.out
        have wr4 := heap_below hb4 Hwr3.out
        have x14 := heap_below hb4 Hx13.out
        have x24 := heap_below hb4 Hx23.out
        have hk4 : Keeps [q] wc w4 := HhI3.out.stepB hb4
        clear wq3c wq3f wr3c x13c x03c x23c x23f
        have wq4c := cells_of wq4
        simp only [wkCells] at wq4c
        have wq4f := frozen_of wq4
        have wr4c := cells_of wr4
        have x14c := cells_of x14
        have x24f := frozen_of x24
        have wqn := lt_of_heap wq4
        have wrn := lt_of_heap wr4
        have x1n := lt_of_heap x14
        have x2n := lt_of_heap x24
        have n1' : ¬ w.heap.size + 1 ∈ [q] := n1
        have n2' : ¬ r ∈ [q] := n2
        have n3' : ¬ w.heap.size + 2 ∈ [q] := n3
        have Hwq4 := Lib.hid wq4; clear wq4; have Hwr4 := Lib.hid wr4; clear wr4; have Hx14 := Lib.hid x14; clear x14; have Hx24 := Lib.hid x24; clear x24; have Hhk4 := Lib.hid hk4; clear hk4
        go_upto_region 11 with fail
        go_cut [] from 63 to 94 (fun wx => Keeps [q] w4 wx ∧ wx.heap[q]? = some (wkOf T a1 a2 (some ⟨b, off, none⟩) a4 c1 c2 c3 c4 g.cls ⟨sp, ss, sl || decide (x.enter < ss), sc, sw⟩))
        case first =>
          have hk40 : Keeps [q] w4 w4 := Keeps.refl _ _
          cases sl
          · go_region
            all_goals (go_wp2_with fail; go_meet; exact ⟨by repeat (first | with_reducible exact Keeps.refl _ _ | with_reducible refine Keeps.drew ?_ | with_reducible refine Keeps.drewN ?_ _ | with_reducible refine Keeps.alloc ?_ _ | (with_reducible refine Keeps.setCell ?_ _ _ ?_; rotate_left; focus (first | (simp; done) | (simp; omega))) | with_reducible assumption | with_reducible refine Keeps.stepB ?_ (by with_reducible assumption)), heap_drew' ((heap_setCell_at Hwq4.out _).trans rfl)⟩)
          · go_region
            all_goals (go_wp2_with fail; go_meet; exact ⟨by repeat (first | with_reducible exact Keeps.refl _ _ | with_reducible refine Keeps.drew ?_ | with_reducible refine Keeps.drewN ?_ _ | with_reducible refine Keeps.alloc ?_ _ | (with_reducible refine Keeps.setCell ?_ _ _ ?_; rotate_left; focus (first | (simp; done) | (simp; omega))) | with_reducible assumption | with_reducible refine Keeps.stepB ?_ (by with_reducible assumption)), heap_drew' ((heap_setCell_at Hwq4.out _).trans rfl)⟩)
        case rest =>
          obtain ⟨k5, wq5⟩ := hcut
          obtain ⟨fl, hfl⟩ : ∃ v, (sl || decide (x.enter < ss)) = v := ⟨_, rfl⟩
          rw [hfl] at wq5
          have wr5 := k5.heap Hwr4.out n2'
          have x15 := k5.heap Hx14.out n1'
          have x25 := k5.heap Hx24.out n3'
          clear wq4c wq4f wr4c x14c x24f
          have wq5c := cells_of wq5
          simp only [wkCells] at wq5c
          have wr5c := cells_of wr5
          have x15c := cells_of x15
          have x25f := frozen_of x25
          have x25c := cells_of x25
          have wqo := lt_of_heap wq5
          have wro := lt_of_heap wr5
          have x1o := lt_of_heap x15
          have x2o := lt_of_heap x25
          have m1 : ¬ w.heap.size + 1 ∈ [w.heap.size + 2] := by simp
          have m2 : ¬ r ∈ [w.heap.size + 2] := by simp; omega
          have mq : ¬ q ∈ [w.heap.size + 2] := by simp; omega
          have hI6 : Keeps [w.heap.size + 2] wc wc.drew := (Keeps.refl _ _).drew
          have Hwq5 := Lib.hid wq5; clear wq5; have Hwr5 := Lib.hid wr5; clear wr5; have Hx15 := Lib.hid x15; clear x15; have Hx25 := Lib.hid x25; clear x25; have Hk5 := Lib.hid k5; clear k5
          go_upto_region 12 with fail
          refine wp_region_ord (fun W => Keeps [w.heap.size + 2] wc W) [([0, 1, 2, 3, 4, 5, 6, 7, 8], 9), ([], 10)] [11] none (by kernel_rfl) (by kernel_rfl) hI6 ?_
          refine OrdI_cons ?_
          (apply StI_plain (w0 := wc.drew) hI6 rfl rfl rfl rfl; (focus (intro W hW K hK; have := Keeps.cell hW (w.heap.size + 1) x1o m1; have := Keeps.cell hW r wro m2; have := Keeps.cell hW q wqo mq; go_step; exact hK)); (focus rfl)); (apply StI_plain (w0 := wc.drew) hI6 rfl rfl rfl rfl; (focus (intro W hW K hK; have := Keeps.cell hW (w.heap.size + 1) x1o m1; have := Keeps.cell hW r wro m2; have := Keeps.cell hW q wqo mq; go_step; exact hK)); (focus rfl)); (apply StI_plain (w0 := wc.drew) hI6 rfl rfl rfl rfl; (focus (intro W hW K hK; have := Keeps.cell hW (w.heap.size + 1) x1o m1; have := Keeps.cell hW r wro m2; have := Keeps.cell hW q wqo mq; go_step; exact hK)); (focus rfl)); (apply StI_plain (w0 := wc.drew) hI6 rfl rfl rfl rfl; (focus (intro W hW K hK; have := Keeps.cell hW (w.heap.size + 1) x1o m1; have := Keeps.cell hW r wro m2; have := Keeps.cell hW q wqo mq; go_step; exact hK)); (focus rfl)); (apply StI_plain (w0 := wc.drew) hI6 rfl rfl rfl rfl; (focus (intro W hW K hK; have := Keeps.cell hW (w.heap.size + 1) x1o m1; have := Keeps.cell hW r wro m2; have := Keeps.cell hW q wqo mq; go_step; exact hK)); (focus rfl)); (apply StI_plain (w0 := wc.drew) hI6 rfl rfl rfl rfl; (focus (intro W hW K hK; have := Keeps.cell hW (w.heap.size + 1) x1o m1; have := Keeps.cell hW r wro m2; have := Keeps.cell hW q wqo mq; go_step; exact hK)); (focus rfl)); (apply StI_plain (w0 := wc.drew) hI6 rfl rfl rfl rfl; (focus (intro W hW K hK; have := Keeps.cell hW (w.heap.size + 1) x1o m1; have := Keeps.cell hW r wro m2; have := Keeps.cell hW q wqo mq; go_step; exact hK)); (focus rfl)); (apply StI_plain (w0 := wc.drew) hI6 rfl rfl rfl rfl; (focus (intro W hW K hK; have := Keeps.cell hW (w.heap.size + 1) x1o m1; have := Keeps.cell hW r wro m2; have := Keeps.cell hW q wqo mq; go_step; exact hK)); (focus rfl)); (apply StI_plain (w0 := wc.drew) hI6 rfl rfl rfl rfl; (focus (intro W hW K hK; have := Keeps.cell hW (w.heap.size + 1) x1o m1; have := Keeps.cell hW r wro m2; have := Keeps.cell hW q wqo mq; go_step; exact hK)); (focus rfl))
          (apply StI_eff rfl; go_wp2_with (first | (go_at_call 94; refine (werr_any T _ _ _ _ _ _ _ _ q g.cls ⟨sp, ss, fl, sc, sw⟩ _ (heap_drew' Hwq5.out)).mono ?_; rintro e w6 ⟨rfl, rfl⟩)))
          refine onNormal_mk hI6 (OrdI_cons ?_)
          (apply StI_eff rfl; go_wp2_with fail)
          refine onNormal_mk (by repeat (first | with_reducible exact Keeps.refl _ _ | with_reducible refine Keeps.drew ?_ | with_reducible refine Keeps.drewN ?_ _ | with_reducible refine Keeps.alloc ?_ _ | (with_reducible refine Keeps.setCell ?_ _ _ ?_; rotate_left; focus (first | (simp; done) | (simp; omega))) | with_reducible assumption | with_reducible refine Keeps.stepB ?_ (by with_reducible assumption))) (OrdI_fin ?_)
          (apply StI_plain (w0 := wc.drew) hI6 rfl rfl rfl rfl; (focus (intro W hW K hK; skip; go_step; exact hK)); (focus rfl))
          refine StI_nil ?_
          go_wp2_with fail
          ((try simp only [Exit.inBlock, Exit.then]); refine bodyPost_ret (v := .tuple #[.agg #[.int .i64 sp, .int .i64 x.enter], .int .i64 (WSt.err ⟨sp, ss, fl, sc, sw⟩)]) (by simp [results, Try.results55, go_sem, *]) rfl ?_)
          rw [Hhval2.out]
          exact ⟨by simp [tripEnd, vr, hfl], by have := (HhI3.out.below (Nat.le_of_lt x0l) (by simp; omega)); have h5 := (bl_step (Hhb.out.trans this) hb4).trans (Hk5.out.below (by omega) (fun i hi => by simp at hi; omega)); exact bl_setCell (bl_setCell (bl_drew h5) _ _ (by (first | omega | (simp; done) | (simp; omega)))) _ _ (by (first | omega | (simp; done) | (simp; omega)))⟩
end Go.Proofs.Ytjoihijlcpnhoaa
