/- town: the closures of ride. -/
import Derived.Test.YtjoihijlcpnhoaaTownY
namespace Go.Proofs.Ytjoihijlcpnhoaa
open Go.RowKit

set_option maxHeartbeats 2000000 in
set_option maxRecDepth 100000 in
theorem ride1_any (T : Town) (b : Board) (n : Nat) (a' a3 : Option Addr) (c' c3 q3 q4 : Nat) (w : World) (h4 : w.cell? ⟨q4, 1, none⟩ = some (.slice a' n c')) (h3 : w.cell? ⟨q3, 3, none⟩ = some (.slice a3 T.groups.length c3))
    (hq4 : q4 < w.heap.size) (hq3 : q3 < w.heap.size) (hn : n ≤ 140737488355328) (hl : T.groups.length ≤ 140737488355328) :
    Calls Try.prog 95 #[.agg #[.int .i64 b.hop, .int .i64 b.group, .int .i64 b.count], .pointer (some ⟨q4, 0, none⟩), .pointer (some ⟨q3, 0, none⟩)] w
      fun e w' => e = .returned (.bool (bNone T n b)) ∧ Below w.heap.size w w' := by
  obtain ⟨v1, hv1⟩ : ∃ v, within b.hop 0 ((n : Int) - 1) = v := ⟨_, rfl⟩
  obtain ⟨v2, hv2⟩ : ∃ v, within b.group 0 ((T.groups.length : Int) - 1) = v := ⟨_, rfl⟩
  have hval : bNone T n b = (!v1 || !v2) := by unfold bNone; rw [hv1, hv2]
  rw [hval]
  clear hval
  cases v1
  · go_enter Try.func95, Try.ntmps95
    go_wp2_with (go_at_call 49; refine (within_any _ _ _ _).mono ?_; rintro e w' ⟨rfl, rfl⟩)
    go_ret
    exact ⟨rfl, (by repeat (first | exact Below.refl _ _ | (refine bl_setCell ?_ _ _ ?_; rotate_left; focus (first | omega | (simp; done) | (simp; omega))) | refine bl_alloc ?_ _ | refine bl_step ?_ (by assumption) | refine bl_drew ?_ | refine bl_drewN ?_ _))⟩
  · go_enter Try.func95, Try.ntmps95
    go_wp2_with (go_at_call 49; refine (within_any _ _ _ _).mono ?_; rintro e w' ⟨rfl, rfl⟩)
    go_ret
    exact ⟨rfl, (by repeat (first | exact Below.refl _ _ | (refine bl_setCell ?_ _ _ ?_; rotate_left; focus (first | omega | (simp; done) | (simp; omega))) | refine bl_alloc ?_ _ | refine bl_step ?_ (by assumption) | refine bl_drew ?_ | refine bl_drewN ?_ _))⟩

set_option maxHeartbeats 2000000 in
set_option maxRecDepth 100000 in
theorem ride2_any (T : Town) (b : Board) (a3 : Option Addr) (c3 q3 B : Nat) (w : World) (hg : Sl GroupE 3 B w a3 T.groups) (h3 : w.cell? ⟨q3, 3, none⟩ = some (.slice a3 T.groups.length c3))
    (hq3 : q3 < w.heap.size) (hB : B ≤ w.heap.size) (h0 : 0 ≤ b.group) (h1 : b.group < (T.groups.length : Int)) :
    Calls Try.prog 96 #[.agg #[.int .i64 b.hop, .int .i64 b.group, .int .i64 b.count], .pointer (some ⟨q3, 0, none⟩)] w
      fun e w' => e = .returned (.bool (bBad T b)) ∧ Below w.heap.size w w' := by
  obtain ⟨bk, off, rfl, hb, he⟩ := hg.at h0 h1 Group.z
  have hbw : bk < w.heap.size := by omega
  have hl := hg.1
  obtain ⟨g, hg'⟩ : ∃ g, g = T.gr b.group := ⟨_, rfl⟩
  have he' : GroupE w bk (off + b.group.toNat * 3) g := by rw [hg']; exact he
  clear he
  obtain ⟨e0, e1, e2⟩ := he'
  obtain ⟨v1, hv1⟩ : ∃ v, (g.cls != 2) = v := ⟨_, rfl⟩
  have hval : bBad T b = (v1 || decide (b.count < 1)) := by unfold bBad; rw [← hg', hv1]
  rw [hval]
  clear hval
  have Hhg := Lib.hid hg; clear hg; have Hhg' := Lib.hid hg'; clear hg'
  cases v1
  · go_enter Try.func96, Try.ntmps96
    go_wp2_with fail
    go_ret
    exact ⟨rfl, (by repeat (first | exact Below.refl _ _ | (refine bl_setCell ?_ _ _ ?_; rotate_left; focus (first | omega | (simp; done) | (simp; omega))) | refine bl_alloc ?_ _ | refine bl_step ?_ (by assumption) | refine bl_drew ?_ | refine bl_drewN ?_ _))⟩
  · go_enter Try.func96, Try.ntmps96
    go_wp2_with fail
    go_ret
    exact ⟨rfl, (by repeat (first | exact Below.refl _ _ | (refine bl_setCell ?_ _ _ ?_; rotate_left; focus (first | omega | (simp; done) | (simp; omega))) | refine bl_alloc ?_ _ | refine bl_step ?_ (by assumption) | refine bl_drew ?_ | refine bl_drewN ?_ _))⟩

set_option maxHeartbeats 2000000 in
set_option maxRecDepth 100000 in
theorem ride3_any (T : Town) (b : Board) (l : List Hop) (a' a2 a3 : Option Addr) (c' c2 c3 q3 q4 B : Nat) (w : World) (hg : Sl GroupE 3 B w a3 T.groups) (hw : Sl WayE 8 B w a2 T.ways) (hs : Sl HopE 2 B w a' l)
    (h2 : w.cell? ⟨q3, 2, none⟩ = some (.slice a2 T.ways.length c2)) (h3 : w.cell? ⟨q3, 3, none⟩ = some (.slice a3 T.groups.length c3)) (h4 : w.cell? ⟨q4, 1, none⟩ = some (.slice a' l.length c'))
    (hq3 : q3 < w.heap.size) (hq4 : q4 < w.heap.size) (hB : B ≤ w.heap.size) (h0 : 0 ≤ b.group) (h1 : b.group < (T.groups.length : Int)) (k0 : 0 ≤ b.hop) (k1 : b.hop < (l.length : Int))
    (m0 : 0 ≤ (l.getD b.hop.toNat Hop.z).way) (m1 : (l.getD b.hop.toNat Hop.z).way < (T.ways.length : Int)) :
    Calls Try.prog 97 #[.agg #[.int .i64 b.hop, .int .i64 b.group, .int .i64 b.count], .pointer (some ⟨q3, 0, none⟩), .pointer (some ⟨q4, 0, none⟩)] w
      fun e w' => e = .returned (.bool (bElse T l b)) ∧ Below w.heap.size w w' := by
  obtain ⟨gb, goff, rfl, hgb, ge⟩ := hg.at h0 h1 Group.z
  obtain ⟨hb, hoff, rfl, hhb, he⟩ := hs.at k0 k1 Hop.z
  obtain ⟨h, hh⟩ : ∃ h, h = l.getD b.hop.toNat Hop.z := ⟨_, rfl⟩
  rw [← hh] at m0 m1 he
  obtain ⟨wb, woff, rfl, hwb, we⟩ := hw.at m0 m1 Way.z
  have hl1 := hg.1
  have hl2 := hw.1
  have hl3 := hs.1
  have : gb < w.heap.size := by omega
  have : hb < w.heap.size := by omega
  have : wb < w.heap.size := by omega
  obtain ⟨g, hg'⟩ : ∃ g, g = T.gr b.group := ⟨_, rfl⟩
  obtain ⟨x, hx⟩ : ∃ x, x = T.wy h.way := ⟨_, rfl⟩
  have ge' : GroupE w gb (goff + b.group.toNat * 3) g := by rw [hg']; exact ge
  have we' : WayE w wb (woff + h.way.toNat * 8) x := by rw [hx]; exact we
  clear ge we
  obtain ⟨e0, e1, e2⟩ := ge'
  obtain ⟨f0, f1, f2, f3, f4, f5, f6, f7⟩ := we'
  obtain ⟨i0, i1⟩ := he
  have hval : bElse T l b = (x.src != g.place) := by unfold bElse; rw [← hh, ← hx, ← hg']
  rw [hval]
  clear hval
  have Hhg := Lib.hid hg; clear hg; have Hhw := Lib.hid hw; clear hw; have Hhs := Lib.hid hs; clear hs; have Hhg' := Lib.hid hg'; clear hg'; have Hhx := Lib.hid hx; clear hx; have Hhh := Lib.hid hh; clear hh
  go_enter Try.func97, Try.ntmps97
  go_wp2_with fail
  go_quiet (fail)
  go_wp2_with fail
  go_ret
  exact ⟨rfl, (by repeat (first | exact Below.refl _ _ | (refine bl_setCell ?_ _ _ ?_; rotate_left; focus (first | omega | (simp; done) | (simp; omega))) | refine bl_alloc ?_ _ | refine bl_step ?_ (by assumption) | refine bl_drew ?_ | refine bl_drewN ?_ _))⟩

set_option maxHeartbeats 2000000 in
set_option maxRecDepth 100000 in
theorem ride4_any (T : Town) (a1 a2 a3 a4 : Option Addr) (c1 c2 c3 c4 : Nat) (B : Nat) (q r : Nat) (c : Int) (st : WSt) (h : Hop) (w : World) (hG : TownG T) (hT : TownM B w a1 a2 a3 a4 T) (hB : B ≤ w.heap.size) (hBq : B ≤ q)
    (hq : w.heap[q]? = some (wkOf T a1 a2 a3 a4 c1 c2 c3 c4 c st)) (hr : w.cell? ⟨r, 0, none⟩ = some (.pointer (some ⟨q, 0, none⟩))) (hrs : r < w.heap.size) (hu : T.unknown h = false) (ho : T.outside h = false) (hc0 : 0 ≤ c) (hc3 : c < 3) :
    Calls Try.prog 99 #[.agg #[.int .i64 h.way, .int .i64 h.leave], .pointer (some ⟨r, 0, none⟩)] w
      fun e w' => e = .returned (.bool (hopStep T c st h).isNone) ∧ Keeps [q] w w' ∧ w'.heap[q]? = some (wkOf T a1 a2 a3 a4 c1 c2 c3 c4 c ((hopStep T c st h).getD st)) := by
  have hqs := lt_of_heap hq
  have HC := fun (W : World) (hT : TownM B W a1 a2 a3 a4 T) (hB : B ≤ W.heap.size) (hq : W.heap[q]? = some (wkOf T a1 a2 a3 a4 c1 c2 c3 c4 c st)) => hop_g T _ _ _ _ _ _ _ _ B q c st h W hG hT hB hBq hq hu ho hc0 hc3
  have HHC := Lib.hid HC; clear HC; have HhT := Lib.hid hT; clear hT; have Hhq := Lib.hid hq; clear hq; have HhG := Lib.hid hG; clear hG; have Hhu := Lib.hid hu; clear hu; have Hho := Lib.hid ho; clear ho
  go_enter Try.func99, Try.ntmps99
  go_wp2_with (go_at_call 93; refine (HHC.out _ (HhT.out.below ((Below.refl _ w).alloc hB _)) (by (first | omega | (simp; done) | (simp; omega))) (heap_alloc_off Hhq.out _)).mono ?_; rintro e w1 ⟨rfl, hk, hq1⟩)
  go_ret
  exact ⟨by cases hopStep T c st h <;> rfl, (Keeps.refl [q] w).alloc _ |>.trans hk, hq1⟩

end Go.Proofs.Ytjoihijlcpnhoaa
namespace Go.Proofs.Ytjoihijlcpnhoaa
open Go.RowKit

def rideEnd (T : Town) (x : Ride) : Option WSt → Int × Int × Int
  | none => (0, 0, 11)
  | some st => if x.boards.any (bElse T x.hops) || !T.refuge st.place then (0, 0, 11) else (st.place, st.step, st.err)

theorem enters_ride1 : ∀ (args : Array Value) (w : World), (callFunc 95 args).run Try.prog w = .ok (.enter 95 args) w := by
  intro args w
  go_simp
theorem enters_ride2 : ∀ (args : Array Value) (w : World), (callFunc 96 args).run Try.prog w = .ok (.enter 96 args) w := by
  intro args w
  go_simp
theorem enters_ride3 : ∀ (args : Array Value) (w : World), (callFunc 97 args).run Try.prog w = .ok (.enter 97 args) w := by
  intro args w
  go_simp
theorem enters_ride4 : ∀ (args : Array Value) (w : World), (callFunc 99 args).run Try.prog w = .ok (.enter 99 args) w := by
  intro args w
  go_simp

theorem bNone_val (T : Town) (a1 a2 a3 a4 : Option Addr) (c1 c2 c3 c4 : Nat) (x : Ride) (a' a'' : Option Addr) (c' c'' q3 q4 B : Nat) (v : Bool) (hv : x.boards.any (bNone T x.hops.length) = v) (w : World) (hs : Sl BoardE 3 B w a'' x.boards) (hB : B ≤ w.heap.size)
    (h4 : w.heap[q4]? = some (.cells #[.int .i64 x.vehicle, .slice a' x.hops.length c', .slice a'' x.boards.length c''] 53 (0, 0))) (h3 : w.heap[q3]? = some (.cells #[.int .i64 T.steps, .slice a1 T.places.length c1, .slice a2 T.ways.length c2, .slice a3 T.groups.length c3, .slice a4 T.vehicles.length c4] 27 (0, 0))) (hn : x.hops.length ≤ 140737488355328) (hl : T.groups.length ≤ 140737488355328) :
    Calls Try.prog 98 #[.slice a'' x.boards.length c'', .func (.func 95) #[] #[.pointer (some ⟨q4, 0, none⟩), .pointer (some ⟨q3, 0, none⟩)]] w
      fun e w' => e = .returned (.bool v) ∧ Below w.heap.size w w' := by
  subst hv
  refine containsBoard_any x.boards a'' c'' B 95 #[] #[.pointer (some ⟨q4, 0, none⟩), .pointer (some ⟨q3, 0, none⟩)] (bNone T x.hops.length) w hB hs enters_ride1 (fun b W _ hW => ?_)
  have g3 := heap_below hW h3
  have g4 := heap_below hW h4
  exact ride1_any T b x.hops.length a' a3 c' c3 q3 q4 W (by rw [cells_of g4]; rfl) (by rw [cells_of g3]; rfl) (lt_of_heap g4) (lt_of_heap g3) hn hl

theorem bBad_val (T : Town) (a1 a2 a3 a4 : Option Addr) (c1 c2 c3 c4 : Nat) (x : Ride) (a'' : Option Addr) (c'' q3 B : Nat) (v : Bool) (hv : x.boards.any (bBad T) = v) (w : World) (hs : Sl BoardE 3 B w a'' x.boards) (hg : TownM B w a1 a2 a3 a4 T) (hB : B ≤ w.heap.size)
    (h3 : w.heap[q3]? = some (.cells #[.int .i64 T.steps, .slice a1 T.places.length c1, .slice a2 T.ways.length c2, .slice a3 T.groups.length c3, .slice a4 T.vehicles.length c4] 27 (0, 0))) (hbg : ∀ b ∈ x.boards, 0 ≤ b.group ∧ b.group < (T.groups.length : Int)) :
    Calls Try.prog 98 #[.slice a'' x.boards.length c'', .func (.func 96) #[] #[.pointer (some ⟨q3, 0, none⟩)]] w
      fun e w' => e = .returned (.bool v) ∧ Below w.heap.size w w' := by
  subst hv
  refine containsBoard_any x.boards a'' c'' B 96 #[] #[.pointer (some ⟨q3, 0, none⟩)] (bBad T) w hB hs enters_ride2 (fun b W hm hW => ?_)
  have g3 := heap_below hW h3
  exact ride2_any T b a3 c3 q3 B W (hg.groups.below (ek_group B) (hW.mono hB)) (by rw [cells_of g3]; rfl) (lt_of_heap g3) (Nat.le_trans hB hW.size) (hbg b hm).1 (hbg b hm).2

theorem bElse_val (T : Town) (a1 a2 a3 a4 : Option Addr) (c1 c2 c3 c4 : Nat) (x : Ride) (a' a'' : Option Addr) (c' c'' q3 q4 B : Nat) (v : Bool) (hv : x.boards.any (bElse T x.hops) = v) (w : World) (hs : Sl BoardE 3 B w a'' x.boards) (hh : Sl HopE 2 B w a' x.hops) (hT : TownM B w a1 a2 a3 a4 T)
    (hB : B ≤ w.heap.size) (h4 : w.heap[q4]? = some (.cells #[.int .i64 x.vehicle, .slice a' x.hops.length c', .slice a'' x.boards.length c''] 53 (0, 0))) (h3 : w.heap[q3]? = some (.cells #[.int .i64 T.steps, .slice a1 T.places.length c1, .slice a2 T.ways.length c2, .slice a3 T.groups.length c3, .slice a4 T.vehicles.length c4] 27 (0, 0)))
    (hbg : ∀ b ∈ x.boards, 0 ≤ b.group ∧ b.group < (T.groups.length : Int)) (hbh : ∀ b ∈ x.boards, 0 ≤ b.hop ∧ b.hop < (x.hops.length : Int)) (hu : x.hops.any T.unknown = false) :
    Calls Try.prog 98 #[.slice a'' x.boards.length c'', .func (.func 97) #[] #[.pointer (some ⟨q3, 0, none⟩), .pointer (some ⟨q4, 0, none⟩)]] w
      fun e w' => e = .returned (.bool v) ∧ Below w.heap.size w w' := by
  subst hv
  have hu0 : ∀ h ∈ x.hops, T.unknown h = false := fun h hm => by have := List.any_eq_false.1 hu h hm; simpa using this
  refine containsBoard_any x.boards a'' c'' B 97 #[] #[.pointer (some ⟨q3, 0, none⟩), .pointer (some ⟨q4, 0, none⟩)] (bElse T x.hops) w hB hs enters_ride3 (fun b W hm hW => ?_)
  have g3 := heap_below hW h3
  have g4 := heap_below hW h4
  have hu' := unknown_not.1 (hu0 _ (getD_mem (z := Hop.z) (hbh b hm).1 (hbh b hm).2))
  exact ride3_any T b x.hops a' a2 a3 c' c2 c3 q3 q4 B W (hT.groups.below (ek_group B) (hW.mono hB)) (hT.ways.below (ek_way B) (hW.mono hB)) (hh.below (ek_hop B) (hW.mono hB)) (by rw [cells_of g3]; rfl) (by rw [cells_of g3]; rfl)
    (by rw [cells_of g4]; rfl) (lt_of_heap g3) (lt_of_heap g4) (Nat.le_trans hB hW.size) (hbg b hm).1 (hbg b hm).2 (hbh b hm).1 (hbh b hm).2 hu'.1 hu'.2

theorem hopsR_val (T : Town) (a1 a2 a3 a4 : Option Addr) (c1 c2 c3 c4 : Nat) (B q r : Nat) (c : Int) (l : List Hop) (a' : Option Addr) (c' : Nat) (st0 : WSt) (v : Bool) (hv : (foldS (hopStep T c) st0 l).isNone = v) (w : World) (hG : TownG T) (hT : TownM B w a1 a2 a3 a4 T) (hs : Sl HopE 2 B w a' l) (hB : B ≤ w.heap.size) (hBq : B ≤ q) (hqr : q ≠ r)
    (hu : l.any T.unknown = false) (ho : l.any T.outside = false) (hc0 : 0 ≤ c) (hc3 : c < 3) (hp0 : 0 ≤ st0.place ∧ st0.place < (T.places.length : Int)) (hs0 : 0 ≤ st0.step ∧ st0.step ≤ 400)
    (hq : w.heap[q]? = some (wkOf T a1 a2 a3 a4 c1 c2 c3 c4 c st0)) (hr : w.cell? ⟨r, 0, none⟩ = some (.pointer (some ⟨q, 0, none⟩))) (hrs : r < w.heap.size) :
    Calls Try.prog 89 #[.slice a' l.length c', .func (.func 99) #[] #[.pointer (some ⟨r, 0, none⟩)]] w
      fun e w' => ∃ st, e = .returned (.bool v) ∧ Keeps [q] w w' ∧ w'.heap[q]? = some (wkOf T a1 a2 a3 a4 c1 c2 c3 c4 c st) ∧ (∀ s, foldS (hopStep T c) st0 l = some s → s = st ∧ (0 ≤ st.place ∧ st.place < (T.places.length : Int)) ∧ (0 ≤ st.step ∧ st.step ≤ 400)) := by
  subst hv
  have hu' : ∀ h ∈ l, T.unknown h = false := fun h hm => by have := List.any_eq_false.1 hu h hm; simpa using this
  have ho' : ∀ h ∈ l, T.outside h = false := fun h hm => by have := List.any_eq_false.1 ho h hm; simpa using this
  refine (containsHopS_any l a' c' B 99 #[] #[.pointer (some ⟨r, 0, none⟩)] (hopStep T c) (fun st W => Keeps [q] w W ∧ W.heap[q]? = some (wkOf T a1 a2 a3 a4 c1 c2 c3 c4 c st))
    (fun st => (0 ≤ st.place ∧ st.place < (T.places.length : Int)) ∧ (0 ≤ st.step ∧ st.step ≤ 400)) st0 w hB hs ⟨Keeps.refl _ _, hq⟩ ⟨hp0, hs0⟩ (fun st W h => h.1.below hB (by simpa using hBq))
    (fun st x st' _ hm e => ⟨hopStep_place hG (hu' x hm) e, hopStep_step hG (hu' x hm) (ho' x hm) e⟩) enters_ride4 (fun st x W hm _ hI => ?_)).mono ?_
  · refine (ride4_any T _ _ _ _ _ _ _ _ B q r c st x W hG (hT.below (hI.1.below hB (by simpa using hBq))) (Nat.le_trans hB hI.1.size) hBq hI.2 ((hI.1.cell r hrs (by simpa using hqr.symm) 0).trans hr) (Nat.lt_of_lt_of_le hrs hI.1.size) (hu' x hm) (ho' x hm) hc0 hc3).mono ?_
    rintro e w' ⟨rfl, hk, hq'⟩
    exact ⟨rfl, hI.1.trans hk, hq'⟩
  · rintro e w' ⟨st, rfl, hI, hst⟩
    exact ⟨st, rfl, hI.1, hI.2, hst⟩

/-- In the midst of a ride: the boxes of the call's own, and the walker. -/
def RideS (w : World) (q r : Nat) (x : Ride) (a' a'' : Option Addr) (c' c'' : Nat) (T : Town) (a1 a2 a3 a4 : Option Addr) (c1 c2 c3 c4 : Nat) (st : WSt) (wx : World) : Prop :=
  Below w.heap.size w wx ∧ w.heap.size + 3 < q ∧ q ≠ r ∧ w.heap.size + 3 < r ∧ wx.heap[q]? = some (wkOf T a1 a2 a3 a4 c1 c2 c3 c4 2 st) ∧ wx.heap[r]? = some (.cells #[.pointer (some ⟨q, 0, none⟩)] 202 (0, 0)) ∧
  wx.heap[w.heap.size]? = some (.cells #[.int .i64 T.steps, .slice a1 T.places.length c1, .slice a2 T.ways.length c2, .slice a3 T.groups.length c3, .slice a4 T.vehicles.length c4] 27 (0, 0)) ∧
  wx.heap[w.heap.size + 1]? = some (.cells #[.int .i64 x.vehicle, .slice a' x.hops.length c', .slice a'' x.boards.length c''] 53 (0, 0)) ∧
  wx.heap[w.heap.size + 3]? = some (.cells #[.int .i64 0, .int .i64 0] 121 (0, 0))

end Go.Proofs.Ytjoihijlcpnhoaa
namespace Go.Proofs.Ytjoihijlcpnhoaa
open Go.RowKit

set_option maxHeartbeats 16000000 in
set_option maxRecDepth 100000 in
theorem ride_good (T : Town) (a1 a2 a3 a4 : Option Addr) (c1 c2 c3 c4 : Nat) (B : Nat) (x : Ride) (a' a'' : Option Addr) (c' c'' : Nat) (p s : Int) (w : World) (hG : TownG T) (hT : TownM B w a1 a2 a3 a4 T) (hs : Sl HopE 2 B w a' x.hops) (hb : Sl BoardE 3 B w a'' x.boards) (hB : B ≤ w.heap.size)
    (hp : 0 ≤ p ∧ p < (T.places.length : Int)) (hss : 0 ≤ s ∧ s ≤ 400)
    (hv1 : x.hops.any T.unknown = false) (hv2 : x.boards.any (bNone T x.hops.length) = false) (q1' : (x.hops.length == 0) = false) (hv3 : x.boards.any (bBad T) = false) (hv4 : x.hops.any T.outside = false)
    (bg : ∀ b ∈ x.boards, 0 ≤ b.group ∧ b.group < (T.groups.length : Int)) (bh : ∀ b ∈ x.boards, 0 ≤ b.hop ∧ b.hop < (x.hops.length : Int)) :
    Calls Try.prog 58 #[.agg #[.int .i64 T.steps, .slice a1 T.places.length c1, .slice a2 T.ways.length c2, .slice a3 T.groups.length c3, .slice a4 T.vehicles.length c4], .agg #[.int .i64 x.vehicle, .slice a' x.hops.length c', .slice a'' x.boards.length c''], .agg #[.int .i64 p, .int .i64 s]] w
      fun e w' => e = .returned (.tuple #[.agg #[.int .i64 (rideT T x p s).1, .int .i64 (rideT T x p s).2.1], .int .i64 (rideT T x p s).2.2]) ∧ Below w.heap.size w w' := by
  have hl2 := hT.ways.1
  have hl3 := hT.groups.1
  have hl4 := hs.1
  have hval : rideT T x p s = rideT T x p s := rfl
  have q1i : ((x.hops.length : Int) == 0) = false := by simpa using q1'
  have q1j := Lib.hid q1'
  have hv2j := Lib.hid hv2
  conv at hval => rhs; unfold rideT; rw [hv1, hv2, q1', hv3, hv4]; simp only [Bool.not_true, Bool.not_false, Bool.true_or, Bool.or_true, Bool.false_or, Bool.or_false, if_true, Bool.false_eq_true, if_false]
  clear q1'
  have HhT := Lib.hid hT; clear hT; have Hhs := Lib.hid hs; clear hs; have Hhb := Lib.hid hb; clear hb; have Hhval := Lib.hid hval; clear hval; have Hbg := Lib.hid bg; clear bg; have Hbh := Lib.hid bh; clear bh
  have tok1 : True := trivial
  have tok2 : True := trivial
  go_enter Try.func58, Try.ntmps58
  go_upto_region 10 with (first
    | (go_at_call 89; have _t := tok1; clear _t; refine (unknown_val T _ _ _ _ _ _ _ _ B x.hops a' c' _ hv1 hl2 _ (Hhs.out.below (ek_hop B) ((show Below w.heap.size w _ from (by repeat (first | exact Below.refl _ _ | (refine bl_setCell ?_ _ _ ?_; rotate_left; focus (first | omega | (simp; done) | (simp; omega))) | refine bl_alloc ?_ _ | refine bl_step ?_ (by assumption) | refine bl_drew ?_ | refine bl_drewN ?_ _))).mono hB)) (by (first | omega | (simp; done) | (simp; omega)))).mono ?_; rintro e w1 ⟨rfl, hb1⟩; obtain ⟨_, _, _⟩ := bk (w.heap.size) hb1 (by (first | omega | (simp; done) | (simp; omega))); obtain ⟨_, _, _⟩ := bk (w.heap.size + 1) hb1 (by (first | omega | (simp; done) | (simp; omega))); obtain ⟨_, _, _⟩ := bk (w.heap.size + 2) hb1 (by (first | omega | (simp; done) | (simp; omega))); obtain ⟨_, _, _⟩ := bk (w.heap.size + 3) hb1 (by (first | omega | (simp; done) | (simp; omega))); have hzhb1 := bsz hb1; (try simp only [World.size_alloc] at hzhb1); clear tok1)
    | (go_at_call 98; have _t := tok2; clear _t; refine (bNone_val T _ _ _ _ _ _ _ _ x a' a'' c' c'' w.heap.size (w.heap.size + 1) B _ hv2 _ (Hhb.out.below (ek_board B) ((show Below w.heap.size w _ from (by repeat (first | exact Below.refl _ _ | (refine bl_setCell ?_ _ _ ?_; rotate_left; focus (first | omega | (simp; done) | (simp; omega))) | refine bl_alloc ?_ _ | refine bl_step ?_ (by assumption) | refine bl_drew ?_ | refine bl_drewN ?_ _))).mono hB)) (by (first | omega | (simp; done) | (simp; omega))) (by repeat (first | with_reducible assumption | (with_reducible refine heap_alloc_at' _ _ ?_; focus (simp; done)) | with_reducible refine heap_alloc_off ?_ _ | (with_reducible refine heap_setCell_off ?_ _ ?_; rotate_left; focus omega) | with_reducible refine heap_drew' ?_ | with_reducible refine heap_drewN' ?_ | with_reducible refine heap_below (by with_reducible assumption) ?_)) (by repeat (first | with_reducible assumption | (with_reducible refine heap_alloc_at' _ _ ?_; focus (simp; done)) | with_reducible refine heap_alloc_off ?_ _ | (with_reducible refine heap_setCell_off ?_ _ ?_; rotate_left; focus omega) | with_reducible refine heap_drew' ?_ | with_reducible refine heap_drewN' ?_ | with_reducible refine heap_below (by with_reducible assumption) ?_)) hl4 hl3).mono ?_; rintro e w2 ⟨rfl, hb2⟩; obtain ⟨_, _, _⟩ := bk (w.heap.size) hb2 (by (first | omega | (simp; done) | (simp; omega))); obtain ⟨_, _, _⟩ := bk (w.heap.size + 1) hb2 (by (first | omega | (simp; done) | (simp; omega))); obtain ⟨_, _, _⟩ := bk (w.heap.size + 2) hb2 (by (first | omega | (simp; done) | (simp; omega))); obtain ⟨_, _, _⟩ := bk (w.heap.size + 3) hb2 (by (first | omega | (simp; done) | (simp; omega))); have hzhb2 := bsz hb2; (try simp only [World.size_alloc] at hzhb2); clear tok2)
    | (go_at_call 98; refine (bBad_val T _ _ _ _ _ _ _ _ x a'' c'' w.heap.size B _ hv3 _ (Hhb.out.below (ek_board B) ((show Below w.heap.size w _ from (by repeat (first | exact Below.refl _ _ | (refine bl_setCell ?_ _ _ ?_; rotate_left; focus (first | omega | (simp; done) | (simp; omega))) | refine bl_alloc ?_ _ | refine bl_step ?_ (by assumption) | refine bl_drew ?_ | refine bl_drewN ?_ _))).mono hB)) (HhT.out.below ((show Below w.heap.size w _ from (by repeat (first | exact Below.refl _ _ | (refine bl_setCell ?_ _ _ ?_; rotate_left; focus (first | omega | (simp; done) | (simp; omega))) | refine bl_alloc ?_ _ | refine bl_step ?_ (by assumption) | refine bl_drew ?_ | refine bl_drewN ?_ _))).mono hB)) (by (first | omega | (simp; done) | (simp; omega))) (by repeat (first | with_reducible assumption | (with_reducible refine heap_alloc_at' _ _ ?_; focus (simp; done)) | with_reducible refine heap_alloc_off ?_ _ | (with_reducible refine heap_setCell_off ?_ _ ?_; rotate_left; focus omega) | with_reducible refine heap_drew' ?_ | with_reducible refine heap_drewN' ?_ | with_reducible refine heap_below (by with_reducible assumption) ?_)) Hbg.out).mono ?_; rintro e w3 ⟨rfl, hb3⟩; obtain ⟨_, _, _⟩ := bk (w.heap.size) hb3 (by (first | omega | (simp; done) | (simp; omega))); obtain ⟨_, _, _⟩ := bk (w.heap.size + 1) hb3 (by (first | omega | (simp; done) | (simp; omega))); obtain ⟨_, _, _⟩ := bk (w.heap.size + 2) hb3 (by (first | omega | (simp; done) | (simp; omega))); obtain ⟨_, _, _⟩ := bk (w.heap.size + 3) hb3 (by (first | omega | (simp; done) | (simp; omega))); have hzhb3 := bsz hb3; (try simp only [World.size_alloc] at hzhb3))
    | (go_at_call 89; refine (outside_val T _ _ _ _ _ _ _ _ B x.hops a' c' _ hv4 _ (Hhs.out.below (ek_hop B) ((show Below w.heap.size w _ from (by repeat (first | exact Below.refl _ _ | (refine bl_setCell ?_ _ _ ?_; rotate_left; focus (first | omega | (simp; done) | (simp; omega))) | refine bl_alloc ?_ _ | refine bl_step ?_ (by assumption) | refine bl_drew ?_ | refine bl_drewN ?_ _))).mono hB)) (by (first | omega | (simp; done) | (simp; omega)))).mono ?_; rintro e w4 ⟨rfl, hb4⟩; obtain ⟨_, _, _⟩ := bk (w.heap.size) hb4 (by (first | omega | (simp; done) | (simp; omega))); obtain ⟨_, _, _⟩ := bk (w.heap.size + 1) hb4 (by (first | omega | (simp; done) | (simp; omega))); obtain ⟨_, _, _⟩ := bk (w.heap.size + 2) hb4 (by (first | omega | (simp; done) | (simp; omega))); obtain ⟨_, _, _⟩ := bk (w.heap.size + 3) hb4 (by (first | omega | (simp; done) | (simp; omega))); have hzhb4 := bsz hb4; (try simp only [World.size_alloc] at hzhb4)))
  go_cut [11] from 12 to 50 (fun v wx => ∃ q r, v = .pointer (some ⟨r, 0, none⟩) ∧ RideS w q r x a' a'' c' c'' T a1 a2 a3 a4 c1 c2 c3 c4 (WSt.start p s) wx)
  case first =>
    go_wp2_with fail
    go_meet
    exact ⟨w4.heap.size, w4.heap.size + 1, rfl, (by repeat (first | exact Below.refl _ _ | (refine bl_setCell ?_ _ _ ?_; rotate_left; focus (first | omega | (simp; done) | (simp; omega))) | refine bl_alloc ?_ _ | refine bl_step ?_ (by assumption) | refine bl_drew ?_ | refine bl_drewN ?_ _)), by omega, by omega, by omega, heap_alloc_off (heap_alloc_at _ _) _, heap_alloc_at' _ _ (by simp), (by repeat (first | with_reducible assumption | (with_reducible refine heap_alloc_at' _ _ ?_; focus (simp; done)) | with_reducible refine heap_alloc_off ?_ _ | (with_reducible refine heap_setCell_off ?_ _ ?_; rotate_left; focus omega) | with_reducible refine heap_drew' ?_ | with_reducible refine heap_drewN' ?_ | with_reducible refine heap_below (by with_reducible assumption) ?_)), (by repeat (first | with_reducible assumption | (with_reducible refine heap_alloc_at' _ _ ?_; focus (simp; done)) | with_reducible refine heap_alloc_off ?_ _ | (with_reducible refine heap_setCell_off ?_ _ ?_; rotate_left; focus omega) | with_reducible refine heap_drew' ?_ | with_reducible refine heap_drewN' ?_ | with_reducible refine heap_below (by with_reducible assumption) ?_)), (by repeat (first | with_reducible assumption | (with_reducible refine heap_alloc_at' _ _ ?_; focus (simp; done)) | with_reducible refine heap_alloc_off ?_ _ | (with_reducible refine heap_setCell_off ?_ _ ?_; rotate_left; focus omega) | with_reducible refine heap_drew' ?_ | with_reducible refine heap_drewN' ?_ | with_reducible refine heap_below (by with_reducible assumption) ?_))⟩
  case rest =>
    obtain ⟨q, r, rfl, hbw, hq2, hqr, hr2, wq, wr, x0, x1, x2⟩ := hcut
    have x0c := cells_of x0
    have x1c := cells_of x1
    have x2c := cells_of x2
    have x2f := frozen_of x2
    have wrc := cells_of wr
    have wqf := frozen_of wq
    have x0l := lt_of_heap x0
    have x1l := lt_of_heap x1
    have x2l := lt_of_heap x2
    have wrl := lt_of_heap wr
    have wql := lt_of_heap wq
    have n0 : ¬ w.heap.size ∈ [q] := by simp; omega
    have n1 : ¬ w.heap.size + 1 ∈ [q] := by simp; omega
    have n2 : ¬ r ∈ [q] := by simp; omega
    have n3 : ¬ w.heap.size + 3 ∈ [q] := by simp; omega
    have hTc := HhT.out.below (hbw.mono hB)
    have hsc := Hhs.out.below (ek_hop B) (hbw.mono hB)
    have hbc := Hhb.out.below (ek_board B) (hbw.mono hB)
    have hBc : B ≤ wc.heap.size := by omega
    have hI0 : Keeps [q] wc wc.drew := (Keeps.refl _ _).drew
    obtain ⟨vf, hvf⟩ : ∃ v, v = foldS (hopStep T 2) (WSt.start p s) x.hops := ⟨_, rfl⟩
    have hval2 : rideT T x p s = rideEnd T x vf := by rw [Hhval.out, hvf]; rfl
    clear Hhval
    have Hx0 := Lib.hid x0; clear x0; have Hx1 := Lib.hid x1; clear x1; have Hx2 := Lib.hid x2; clear x2; have Hwr := Lib.hid wr; clear wr; have Hwq := Lib.hid wq; clear wq; have HhTc := Lib.hid hTc; clear hTc; have Hhsc := Lib.hid hsc; clear hsc; have Hhbc := Lib.hid hbc; clear hbc; have Hhval2 := Lib.hid hval2; clear hval2; have Hhbw := Lib.hid hbw; clear hbw
    go_upto_region 11 with fail
    refine wp_region_ord (fun W => Keeps [q] wc W) [([0, 1, 2], 3), ([4, 5, 6, 7], 8), ([9, 10, 11, 12, 13, 14, 15, 16], 17)] [18, 19] none (by kernel_rfl) (by kernel_rfl) hI0 ?_
    refine OrdI_cons ?_
    (apply StI_plain (w0 := wc.drew) hI0 rfl rfl rfl rfl; (focus (intro W hW K hK; have := Keeps.cell hW (w.heap.size + 1) x1l n1; have := Keeps.cell hW w.heap.size x0l n0; have := Keeps.cell hW r wrl n2; go_step; exact hK)); (focus rfl)); (apply StI_plain (w0 := wc.drew) hI0 rfl rfl rfl rfl; (focus (intro W hW K hK; have := Keeps.cell hW (w.heap.size + 1) x1l n1; have := Keeps.cell hW w.heap.size x0l n0; have := Keeps.cell hW r wrl n2; go_step; exact hK)); (focus rfl)); (apply StI_plain (w0 := wc.drew) hI0 rfl rfl rfl rfl; (focus (intro W hW K hK; have := Keeps.cell hW (w.heap.size + 1) x1l n1; have := Keeps.cell hW w.heap.size x0l n0; have := Keeps.cell hW r wrl n2; go_step; exact hK)); (focus rfl))
    cases vf with
    | none =>
      (apply StI_eff rfl; go_wp2_with (first | (go_at_call 89; refine (hopsR_val T _ _ _ _ _ _ _ _ B q r 2 x.hops a' c' (WSt.start p s) true (by rw [← hvf]; rfl) _ hG (HhTc.out.drew) (Hhsc.out.drew (ek_hop B)) hBc (by omega) hqr hv1 hv4 (by decide) (by decide) hp hss Hwq.out (by simp [wrc]) wrl).mono ?_; rintro e w5 ⟨st, rfl, hk5, wq5, hst⟩)))
      have hI5 := hI0.trans hk5
      have hI50 := Below.refl w5.heap.size w5
      refine onNormal_to (fun W => Below w5.heap.size w5 W) (fun W h => hI5.stepB h) hI50 (OrdI_cons ?_)
      (apply StI_plain (w0 := w5) hI50 rfl rfl rfl rfl; (focus (intro W hW K hK; skip; go_step; exact hK)); (focus rfl)); (apply StI_no2; (focus rfl); (focus rfl); (focus rfl); (focus rfl); (focus rfl); (focus rfl); (focus (simp only [Act.put, List.setIfInBounds_toArray, List.set_cons_succ, List.set_cons_zero]; exact rfl))); (apply StI_no2; (focus rfl); (focus rfl); (focus rfl); (focus rfl); (focus rfl); (focus rfl); (focus (simp only [Act.put, List.setIfInBounds_toArray, List.set_cons_succ, List.set_cons_zero]; exact rfl))); (apply StI_no2; (focus rfl); (focus rfl); (focus rfl); (focus rfl); (focus rfl); (focus rfl); (focus (simp only [Act.put, List.setIfInBounds_toArray, List.set_cons_succ, List.set_cons_zero]; exact rfl)))
      apply StI_effno2; (focus rfl); (focus rfl); (focus rfl); (focus rfl); (focus rfl); (focus rfl); (focus (simp only [Act.put, List.setIfInBounds_toArray, List.set_cons_succ, List.set_cons_zero]; exact rfl))
      refine nxt_keep hI50 (OrdI_cons ?_)
      (apply StI_plain (w0 := w5) hI50 rfl rfl rfl rfl; (focus (intro W hW K hK; skip; go_step; exact hK)); (focus rfl)); (apply StI_plain (w0 := w5) hI50 rfl rfl rfl rfl; (focus (intro W hW K hK; skip; go_step; exact hK)); (focus rfl)); (apply StI_no2; (focus rfl); (focus rfl); (focus rfl); (focus rfl); (focus rfl); (focus rfl); (focus (simp only [Act.put, List.setIfInBounds_toArray, List.set_cons_succ, List.set_cons_zero]; exact rfl))); (apply StI_no2; (focus rfl); (focus rfl); (focus rfl); (focus rfl); (focus rfl); (focus rfl); (focus (simp only [Act.put, List.setIfInBounds_toArray, List.set_cons_succ, List.set_cons_zero]; exact rfl))); (apply StI_no2; (focus rfl); (focus rfl); (focus rfl); (focus rfl); (focus rfl); (focus rfl); (focus (simp only [Act.put, List.setIfInBounds_toArray, List.set_cons_succ, List.set_cons_zero]; exact rfl))); (apply StI_no2; (focus rfl); (focus rfl); (focus rfl); (focus rfl); (focus rfl); (focus rfl); (focus (simp only [Act.put, List.setIfInBounds_toArray, List.set_cons_succ, List.set_cons_zero]; exact rfl))); (apply StI_no2; (focus rfl); (focus rfl); (focus rfl); (focus rfl); (focus rfl); (focus rfl); (focus (simp only [Act.put, List.setIfInBounds_toArray, List.set_cons_succ, List.set_cons_zero]; exact rfl))); (apply StI_no2; (focus rfl); (focus rfl); (focus rfl); (focus rfl); (focus rfl); (focus rfl); (focus (simp only [Act.put, List.setIfInBounds_toArray, List.set_cons_succ, List.set_cons_zero]; exact rfl)))
      apply StI_effno2; (focus rfl); (focus rfl); (focus rfl); (focus rfl); (focus rfl); (focus rfl); (focus (simp only [Act.put, List.setIfInBounds_toArray, List.set_cons_succ, List.set_cons_zero]; exact rfl))
      refine nxt_keep hI50 (OrdI_fin ?_)
      (apply StI_no2; (focus rfl); (focus rfl); (focus rfl); (focus rfl); (focus rfl); (focus rfl); (focus (simp only [Act.put, List.setIfInBounds_toArray, List.set_cons_succ, List.set_cons_zero]; exact rfl))); (apply StI_plain (w0 := w5) hI50 rfl rfl rfl rfl; (focus (intro W hW K hK; skip; go_step; exact hK)); (focus rfl))
      refine StI_nil ?_
      have x25 := hI5.heap Hx2.out n3
      have x25c := cells_of x25
      have x25f := frozen_of x25
      have x25l := lt_of_heap x25
      have Hhk5 := Lib.hid hk5; clear hk5; have HhI5 := Lib.hid hI5; clear hI5; have HhI50 := Lib.hid hI50; clear hI50; have Hx25 := Lib.hid x25; clear x25; have Hhst := Lib.hid hst; clear hst
      go_wp2_with fail
      ((try simp only [Exit.inBlock, Exit.then]); refine bodyPost_ret (v := .tuple #[.agg #[.int .i64 0, .int .i64 0], .int .i64 11]) (by simp [results, Try.results58, go_sem, *]) rfl ?_)
      rw [Hhval2.out]
      exact ⟨rfl, by have := (HhI5.out.below (Nat.le_of_lt x0l) (by simp; omega)); exact bl_setCell (bl_setCell (Hhbw.out.trans this) _ _ (by (first | omega | (simp; done) | (simp; omega)))) _ _ (by (first | omega | (simp; done) | (simp; omega)))⟩
    | some st0 =>
      (apply StI_eff rfl; go_wp2_with (first | (go_at_call 89; refine (hopsR_val T _ _ _ _ _ _ _ _ B q r 2 x.hops a' c' (WSt.start p s) false (by rw [← hvf]; rfl) _ hG (HhTc.out.drew) (Hhsc.out.drew (ek_hop B)) hBc (by omega) hqr hv1 hv4 (by decide) (by decide) hp hss Hwq.out (by simp [wrc]) wrl).mono ?_; rintro e w5 ⟨st, rfl, hk5, wq5, hst⟩)))
      obtain ⟨rfl, ⟨sp0, sp1⟩, ss0, ss1⟩ := hst st0 hvf.symm
      have hI5 := hI0.trans hk5
      have hI50 := Below.refl w5.heap.size w5
      have x05 := hI5.heap Hx0.out n0
      have x15 := hI5.heap Hx1.out n1
      have x25 := hI5.heap Hx2.out n3
      have wr5 := hI5.heap Hwr.out n2
      have hT5 := HhTc.out.below (hI5.below hBc (by simp; omega))
      have hs5 := Hhsc.out.below (ek_hop B) (hI5.below hBc (by simp; omega))
      have hb5 := Hhbc.out.below (ek_board B) (hI5.below hBc (by simp; omega))
      have hB5 : B ≤ w5.heap.size := Nat.le_trans hBc hI5.size
      obtain ⟨sp, ss, sl, sc, sw⟩ := st0
      have x05c := cells_of x05
      have x15c := cells_of x15
      have wr5c := cells_of wr5
      have wq5c := cells_of wq5
      simp only [wkCells] at wq5c
      have x0m := lt_of_heap x05
      have x1m := lt_of_heap x15
      have x2m := lt_of_heap x25
      have wrm := lt_of_heap wr5
      have wqm := lt_of_heap wq5
      have Hx05 := Lib.hid x05; clear x05; have Hx15 := Lib.hid x15; clear x15; have Hx25 := Lib.hid x25; clear x25; have Hwr5 := Lib.hid wr5; clear wr5; have Hwq5 := Lib.hid wq5; clear wq5; have HhT5 := Lib.hid hT5; clear hT5; have Hhs5 := Lib.hid hs5; clear hs5; have Hhb5 := Lib.hid hb5; clear hb5; have Hhk5 := Lib.hid hk5; clear hk5; have HhI5 := Lib.hid hI5; clear hI5; have Hhst := Lib.hid hst; clear hst
      refine onNormal_to (fun W => Below w5.heap.size w5 W) (fun W h => HhI5.out.stepB h) hI50 (OrdI_cons ?_)
      (apply StI_plain (w0 := w5) hI50 rfl rfl rfl rfl; (focus (intro W hW K hK; obtain ⟨_, _, _⟩ := bk (w.heap.size + 1) hW x1m; obtain ⟨_, _, _⟩ := bk w.heap.size hW x0m; obtain ⟨_, _, _⟩ := bk r hW wrm; obtain ⟨_, _, _⟩ := bk q hW wqm; go_step; exact hK)); (focus rfl)); (apply StI_yes (w0 := w5) hI50; (focus rfl); (focus rfl); (focus rfl); (focus rfl); (focus rfl); (focus rfl); (focus rfl); (focus (intro W hW K hK; obtain ⟨_, _, _⟩ := bk (w.heap.size + 1) hW x1m; obtain ⟨_, _, _⟩ := bk w.heap.size hW x0m; obtain ⟨_, _, _⟩ := bk r hW wrm; obtain ⟨_, _, _⟩ := bk q hW wqm; go_step; exact hK)); (focus rfl)); (apply StI_yes (w0 := w5) hI50; (focus rfl); (focus rfl); (focus rfl); (focus rfl); (focus rfl); (focus rfl); (focus rfl); (focus (intro W hW K hK; obtain ⟨_, _, _⟩ := bk (w.heap.size + 1) hW x1m; obtain ⟨_, _, _⟩ := bk w.heap.size hW x0m; obtain ⟨_, _, _⟩ := bk r hW wrm; obtain ⟨_, _, _⟩ := bk q hW wqm; go_step; exact hK)); (focus rfl)); (apply StI_yes (w0 := w5) hI50; (focus rfl); (focus rfl); (focus rfl); (focus rfl); (focus rfl); (focus rfl); (focus rfl); (focus (intro W hW K hK; obtain ⟨_, _, _⟩ := bk (w.heap.size + 1) hW x1m; obtain ⟨_, _, _⟩ := bk w.heap.size hW x0m; obtain ⟨_, _, _⟩ := bk r hW wrm; obtain ⟨_, _, _⟩ := bk q hW wqm; go_step; exact hK)); (focus rfl))
      obtain ⟨v5, hv5⟩ : ∃ v, x.boards.any (bElse T x.hops) = v := ⟨_, rfl⟩
      cases v5 with
      | true =>
        (apply StI_eff rfl; go_wp2_with (first | (go_at_call 98; refine (bElse_val T _ _ _ _ _ _ _ _ x a' a'' c' c'' w.heap.size (w.heap.size + 1) B true hv5 _ Hhb5.out Hhs5.out HhT5.out hB5 Hx15.out Hx05.out Hbg.out Hbh.out hv1).mono ?_; rintro e w6 ⟨rfl, hb6⟩)))
        refine onNormal_mk hb6 (OrdI_cons ?_)
        (apply StI_plain (w0 := w6) hb6 rfl rfl rfl rfl; (focus (intro W hW K hK; skip; go_step; exact hK)); (focus rfl)); (apply StI_plain (w0 := w6) hb6 rfl rfl rfl rfl; (focus (intro W hW K hK; skip; go_step; exact hK)); (focus rfl)); (apply StI_no2; (focus rfl); (focus rfl); (focus rfl); (focus rfl); (focus rfl); (focus rfl); (focus (simp only [Act.put, List.setIfInBounds_toArray, List.set_cons_succ, List.set_cons_zero]; exact rfl))); (apply StI_no2; (focus rfl); (focus rfl); (focus rfl); (focus rfl); (focus rfl); (focus rfl); (focus (simp only [Act.put, List.setIfInBounds_toArray, List.set_cons_succ, List.set_cons_zero]; exact rfl))); (apply StI_no2; (focus rfl); (focus rfl); (focus rfl); (focus rfl); (focus rfl); (focus rfl); (focus (simp only [Act.put, List.setIfInBounds_toArray, List.set_cons_succ, List.set_cons_zero]; exact rfl))); (apply StI_no2; (focus rfl); (focus rfl); (focus rfl); (focus rfl); (focus rfl); (focus rfl); (focus (simp only [Act.put, List.setIfInBounds_toArray, List.set_cons_succ, List.set_cons_zero]; exact rfl))); (apply StI_no2; (focus rfl); (focus rfl); (focus rfl); (focus rfl); (focus rfl); (focus rfl); (focus (simp only [Act.put, List.setIfInBounds_toArray, List.set_cons_succ, List.set_cons_zero]; exact rfl))); (apply StI_no2; (focus rfl); (focus rfl); (focus rfl); (focus rfl); (focus rfl); (focus rfl); (focus (simp only [Act.put, List.setIfInBounds_toArray, List.set_cons_succ, List.set_cons_zero]; exact rfl)))
        apply StI_effno2; (focus rfl); (focus rfl); (focus rfl); (focus rfl); (focus rfl); (focus rfl); (focus (simp only [Act.put, List.setIfInBounds_toArray, List.set_cons_succ, List.set_cons_zero]; exact rfl))
        refine nxt_keep hb6 (OrdI_fin ?_)
        (apply StI_no2; (focus rfl); (focus rfl); (focus rfl); (focus rfl); (focus rfl); (focus rfl); (focus (simp only [Act.put, List.setIfInBounds_toArray, List.set_cons_succ, List.set_cons_zero]; exact rfl))); (apply StI_plain (w0 := w6) hb6 rfl rfl rfl rfl; (focus (intro W hW K hK; skip; go_step; exact hK)); (focus rfl))
        refine StI_nil ?_
        obtain ⟨_, _, _⟩ := bk (w.heap.size + 3) hb6 x2m
        have x25c := cells_of Hx25.out
        have x25f := frozen_of Hx25.out
        go_wp2_with fail
        ((try simp only [Exit.inBlock, Exit.then]); refine bodyPost_ret (v := .tuple #[.agg #[.int .i64 0, .int .i64 0], .int .i64 11]) (by simp [results, Try.results58, go_sem, *]) rfl ?_)
        rw [Hhval2.out]
        exact ⟨by simp [rideEnd, hv5], by have := (HhI5.out.below (Nat.le_of_lt x0l) (by simp; omega)); exact bl_setCell (bl_setCell (bl_step (Hhbw.out.trans this) hb6) _ _ (by (first | omega | (simp; done) | (simp; omega)))) _ _ (by (first | omega | (simp; done) | (simp; omega)))⟩

      | false =>
        (apply StI_eff rfl; go_wp2_with (first | (go_at_call 98; refine (bElse_val T _ _ _ _ _ _ _ _ x a' a'' c' c'' w.heap.size (w.heap.size + 1) B false hv5 _ Hhb5.out Hhs5.out HhT5.out hB5 Hx15.out Hx05.out Hbg.out Hbh.out hv1).mono ?_; rintro e w6 ⟨rfl, hb6⟩)))
        refine onNormal_mk hb6 (OrdI_cons ?_)
        (apply StI_plain (w0 := w6) hb6 rfl rfl rfl rfl; (focus (intro W hW K hK; obtain ⟨_, _, _⟩ := bk (w.heap.size + 1) hW x1m; obtain ⟨_, _, _⟩ := bk w.heap.size hW x0m; obtain ⟨_, _, _⟩ := bk r hW wrm; obtain ⟨_, _, _⟩ := bk q hW wqm; go_step; exact hK)); (focus rfl)); (apply StI_plain (w0 := w6) hb6 rfl rfl rfl rfl; (focus (intro W hW K hK; obtain ⟨_, _, _⟩ := bk (w.heap.size + 1) hW x1m; obtain ⟨_, _, _⟩ := bk w.heap.size hW x0m; obtain ⟨_, _, _⟩ := bk r hW wrm; obtain ⟨_, _, _⟩ := bk q hW wqm; go_step; exact hK)); (focus rfl)); (apply StI_yes (w0 := w6) hb6; (focus rfl); (focus rfl); (focus rfl); (focus rfl); (focus rfl); (focus rfl); (focus rfl); (focus (intro W hW K hK; obtain ⟨_, _, _⟩ := bk (w.heap.size + 1) hW x1m; obtain ⟨_, _, _⟩ := bk w.heap.size hW x0m; obtain ⟨_, _, _⟩ := bk r hW wrm; obtain ⟨_, _, _⟩ := bk q hW wqm; go_step; exact hK)); (focus rfl)); (apply StI_yes (w0 := w6) hb6; (focus rfl); (focus rfl); (focus rfl); (focus rfl); (focus rfl); (focus rfl); (focus rfl); (focus (intro W hW K hK; obtain ⟨_, _, _⟩ := bk (w.heap.size + 1) hW x1m; obtain ⟨_, _, _⟩ := bk w.heap.size hW x0m; obtain ⟨_, _, _⟩ := bk r hW wrm; obtain ⟨_, _, _⟩ := bk q hW wqm; go_step; exact hK)); (focus rfl)); (apply StI_yes (w0 := w6) hb6; (focus rfl); (focus rfl); (focus rfl); (focus rfl); (focus rfl); (focus rfl); (focus rfl); (focus (intro W hW K hK; obtain ⟨_, _, _⟩ := bk (w.heap.size + 1) hW x1m; obtain ⟨_, _, _⟩ := bk w.heap.size hW x0m; obtain ⟨_, _, _⟩ := bk r hW wrm; obtain ⟨_, _, _⟩ := bk q hW wqm; go_step; exact hK)); (focus rfl)); (apply StI_yes (w0 := w6) hb6; (focus rfl); (focus rfl); (focus rfl); (focus rfl); (focus rfl); (focus rfl); (focus rfl); (focus (intro W hW K hK; obtain ⟨_, _, _⟩ := bk (w.heap.size + 1) hW x1m; obtain ⟨_, _, _⟩ := bk w.heap.size hW x0m; obtain ⟨_, _, _⟩ := bk r hW wrm; obtain ⟨_, _, _⟩ := bk q hW wqm; go_step; exact hK)); (focus rfl)); (apply StI_yes (w0 := w6) hb6; (focus rfl); (focus rfl); (focus rfl); (focus rfl); (focus rfl); (focus rfl); (focus rfl); (focus (intro W hW K hK; obtain ⟨_, _, _⟩ := bk (w.heap.size + 1) hW x1m; obtain ⟨_, _, _⟩ := bk w.heap.size hW x0m; obtain ⟨_, _, _⟩ := bk r hW wrm; obtain ⟨_, _, _⟩ := bk q hW wqm; go_step; exact hK)); (focus rfl)); (apply StI_yes (w0 := w6) hb6; (focus rfl); (focus rfl); (focus rfl); (focus rfl); (focus rfl); (focus rfl); (focus rfl); (focus (intro W hW K hK; obtain ⟨_, _, _⟩ := bk (w.heap.size + 1) hW x1m; obtain ⟨_, _, _⟩ := bk w.heap.size hW x0m; obtain ⟨_, _, _⟩ := bk r hW wrm; obtain ⟨_, _, _⟩ := bk q hW wqm; go_step; exact hK)); (focus rfl))
        have hT6 := HhT5.out.below (hb6.mono hB5)
        have hB6 : B ≤ w6.heap.size := Nat.le_trans hB5 hb6.size
        cases vr : T.refuge sp with
        | false =>
          (apply StI_eff rfl; go_wp2_with (first | (go_at_call 48; refine (refuge_val T _ _ _ _ _ _ _ _ B sp false vr _ hT6 hB6 sp0 sp1).mono ?_; rintro e w7 ⟨rfl, hb7'⟩)))
          have hb7 := hb6.trans (hb7'.mono hb6.size)
          refine onNormal_mk hb7 (OrdI_fin ?_)
          (apply StI_yes (w0 := w7) hb7; (focus rfl); (focus rfl); (focus rfl); (focus rfl); (focus rfl); (focus rfl); (focus rfl); (focus (intro W hW K hK; skip; go_step; exact hK)); (focus rfl)); (apply StI_plain (w0 := w7) hb7 rfl rfl rfl rfl; (focus (intro W hW K hK; skip; go_step; exact hK)); (focus rfl))
          refine StI_nil ?_
          obtain ⟨_, _, _⟩ := bk (w.heap.size + 3) hb7 x2m
          have x25c := cells_of Hx25.out
          have x25f := frozen_of Hx25.out
          go_wp2_with fail
          ((try simp only [Exit.inBlock, Exit.then]); refine bodyPost_ret (v := .tuple #[.agg #[.int .i64 0, .int .i64 0], .int .i64 11]) (by simp [results, Try.results58, go_sem, *]) rfl ?_)
          rw [Hhval2.out]
          exact ⟨by simp [rideEnd, hv5, vr], by have := (HhI5.out.below (Nat.le_of_lt x0l) (by simp; omega)); exact bl_setCell (bl_setCell (bl_step (Hhbw.out.trans this) hb7) _ _ (by (first | omega | (simp; done) | (simp; omega)))) _ _ (by (first | omega | (simp; done) | (simp; omega)))⟩

        | true =>
          (apply StI_eff rfl; go_wp2_with (first | (go_at_call 48; refine (refuge_val T _ _ _ _ _ _ _ _ B sp true vr _ hT6 hB6 sp0 sp1).mono ?_; rintro e w7 ⟨rfl, hb7'⟩)))
          have hb7 := hb6.trans (hb7'.mono hb6.size)
          refine onNormal_mk hb7 (OrdI_fin ?_)
          (apply StI_yes (w0 := w7) hb7; (focus rfl); (focus rfl); (focus rfl); (focus rfl); (focus rfl); (focus rfl); (focus rfl); (focus (intro W hW K hK; skip; go_step; exact hK)); (focus rfl)); (apply StI_plain (w0 := w7) hb7 rfl rfl rfl rfl; (focus (intro W hW K hK; skip; go_step; exact hK)); (focus rfl))
          refine StI_nil ?_
          have wq7 := heap_below hb7 Hwq5.out
          have wr7 := heap_below hb7 Hwr5.out
          have x27 := heap_below hb7 Hx25.out
          clear wq5c wr5c x15c x05c
          have wq7c := cells_of wq7
          simp only [wkCells] at wq7c
          have wr7c := cells_of wr7
          have x27f := frozen_of x27
          have x27c := cells_of x27
          have wqn := lt_of_heap wq7
          have wrn := lt_of_heap wr7
          have x2n := lt_of_heap x27
          have m2 : ¬ r ∈ [w.heap.size + 3] := by simp; omega
          have mq : ¬ q ∈ [w.heap.size + 3] := by simp; omega
          have hI8 : Keeps [w.heap.size + 3] w7 w7.drew := (Keeps.refl _ _).drew
          have Hwq7 := Lib.hid wq7; clear wq7; have Hwr7 := Lib.hid wr7; clear wr7; have Hx27 := Lib.hid x27; clear x27
          go_upto_region 13 with fail
          refine wp_region_ord (fun W => Keeps [w.heap.size + 3] w7 W) [([0, 1, 2, 3, 4], 5), ([], 6)] [7] none (by kernel_rfl) (by kernel_rfl) hI8 ?_
          refine OrdI_cons ?_
          (apply StI_plain (w0 := w7.drew) hI8 rfl rfl rfl rfl; (focus (intro W hW K hK; have := Keeps.cell hW r wrn m2; have := Keeps.cell hW q wqn mq; go_step; exact hK)); (focus rfl)); (apply StI_plain (w0 := w7.drew) hI8 rfl rfl rfl rfl; (focus (intro W hW K hK; have := Keeps.cell hW r wrn m2; have := Keeps.cell hW q wqn mq; go_step; exact hK)); (focus rfl)); (apply StI_plain (w0 := w7.drew) hI8 rfl rfl rfl rfl; (focus (intro W hW K hK; have := Keeps.cell hW r wrn m2; have := Keeps.cell hW q wqn mq; go_step; exact hK)); (focus rfl)); (apply StI_plain (w0 := w7.drew) hI8 rfl rfl rfl rfl; (focus (intro W hW K hK; have := Keeps.cell hW r wrn m2; have := Keeps.cell hW q wqn mq; go_step; exact hK)); (focus rfl)); (apply StI_plain (w0 := w7.drew) hI8 rfl rfl rfl rfl; (focus (intro W hW K hK; have := Keeps.cell hW r wrn m2; have := Keeps.cell hW q wqn mq; go_step; exact hK)); (focus rfl))
          (apply StI_eff rfl; go_wp2_with (first | (go_at_call 94; refine (werr_any T _ _ _ _ _ _ _ _ q 2 ⟨sp, ss, sl, sc, sw⟩ _ (heap_drew' Hwq7.out)).mono ?_; rintro e w8 ⟨rfl, rfl⟩)))
          refine onNormal_mk hI8 (OrdI_cons ?_)
          (apply StI_eff rfl; go_wp2_with fail)
          refine onNormal_mk (by repeat (first | with_reducible exact Keeps.refl _ _ | with_reducible refine Keeps.drew ?_ | with_reducible refine Keeps.drewN ?_ _ | with_reducible refine Keeps.alloc ?_ _ | (with_reducible refine Keeps.setCell ?_ _ _ ?_; rotate_left; focus (first | (simp; done) | (simp; omega))) | with_reducible assumption | with_reducible refine Keeps.stepB ?_ (by with_reducible assumption))) (OrdI_fin ?_)
          (apply StI_plain (w0 := w7.drew) hI8 rfl rfl rfl rfl; (focus (intro W hW K hK; skip; go_step; exact hK)); (focus rfl))
          refine StI_nil ?_
          go_wp2_with fail
          ((try simp only [Exit.inBlock, Exit.then]); refine bodyPost_ret (v := .tuple #[.agg #[.int .i64 sp, .int .i64 ss], .int .i64 (WSt.err ⟨sp, ss, sl, sc, sw⟩)]) (by simp [results, Try.results58, go_sem, *]) rfl ?_)
          rw [Hhval2.out]
          exact ⟨by simp [rideEnd, hv5, vr], by have := (HhI5.out.below (Nat.le_of_lt x0l) (by simp; omega)); exact bl_setCell (bl_setCell (bl_drew (bl_step (Hhbw.out.trans this) hb7)) _ _ (by (first | omega | (simp; done) | (simp; omega)))) _ _ (by (first | omega | (simp; done) | (simp; omega)))⟩
end Go.Proofs.Ytjoihijlcpnhoaa
namespace Go.Proofs.Ytjoihijlcpnhoaa
open Go.RowKit

set_option maxHeartbeats 16000000 in
set_option maxRecDepth 100000 in
theorem ride_any (T : Town) (a1 a2 a3 a4 : Option Addr) (c1 c2 c3 c4 : Nat) (B : Nat) (x : Ride) (a' a'' : Option Addr) (c' c'' : Nat) (p s : Int) (w : World) (hG : TownG T) (hT : TownM B w a1 a2 a3 a4 T) (hs : Sl HopE 2 B w a' x.hops) (hb : Sl BoardE 3 B w a'' x.boards) (hB : B ≤ w.heap.size)
    (hp : 0 ≤ p ∧ p < (T.places.length : Int)) (hss : 0 ≤ s ∧ s ≤ 400) :
    Calls Try.prog 58 #[.agg #[.int .i64 T.steps, .slice a1 T.places.length c1, .slice a2 T.ways.length c2, .slice a3 T.groups.length c3, .slice a4 T.vehicles.length c4], .agg #[.int .i64 x.vehicle, .slice a' x.hops.length c', .slice a'' x.boards.length c''], .agg #[.int .i64 p, .int .i64 s]] w
      fun e w' => e = .returned (.tuple #[.agg #[.int .i64 (rideT T x p s).1, .int .i64 (rideT T x p s).2.1], .int .i64 (rideT T x p s).2.2]) ∧ Below w.heap.size w w' := by
  have hl2 := hT.ways.1
  have hl3 := hT.groups.1
  have hl4 := hs.1
  obtain ⟨v1, hv1⟩ : ∃ v, x.hops.any T.unknown = v := ⟨_, rfl⟩
  obtain ⟨v2, hv2⟩ : ∃ v, x.boards.any (bNone T x.hops.length) = v := ⟨_, rfl⟩
  have hval : rideT T x p s = rideT T x p s := rfl
  cases v1
  rotate_left
  · conv at hval => rhs; unfold rideT; rw [hv1]; simp only [Bool.not_true, Bool.not_false, Bool.true_or, Bool.or_true, Bool.false_or, Bool.or_false, if_true, Bool.false_eq_true, if_false]
    rw [hval]
    have Hhval := Lib.hid hval; clear hval; have HhT := Lib.hid hT; clear hT; have Hhs := Lib.hid hs; clear hs; have Hhb := Lib.hid hb; clear hb
    have tok1 : True := trivial
    have tok2 : True := trivial
    go_enter Try.func58, Try.ntmps58
    go_wp2_with (first
      | (go_at_call 89; have _t := tok1; clear _t; refine (unknown_val T _ _ _ _ _ _ _ _ B x.hops a' c' _ hv1 hl2 _ (Hhs.out.below (ek_hop B) ((show Below w.heap.size w _ from (by repeat (first | exact Below.refl _ _ | (refine bl_setCell ?_ _ _ ?_; rotate_left; focus (first | omega | (simp; done) | (simp; omega))) | refine bl_alloc ?_ _ | refine bl_step ?_ (by assumption) | refine bl_drew ?_ | refine bl_drewN ?_ _))).mono hB)) (by (first | omega | (simp; done) | (simp; omega)))).mono ?_; rintro e w1 ⟨rfl, hb1⟩; obtain ⟨_, _, _⟩ := bk (w.heap.size) hb1 (by (first | omega | (simp; done) | (simp; omega))); obtain ⟨_, _, _⟩ := bk (w.heap.size + 1) hb1 (by (first | omega | (simp; done) | (simp; omega))); obtain ⟨_, _, _⟩ := bk (w.heap.size + 2) hb1 (by (first | omega | (simp; done) | (simp; omega))); obtain ⟨_, _, _⟩ := bk (w.heap.size + 3) hb1 (by (first | omega | (simp; done) | (simp; omega))); have hzhb1 := bsz hb1; (try simp only [World.size_alloc] at hzhb1); clear tok1))
    ((try simp only [Exit.inBlock, Exit.then]); refine bodyPost_ret (v := .tuple #[.agg #[.int .i64 0, .int .i64 0], .int .i64 4]) (by simp [results, Try.results58, go_sem, *]) rfl ?_)
    exact ⟨rfl, (by repeat (first | exact Below.refl _ _ | (refine bl_setCell ?_ _ _ ?_; rotate_left; focus (first | omega | (simp; done) | (simp; omega))) | refine bl_alloc ?_ _ | refine bl_step ?_ (by assumption) | refine bl_drew ?_ | refine bl_drewN ?_ _))⟩
  cases v2
  rotate_left
  · conv at hval => rhs; unfold rideT; rw [hv1, hv2]; simp only [Bool.not_true, Bool.not_false, Bool.true_or, Bool.or_true, Bool.false_or, Bool.or_false, if_true, Bool.false_eq_true, if_false]
    rw [hval]
    have Hhval := Lib.hid hval; clear hval; have HhT := Lib.hid hT; clear hT; have Hhs := Lib.hid hs; clear hs; have Hhb := Lib.hid hb; clear hb
    have tok1 : True := trivial
    have tok2 : True := trivial
    go_enter Try.func58, Try.ntmps58
    go_wp2_with (first
      | (go_at_call 89; have _t := tok1; clear _t; refine (unknown_val T _ _ _ _ _ _ _ _ B x.hops a' c' _ hv1 hl2 _ (Hhs.out.below (ek_hop B) ((show Below w.heap.size w _ from (by repeat (first | exact Below.refl _ _ | (refine bl_setCell ?_ _ _ ?_; rotate_left; focus (first | omega | (simp; done) | (simp; omega))) | refine bl_alloc ?_ _ | refine bl_step ?_ (by assumption) | refine bl_drew ?_ | refine bl_drewN ?_ _))).mono hB)) (by (first | omega | (simp; done) | (simp; omega)))).mono ?_; rintro e w1 ⟨rfl, hb1⟩; obtain ⟨_, _, _⟩ := bk (w.heap.size) hb1 (by (first | omega | (simp; done) | (simp; omega))); obtain ⟨_, _, _⟩ := bk (w.heap.size + 1) hb1 (by (first | omega | (simp; done) | (simp; omega))); obtain ⟨_, _, _⟩ := bk (w.heap.size + 2) hb1 (by (first | omega | (simp; done) | (simp; omega))); obtain ⟨_, _, _⟩ := bk (w.heap.size + 3) hb1 (by (first | omega | (simp; done) | (simp; omega))); have hzhb1 := bsz hb1; (try simp only [World.size_alloc] at hzhb1); clear tok1)
      | (go_at_call 98; have _t := tok2; clear _t; refine (bNone_val T _ _ _ _ _ _ _ _ x a' a'' c' c'' w.heap.size (w.heap.size + 1) B _ hv2 _ (Hhb.out.below (ek_board B) ((show Below w.heap.size w _ from (by repeat (first | exact Below.refl _ _ | (refine bl_setCell ?_ _ _ ?_; rotate_left; focus (first | omega | (simp; done) | (simp; omega))) | refine bl_alloc ?_ _ | refine bl_step ?_ (by assumption) | refine bl_drew ?_ | refine bl_drewN ?_ _))).mono hB)) (by (first | omega | (simp; done) | (simp; omega))) (by repeat (first | with_reducible assumption | (with_reducible refine heap_alloc_at' _ _ ?_; focus (simp; done)) | with_reducible refine heap_alloc_off ?_ _ | (with_reducible refine heap_setCell_off ?_ _ ?_; rotate_left; focus omega) | with_reducible refine heap_drew' ?_ | with_reducible refine heap_drewN' ?_ | with_reducible refine heap_below (by with_reducible assumption) ?_)) (by repeat (first | with_reducible assumption | (with_reducible refine heap_alloc_at' _ _ ?_; focus (simp; done)) | with_reducible refine heap_alloc_off ?_ _ | (with_reducible refine heap_setCell_off ?_ _ ?_; rotate_left; focus omega) | with_reducible refine heap_drew' ?_ | with_reducible refine heap_drewN' ?_ | with_reducible refine heap_below (by with_reducible assumption) ?_)) hl4 hl3).mono ?_; rintro e w2 ⟨rfl, hb2⟩; obtain ⟨_, _, _⟩ := bk (w.heap.size) hb2 (by (first | omega | (simp; done) | (simp; omega))); obtain ⟨_, _, _⟩ := bk (w.heap.size + 1) hb2 (by (first | omega | (simp; done) | (simp; omega))); obtain ⟨_, _, _⟩ := bk (w.heap.size + 2) hb2 (by (first | omega | (simp; done) | (simp; omega))); obtain ⟨_, _, _⟩ := bk (w.heap.size + 3) hb2 (by (first | omega | (simp; done) | (simp; omega))); have hzhb2 := bsz hb2; (try simp only [World.size_alloc] at hzhb2); clear tok2))
    ((try simp only [Exit.inBlock, Exit.then]); refine bodyPost_ret (v := .tuple #[.agg #[.int .i64 0, .int .i64 0], .int .i64 4]) (by simp [results, Try.results58, go_sem, *]) rfl ?_)
    exact ⟨rfl, (by repeat (first | exact Below.refl _ _ | (refine bl_setCell ?_ _ _ ?_; rotate_left; focus (first | omega | (simp; done) | (simp; omega))) | refine bl_alloc ?_ _ | refine bl_step ?_ (by assumption) | refine bl_drew ?_ | refine bl_drewN ?_ _))⟩
  have hbn : ∀ b ∈ x.boards, (0 ≤ b.hop ∧ b.hop < (x.hops.length : Int)) ∧ (0 ≤ b.group ∧ b.group < (T.groups.length : Int)) := by
    intro b hm
    have e1 := List.any_eq_false.1 hv2 b hm
    unfold bNone at e1
    simp only [Bool.not_eq_true, Bool.or_eq_false_iff] at e1
    have := (within_iff _ _ _).1 (by simpa using e1.1)
    have := (within_iff _ _ _).1 (by simpa using e1.2)
    omega
  have bg : ∀ b ∈ x.boards, 0 ≤ b.group ∧ b.group < (T.groups.length : Int) := fun b hm => (hbn b hm).2
  have bh : ∀ b ∈ x.boards, 0 ≤ b.hop ∧ b.hop < (x.hops.length : Int) := fun b hm => (hbn b hm).1
  have Hbg := Lib.hid bg; clear bg; have Hbh := Lib.hid bh; clear bh; have Hhbn := Lib.hid hbn; clear hbn
  obtain ⟨v3, hv3⟩ : ∃ v, x.boards.any (bBad T) = v := ⟨_, rfl⟩
  obtain ⟨v4, hv4⟩ : ∃ v, x.hops.any T.outside = v := ⟨_, rfl⟩
  by_cases q1 : x.hops.length = 0
  · have q1' : (x.hops.length == 0) = true := by simpa using q1
    have q1i : ((x.hops.length : Int) == 0) = true := by simp [q1]
    conv at hval => rhs; unfold rideT; rw [hv1, hv2, q1']; simp only [Bool.not_true, Bool.not_false, Bool.true_or, Bool.or_true, Bool.false_or, Bool.or_false, if_true, Bool.false_eq_true, if_false]
    rw [hval]
    have Hhval := Lib.hid hval; clear hval; have HhT := Lib.hid hT; clear hT; have Hhs := Lib.hid hs; clear hs; have Hhb := Lib.hid hb; clear hb; have Hq1 := Lib.hid q1; clear q1
    have tok1 : True := trivial
    have tok2 : True := trivial
    go_enter Try.func58, Try.ntmps58
    go_wp2_with (first
      | (go_at_call 89; have _t := tok1; clear _t; refine (unknown_val T _ _ _ _ _ _ _ _ B x.hops a' c' _ hv1 hl2 _ (Hhs.out.below (ek_hop B) ((show Below w.heap.size w _ from (by repeat (first | exact Below.refl _ _ | (refine bl_setCell ?_ _ _ ?_; rotate_left; focus (first | omega | (simp; done) | (simp; omega))) | refine bl_alloc ?_ _ | refine bl_step ?_ (by assumption) | refine bl_drew ?_ | refine bl_drewN ?_ _))).mono hB)) (by (first | omega | (simp; done) | (simp; omega)))).mono ?_; rintro e w1 ⟨rfl, hb1⟩; obtain ⟨_, _, _⟩ := bk (w.heap.size) hb1 (by (first | omega | (simp; done) | (simp; omega))); obtain ⟨_, _, _⟩ := bk (w.heap.size + 1) hb1 (by (first | omega | (simp; done) | (simp; omega))); obtain ⟨_, _, _⟩ := bk (w.heap.size + 2) hb1 (by (first | omega | (simp; done) | (simp; omega))); obtain ⟨_, _, _⟩ := bk (w.heap.size + 3) hb1 (by (first | omega | (simp; done) | (simp; omega))); have hzhb1 := bsz hb1; (try simp only [World.size_alloc] at hzhb1); clear tok1)
      | (go_at_call 98; have _t := tok2; clear _t; refine (bNone_val T _ _ _ _ _ _ _ _ x a' a'' c' c'' w.heap.size (w.heap.size + 1) B _ hv2 _ (Hhb.out.below (ek_board B) ((show Below w.heap.size w _ from (by repeat (first | exact Below.refl _ _ | (refine bl_setCell ?_ _ _ ?_; rotate_left; focus (first | omega | (simp; done) | (simp; omega))) | refine bl_alloc ?_ _ | refine bl_step ?_ (by assumption) | refine bl_drew ?_ | refine bl_drewN ?_ _))).mono hB)) (by (first | omega | (simp; done) | (simp; omega))) (by repeat (first | with_reducible assumption | (with_reducible refine heap_alloc_at' _ _ ?_; focus (simp; done)) | with_reducible refine heap_alloc_off ?_ _ | (with_reducible refine heap_setCell_off ?_ _ ?_; rotate_left; focus omega) | with_reducible refine heap_drew' ?_ | with_reducible refine heap_drewN' ?_ | with_reducible refine heap_below (by with_reducible assumption) ?_)) (by repeat (first | with_reducible assumption | (with_reducible refine heap_alloc_at' _ _ ?_; focus (simp; done)) | with_reducible refine heap_alloc_off ?_ _ | (with_reducible refine heap_setCell_off ?_ _ ?_; rotate_left; focus omega) | with_reducible refine heap_drew' ?_ | with_reducible refine heap_drewN' ?_ | with_reducible refine heap_below (by with_reducible assumption) ?_)) hl4 hl3).mono ?_; rintro e w2 ⟨rfl, hb2⟩; obtain ⟨_, _, _⟩ := bk (w.heap.size) hb2 (by (first | omega | (simp; done) | (simp; omega))); obtain ⟨_, _, _⟩ := bk (w.heap.size + 1) hb2 (by (first | omega | (simp; done) | (simp; omega))); obtain ⟨_, _, _⟩ := bk (w.heap.size + 2) hb2 (by (first | omega | (simp; done) | (simp; omega))); obtain ⟨_, _, _⟩ := bk (w.heap.size + 3) hb2 (by (first | omega | (simp; done) | (simp; omega))); have hzhb2 := bsz hb2; (try simp only [World.size_alloc] at hzhb2); clear tok2))
    ((try simp only [Exit.inBlock, Exit.then]); refine bodyPost_ret (v := .tuple #[.agg #[.int .i64 0, .int .i64 0], .int .i64 2]) (by simp [results, Try.results58, go_sem, *]) rfl ?_)
    exact ⟨rfl, (by repeat (first | exact Below.refl _ _ | (refine bl_setCell ?_ _ _ ?_; rotate_left; focus (first | omega | (simp; done) | (simp; omega))) | refine bl_alloc ?_ _ | refine bl_step ?_ (by assumption) | refine bl_drew ?_ | refine bl_drewN ?_ _))⟩
  have q1' : (x.hops.length == 0) = false := by simpa using q1
  have q1i : ((x.hops.length : Int) == 0) = false := by simpa using q1
  have q1j := Lib.hid q1
  clear q1
  cases v3
  rotate_left
  · conv at hval => rhs; unfold rideT; rw [hv1, hv2, q1', hv3]; simp only [Bool.not_true, Bool.not_false, Bool.true_or, Bool.or_true, Bool.false_or, Bool.or_false, if_true, Bool.false_eq_true, if_false]
    rw [hval]
    have Hhval := Lib.hid hval; clear hval; have HhT := Lib.hid hT; clear hT; have Hhs := Lib.hid hs; clear hs; have Hhb := Lib.hid hb; clear hb
    have tok1 : True := trivial
    have tok2 : True := trivial
    go_enter Try.func58, Try.ntmps58
    go_wp2_with (first
      | (go_at_call 89; have _t := tok1; clear _t; refine (unknown_val T _ _ _ _ _ _ _ _ B x.hops a' c' _ hv1 hl2 _ (Hhs.out.below (ek_hop B) ((show Below w.heap.size w _ from (by repeat (first | exact Below.refl _ _ | (refine bl_setCell ?_ _ _ ?_; rotate_left; focus (first | omega | (simp; done) | (simp; omega))) | refine bl_alloc ?_ _ | refine bl_step ?_ (by assumption) | refine bl_drew ?_ | refine bl_drewN ?_ _))).mono hB)) (by (first | omega | (simp; done) | (simp; omega)))).mono ?_; rintro e w1 ⟨rfl, hb1⟩; obtain ⟨_, _, _⟩ := bk (w.heap.size) hb1 (by (first | omega | (simp; done) | (simp; omega))); obtain ⟨_, _, _⟩ := bk (w.heap.size + 1) hb1 (by (first | omega | (simp; done) | (simp; omega))); obtain ⟨_, _, _⟩ := bk (w.heap.size + 2) hb1 (by (first | omega | (simp; done) | (simp; omega))); obtain ⟨_, _, _⟩ := bk (w.heap.size + 3) hb1 (by (first | omega | (simp; done) | (simp; omega))); have hzhb1 := bsz hb1; (try simp only [World.size_alloc] at hzhb1); clear tok1)
      | (go_at_call 98; have _t := tok2; clear _t; refine (bNone_val T _ _ _ _ _ _ _ _ x a' a'' c' c'' w.heap.size (w.heap.size + 1) B _ hv2 _ (Hhb.out.below (ek_board B) ((show Below w.heap.size w _ from (by repeat (first | exact Below.refl _ _ | (refine bl_setCell ?_ _ _ ?_; rotate_left; focus (first | omega | (simp; done) | (simp; omega))) | refine bl_alloc ?_ _ | refine bl_step ?_ (by assumption) | refine bl_drew ?_ | refine bl_drewN ?_ _))).mono hB)) (by (first | omega | (simp; done) | (simp; omega))) (by repeat (first | with_reducible assumption | (with_reducible refine heap_alloc_at' _ _ ?_; focus (simp; done)) | with_reducible refine heap_alloc_off ?_ _ | (with_reducible refine heap_setCell_off ?_ _ ?_; rotate_left; focus omega) | with_reducible refine heap_drew' ?_ | with_reducible refine heap_drewN' ?_ | with_reducible refine heap_below (by with_reducible assumption) ?_)) (by repeat (first | with_reducible assumption | (with_reducible refine heap_alloc_at' _ _ ?_; focus (simp; done)) | with_reducible refine heap_alloc_off ?_ _ | (with_reducible refine heap_setCell_off ?_ _ ?_; rotate_left; focus omega) | with_reducible refine heap_drew' ?_ | with_reducible refine heap_drewN' ?_ | with_reducible refine heap_below (by with_reducible assumption) ?_)) hl4 hl3).mono ?_; rintro e w2 ⟨rfl, hb2⟩; obtain ⟨_, _, _⟩ := bk (w.heap.size) hb2 (by (first | omega | (simp; done) | (simp; omega))); obtain ⟨_, _, _⟩ := bk (w.heap.size + 1) hb2 (by (first | omega | (simp; done) | (simp; omega))); obtain ⟨_, _, _⟩ := bk (w.heap.size + 2) hb2 (by (first | omega | (simp; done) | (simp; omega))); obtain ⟨_, _, _⟩ := bk (w.heap.size + 3) hb2 (by (first | omega | (simp; done) | (simp; omega))); have hzhb2 := bsz hb2; (try simp only [World.size_alloc] at hzhb2); clear tok2)
      | (go_at_call 98; refine (bBad_val T _ _ _ _ _ _ _ _ x a'' c'' w.heap.size B _ hv3 _ (Hhb.out.below (ek_board B) ((show Below w.heap.size w _ from (by repeat (first | exact Below.refl _ _ | (refine bl_setCell ?_ _ _ ?_; rotate_left; focus (first | omega | (simp; done) | (simp; omega))) | refine bl_alloc ?_ _ | refine bl_step ?_ (by assumption) | refine bl_drew ?_ | refine bl_drewN ?_ _))).mono hB)) (HhT.out.below ((show Below w.heap.size w _ from (by repeat (first | exact Below.refl _ _ | (refine bl_setCell ?_ _ _ ?_; rotate_left; focus (first | omega | (simp; done) | (simp; omega))) | refine bl_alloc ?_ _ | refine bl_step ?_ (by assumption) | refine bl_drew ?_ | refine bl_drewN ?_ _))).mono hB)) (by (first | omega | (simp; done) | (simp; omega))) (by repeat (first | with_reducible assumption | (with_reducible refine heap_alloc_at' _ _ ?_; focus (simp; done)) | with_reducible refine heap_alloc_off ?_ _ | (with_reducible refine heap_setCell_off ?_ _ ?_; rotate_left; focus omega) | with_reducible refine heap_drew' ?_ | with_reducible refine heap_drewN' ?_ | with_reducible refine heap_below (by with_reducible assumption) ?_)) Hbg.out).mono ?_; rintro e w3 ⟨rfl, hb3⟩; obtain ⟨_, _, _⟩ := bk (w.heap.size) hb3 (by (first | omega | (simp; done) | (simp; omega))); obtain ⟨_, _, _⟩ := bk (w.heap.size + 1) hb3 (by (first | omega | (simp; done) | (simp; omega))); obtain ⟨_, _, _⟩ := bk (w.heap.size + 2) hb3 (by (first | omega | (simp; done) | (simp; omega))); obtain ⟨_, _, _⟩ := bk (w.heap.size + 3) hb3 (by (first | omega | (simp; done) | (simp; omega))); have hzhb3 := bsz hb3; (try simp only [World.size_alloc] at hzhb3)))
    ((try simp only [Exit.inBlock, Exit.then]); refine bodyPost_ret (v := .tuple #[.agg #[.int .i64 0, .int .i64 0], .int .i64 2]) (by simp [results, Try.results58, go_sem, *]) rfl ?_)
    exact ⟨rfl, (by repeat (first | exact Below.refl _ _ | (refine bl_setCell ?_ _ _ ?_; rotate_left; focus (first | omega | (simp; done) | (simp; omega))) | refine bl_alloc ?_ _ | refine bl_step ?_ (by assumption) | refine bl_drew ?_ | refine bl_drewN ?_ _))⟩
  cases v4
  rotate_left
  · conv at hval => rhs; unfold rideT; rw [hv1, hv2, q1', hv3, hv4]; simp only [Bool.not_true, Bool.not_false, Bool.true_or, Bool.or_true, Bool.false_or, Bool.or_false, if_true, Bool.false_eq_true, if_false]
    rw [hval]
    have Hhval := Lib.hid hval; clear hval; have HhT := Lib.hid hT; clear hT; have Hhs := Lib.hid hs; clear hs; have Hhb := Lib.hid hb; clear hb
    have tok1 : True := trivial
    have tok2 : True := trivial
    go_enter Try.func58, Try.ntmps58
    go_wp2_with (first
      | (go_at_call 89; have _t := tok1; clear _t; refine (unknown_val T _ _ _ _ _ _ _ _ B x.hops a' c' _ hv1 hl2 _ (Hhs.out.below (ek_hop B) ((show Below w.heap.size w _ from (by repeat (first | exact Below.refl _ _ | (refine bl_setCell ?_ _ _ ?_; rotate_left; focus (first | omega | (simp; done) | (simp; omega))) | refine bl_alloc ?_ _ | refine bl_step ?_ (by assumption) | refine bl_drew ?_ | refine bl_drewN ?_ _))).mono hB)) (by (first | omega | (simp; done) | (simp; omega)))).mono ?_; rintro e w1 ⟨rfl, hb1⟩; obtain ⟨_, _, _⟩ := bk (w.heap.size) hb1 (by (first | omega | (simp; done) | (simp; omega))); obtain ⟨_, _, _⟩ := bk (w.heap.size + 1) hb1 (by (first | omega | (simp; done) | (simp; omega))); obtain ⟨_, _, _⟩ := bk (w.heap.size + 2) hb1 (by (first | omega | (simp; done) | (simp; omega))); obtain ⟨_, _, _⟩ := bk (w.heap.size + 3) hb1 (by (first | omega | (simp; done) | (simp; omega))); have hzhb1 := bsz hb1; (try simp only [World.size_alloc] at hzhb1); clear tok1)
      | (go_at_call 98; have _t := tok2; clear _t; refine (bNone_val T _ _ _ _ _ _ _ _ x a' a'' c' c'' w.heap.size (w.heap.size + 1) B _ hv2 _ (Hhb.out.below (ek_board B) ((show Below w.heap.size w _ from (by repeat (first | exact Below.refl _ _ | (refine bl_setCell ?_ _ _ ?_; rotate_left; focus (first | omega | (simp; done) | (simp; omega))) | refine bl_alloc ?_ _ | refine bl_step ?_ (by assumption) | refine bl_drew ?_ | refine bl_drewN ?_ _))).mono hB)) (by (first | omega | (simp; done) | (simp; omega))) (by repeat (first | with_reducible assumption | (with_reducible refine heap_alloc_at' _ _ ?_; focus (simp; done)) | with_reducible refine heap_alloc_off ?_ _ | (with_reducible refine heap_setCell_off ?_ _ ?_; rotate_left; focus omega) | with_reducible refine heap_drew' ?_ | with_reducible refine heap_drewN' ?_ | with_reducible refine heap_below (by with_reducible assumption) ?_)) (by repeat (first | with_reducible assumption | (with_reducible refine heap_alloc_at' _ _ ?_; focus (simp; done)) | with_reducible refine heap_alloc_off ?_ _ | (with_reducible refine heap_setCell_off ?_ _ ?_; rotate_left; focus omega) | with_reducible refine heap_drew' ?_ | with_reducible refine heap_drewN' ?_ | with_reducible refine heap_below (by with_reducible assumption) ?_)) hl4 hl3).mono ?_; rintro e w2 ⟨rfl, hb2⟩; obtain ⟨_, _, _⟩ := bk (w.heap.size) hb2 (by (first | omega | (simp; done) | (simp; omega))); obtain ⟨_, _, _⟩ := bk (w.heap.size + 1) hb2 (by (first | omega | (simp; done) | (simp; omega))); obtain ⟨_, _, _⟩ := bk (w.heap.size + 2) hb2 (by (first | omega | (simp; done) | (simp; omega))); obtain ⟨_, _, _⟩ := bk (w.heap.size + 3) hb2 (by (first | omega | (simp; done) | (simp; omega))); have hzhb2 := bsz hb2; (try simp only [World.size_alloc] at hzhb2); clear tok2)
      | (go_at_call 98; refine (bBad_val T _ _ _ _ _ _ _ _ x a'' c'' w.heap.size B _ hv3 _ (Hhb.out.below (ek_board B) ((show Below w.heap.size w _ from (by repeat (first | exact Below.refl _ _ | (refine bl_setCell ?_ _ _ ?_; rotate_left; focus (first | omega | (simp; done) | (simp; omega))) | refine bl_alloc ?_ _ | refine bl_step ?_ (by assumption) | refine bl_drew ?_ | refine bl_drewN ?_ _))).mono hB)) (HhT.out.below ((show Below w.heap.size w _ from (by repeat (first | exact Below.refl _ _ | (refine bl_setCell ?_ _ _ ?_; rotate_left; focus (first | omega | (simp; done) | (simp; omega))) | refine bl_alloc ?_ _ | refine bl_step ?_ (by assumption) | refine bl_drew ?_ | refine bl_drewN ?_ _))).mono hB)) (by (first | omega | (simp; done) | (simp; omega))) (by repeat (first | with_reducible assumption | (with_reducible refine heap_alloc_at' _ _ ?_; focus (simp; done)) | with_reducible refine heap_alloc_off ?_ _ | (with_reducible refine heap_setCell_off ?_ _ ?_; rotate_left; focus omega) | with_reducible refine heap_drew' ?_ | with_reducible refine heap_drewN' ?_ | with_reducible refine heap_below (by with_reducible assumption) ?_)) Hbg.out).mono ?_; rintro e w3 ⟨rfl, hb3⟩; obtain ⟨_, _, _⟩ := bk (w.heap.size) hb3 (by (first | omega | (simp; done) | (simp; omega))); obtain ⟨_, _, _⟩ := bk (w.heap.size + 1) hb3 (by (first | omega | (simp; done) | (simp; omega))); obtain ⟨_, _, _⟩ := bk (w.heap.size + 2) hb3 (by (first | omega | (simp; done) | (simp; omega))); obtain ⟨_, _, _⟩ := bk (w.heap.size + 3) hb3 (by (first | omega | (simp; done) | (simp; omega))); have hzhb3 := bsz hb3; (try simp only [World.size_alloc] at hzhb3))
      | (go_at_call 89; refine (outside_val T _ _ _ _ _ _ _ _ B x.hops a' c' _ hv4 _ (Hhs.out.below (ek_hop B) ((show Below w.heap.size w _ from (by repeat (first | exact Below.refl _ _ | (refine bl_setCell ?_ _ _ ?_; rotate_left; focus (first | omega | (simp; done) | (simp; omega))) | refine bl_alloc ?_ _ | refine bl_step ?_ (by assumption) | refine bl_drew ?_ | refine bl_drewN ?_ _))).mono hB)) (by (first | omega | (simp; done) | (simp; omega)))).mono ?_; rintro e w4 ⟨rfl, hb4⟩; obtain ⟨_, _, _⟩ := bk (w.heap.size) hb4 (by (first | omega | (simp; done) | (simp; omega))); obtain ⟨_, _, _⟩ := bk (w.heap.size + 1) hb4 (by (first | omega | (simp; done) | (simp; omega))); obtain ⟨_, _, _⟩ := bk (w.heap.size + 2) hb4 (by (first | omega | (simp; done) | (simp; omega))); obtain ⟨_, _, _⟩ := bk (w.heap.size + 3) hb4 (by (first | omega | (simp; done) | (simp; omega))); have hzhb4 := bsz hb4; (try simp only [World.size_alloc] at hzhb4)))
    ((try simp only [Exit.inBlock, Exit.then]); refine bodyPost_ret (v := .tuple #[.agg #[.int .i64 0, .int .i64 0], .int .i64 3]) (by simp [results, Try.results58, go_sem, *]) rfl ?_)
    exact ⟨rfl, (by repeat (first | exact Below.refl _ _ | (refine bl_setCell ?_ _ _ ?_; rotate_left; focus (first | omega | (simp; done) | (simp; omega))) | refine bl_alloc ?_ _ | refine bl_step ?_ (by assumption) | refine bl_drew ?_ | refine bl_drewN ?_ _))⟩
  exact ride_good T _ _ _ _ _ _ _ _ B x a' a'' c' c'' p s w hG hT hs hb hB hp hss hv1 hv2 q1' hv3 hv4 Hbg.out Hbh.out

end Go.Proofs.Ytjoihijlcpnhoaa
