/- How an argument reads, however long its lists are. -/
import Derived.Test.YtjoihijlcpnhoaaDrA
import Derived.OpenShut
import Derived.ProofKit
import Derived.Deep.Slices
import Derived.Deep.Fields
namespace Go.Proofs.Ytjoihijlcpnhoaa
open Go.RowKit

/-- As Sl, with no other bound than that of a length. -/
def SlN {α : Type} (E : World → Nat → Nat → α → Prop) (sz B : Nat) (w : World) (a : Option Addr) (l : List α) : Prop :=
  l.length ≤ 9223372036854775807 ∧ ∀ k (h : k < l.length), ∃ b off, a = some ⟨b, off, none⟩ ∧ b < B ∧ E w b (off + k * sz) l[k]
theorem SlN.below {α : Type} {E : World → Nat → Nat → α → Prop} {sz B : Nat} {w w' : World} {a : Option Addr} {l : List α} (hE : EK B E) (h : SlN E sz B w a l) (hB : Below B w w') : SlN E sz B w' a l :=
  ⟨h.1, fun k hk => let ⟨b, off, ha, hb, he⟩ := h.2 k hk; ⟨b, off, ha, hb, hE _ _ _ _ _ hB hb he⟩⟩
theorem SlN.sl {α : Type} {E E' : World → Nat → Nat → α → Prop} {sz B : Nat} {w : World} {a : Option Addr} {l : List α} (h : SlN E sz B w a l) (hl : l.length ≤ 140737488355328) (hE : ∀ b o, ∀ x ∈ l, E w b o x → E' w b o x) : Sl E' sz B w a l :=
  ⟨hl, fun k hk => let ⟨b, off, ha, hb, he⟩ := h.2 k hk; ⟨b, off, ha, hb, hE _ _ _ (List.getElem_mem hk) he⟩⟩

def TripU (B : Nat) (w : World) (b o : Nat) (x : Trip) : Prop :=
  ∃ a c, w.cell? ⟨b, o, none⟩ = some (.int .i64 x.group) ∧ w.cell? ⟨b, o + 1, none⟩ = some (.int .i64 x.count) ∧ w.cell? ⟨b, o + 2, none⟩ = some (.slice a x.hops.length (x.hops.length + c)) ∧ w.cell? ⟨b, o + 3, none⟩ = some (.int .i64 x.enter) ∧
    SlN HopE 2 B w a x.hops
def RideU (B : Nat) (w : World) (b o : Nat) (x : Ride) : Prop :=
  ∃ a c a' c', w.cell? ⟨b, o, none⟩ = some (.int .i64 x.vehicle) ∧ w.cell? ⟨b, o + 1, none⟩ = some (.slice a x.hops.length (x.hops.length + c)) ∧ w.cell? ⟨b, o + 2, none⟩ = some (.slice a' x.boards.length c') ∧
    SlN HopE 2 B w a x.hops ∧ SlN BoardE 3 B w a' x.boards
theorem ek_tripU (B : Nat) : EK B (TripU B) := fun _ _ _ _ _ hB hb ⟨a, c, h0, h1, h2, h3, hs⟩ => ⟨a, c, ek_cell hB hb h0, ek_cell hB hb h1, ek_cell hB hb h2, ek_cell hB hb h3, hs.below (ek_hop B) hB⟩
theorem ek_rideU (B : Nat) : EK B (RideU B) := fun _ _ _ _ _ hB hb ⟨a, c, a', c', h0, h1, h2, hs, hs'⟩ => ⟨a, c, a', c', ek_cell hB hb h0, ek_cell hB hb h1, ek_cell hB hb h2, hs.below (ek_hop B) hB, hs'.below (ek_board B) hB⟩

structure TownU (B : Nat) (w : World) (a1 a2 a3 a4 : Option Addr) (T : Town) : Prop where
  places : SlN PlaceE 3 B w a1 T.places
  ways : SlN WayE 8 B w a2 T.ways
  groups : SlN GroupE 3 B w a3 T.groups
  vehicles : SlN VehicleE 2 B w a4 T.vehicles
theorem TownU.below {B : Nat} {w w' : World} {a1 a2 a3 a4 : Option Addr} {T : Town} (h : TownU B w a1 a2 a3 a4 T) (hB : Below B w w') : TownU B w' a1 a2 a3 a4 T :=
  ⟨h.places.below (ek_place B) hB, h.ways.below (ek_way B) hB, h.groups.below (ek_group B) hB, h.vehicles.below (ek_vehicle B) hB⟩
structure PlanU (B : Nat) (w : World) (a1 a2 : Option Addr) (p : Plan) : Prop where
  trips : SlN (TripU B) 4 B w a1 p.trips
  rides : SlN (RideU B) 3 B w a2 p.rides
theorem PlanU.below {B : Nat} {w w' : World} {a1 a2 : Option Addr} {p : Plan} (h : PlanU B w a1 a2 p) (hB : Below B w w') : PlanU B w' a1 a2 p :=
  ⟨h.trips.below (ek_tripU B) hB, h.rides.below (ek_rideU B) hB⟩
structure CaseU (B : Nat) (w : World) (l1 l2 l3 l4 : Option Addr) (c : Case) : Prop where
  late : SlN IntE 1 B w l1 c.late
  absent : SlN IntE 1 B w l2 c.absent
  rides : SlN IntE 1 B w l3 c.rides
  broken : SlN BoolE 1 B w l4 c.broken

theorem CaseU.below {B : Nat} {w w' : World} {l1 l2 l3 l4 : Option Addr} {c : Case} (h : CaseU B w l1 l2 l3 l4 c) (hB : Below B w w') : CaseU B w' l1 l2 l3 l4 c :=
  ⟨h.late.below (ek_int B) hB, h.absent.below (ek_int B) hB, h.rides.below (ek_int B) hB, h.broken.below (ek_bool B) hB⟩

/-- What few asks (but for the steps). -/
structure FewB (T : Town) (p : Plan) (c : Case) : Prop where
  places : T.places.length ≤ 70
  groups : T.groups.length ≤ 70
  vehicles : T.vehicles.length ≤ 70
  ways : T.ways.length ≤ 260
  steps : ¬(60 < T.steps ∧ T.steps ≤ 200)
  trips : p.trips.length ≤ 40
  rides : p.rides.length ≤ 40
  late : c.late.length ≤ 50
  absent : c.absent.length ≤ 50
  lrides : c.rides.length ≤ 50
  broken : c.broken.length ≤ 50
def FewT (l : List Trip) : Prop := ∀ x ∈ l, x.hops.length ≤ 70
def FewR (l : List Ride) : Prop := ∀ x ∈ l, x.hops.length ≤ 70 ∧ x.boards.length ≤ 70

theorem TownU.few {B : Nat} {w : World} {a1 a2 a3 a4 : Option Addr} {T : Town} {p : Plan} {c : Case} (h : TownU B w a1 a2 a3 a4 T) (f : FewB T p c) : TownM B w a1 a2 a3 a4 T :=
  ⟨h.places.sl (by have := f.places; omega) fun _ _ _ _ e => e, h.ways.sl (by have := f.ways; omega) fun _ _ _ _ e => e, h.groups.sl (by have := f.groups; omega) fun _ _ _ _ e => e, h.vehicles.sl (by have := f.vehicles; omega) fun _ _ _ _ e => e⟩
theorem PlanU.few {B : Nat} {w : World} {a1 a2 : Option Addr} {T : Town} {p : Plan} {c : Case} (h : PlanU B w a1 a2 p) (f : FewB T p c) (ft : FewT p.trips) (fr : FewR p.rides) : PlanM B w a1 a2 p :=
  ⟨h.trips.sl (by have := f.trips; omega) fun _ _ x hx ⟨a, d, h0, h1, h2, h3, hs⟩ => ⟨a, d, h0, h1, h2, h3, hs.sl (by have := ft x hx; omega) fun _ _ _ _ e => e⟩,
   h.rides.sl (by have := f.rides; omega) fun _ _ x hx ⟨a, d, a', d', h0, h1, h2, hs, hs'⟩ => ⟨a, d, a', d', h0, h1, h2, hs.sl (by have := (fr x hx).1; omega) fun _ _ _ _ e => e, hs'.sl (by have := (fr x hx).2; omega) fun _ _ _ _ e => e⟩⟩
theorem CaseU.few {B : Nat} {w : World} {l1 l2 l3 l4 : Option Addr} {T : Town} {p : Plan} {c : Case} (h : CaseU B w l1 l2 l3 l4 c) (f : FewB T p c) : CaseM B w l1 l2 l3 l4 c :=
  ⟨h.late.sl (by have := f.late; omega) fun _ _ _ _ e => e, h.absent.sl (by have := f.absent; omega) fun _ _ _ _ e => e, h.rides.sl (by have := f.lrides; omega) fun _ _ _ _ e => e, h.broken.sl (by have := f.broken; omega) fun _ _ _ _ e => e⟩

end Go.Proofs.Ytjoihijlcpnhoaa
namespace Go.Proofs.Ytjoihijlcpnhoaa
open Go.ChangeShapes Go.WideShapes Go.ChangeAt Go.RowKit Go.Deep

theorem add_none (b off n : Nat) : Addr.add ⟨b, off, none⟩ n = ⟨b, off + n, none⟩ := by
  unfold Addr.add
  split
  · next h => subst h; rfl
  · rfl
theorem block_lt {w : World} {b o : Nat} {v : Value} (h : w.cell? ⟨b, o, none⟩ = some v) : b < w.heap.size := by
  by_cases hlt : b < w.heap.size
  · exact hlt
  · simp [World.cell?, hlt] at h

theorem list_of {α : Type} (Q : Nat → α → Prop) : ∀ n, (∀ j, j < n → ∃ v, Q j v) → ∃ l : List α, l.length = n ∧ ∀ j (h : j < l.length), Q j l[j]
  | 0, _ => ⟨[], rfl, fun j h => by simp at h⟩
  | n + 1, h => by
    obtain ⟨l, hl, hQ⟩ := list_of Q n (fun j hj => h j (by omega))
    obtain ⟨v, hv⟩ := h n (by omega)
    refine ⟨l ++ [v], by simp [hl], fun j hj => ?_⟩
    by_cases e : j < l.length
    · rw [List.getElem_append_left e]; exact hQ j e
    · obtain rfl : j = n := by simp at hj; omega
      rw [List.getElem_append_right (by omega)]
      simpa [hl] using hv

section
variable {H : Type} {enc : TypeId × Value → H} {P : Program} {w : World} {base : Nat} {spare : Nat → Bool} {held : Bool}

theorem open_sl {α : Type} {E : World → Nat → Nat → α → Prop} {t e : TypeId} {n fuel : Nat} {cs : List Value} {x : DataW H × List MemPlace} (hs : P.underlying t = some (.slice e)) (hc : P.cellsOf e = n) (hn : 0 < n)
    (hopen : ∀ fuel cs x, DataW.trod enc P w base spare held fuel e cs = some x → ∃ v : α, ∀ b off, (∀ j, j < n → w.cell? ⟨b, off + j, none⟩ = cs[j]?) → E w b off v)
    (h : DataW.trod enc P w base spare held fuel t cs = some x) :
    ∃ (a : Option Addr) (c : Nat) (l : List α), cs = [.slice a l.length (l.length + c)] ∧ SlN E n w.heap.size w a l := by
  rcases open_slice hs h with ⟨hcs, _⟩ | ⟨a, len, cap, m, n', D, Pl, hcs, hb, hl, hm, hmm, hx, hel⟩
  · exact ⟨none, 0, [], hcs, by simp, fun j hj => by simp at hj⟩
  · have hlm : len ≤ m := by rw [hmm]; split <;> omega
    rw [hc] at hel
    have hsp : 0 < len → a.spot = none ∧ a.block < w.heap.size := by
      intro h0
      obtain ⟨cs', hcells, _⟩ := hel 0 (by omega)
      obtain ⟨_, hl', hat⟩ := World.cells?_some hcells
      have g0 := hat 0 hn
      rw [List.getElem?_eq_getElem (by omega)] at g0
      have ea : (a.add (0 * n)).add 0 = a := by simp [Addr.add]
      rw [ea] at g0
      have s := World.cell?_spot g0
      refine ⟨s, ?_⟩
      obtain ⟨b, off, spot⟩ := a
      simp at s
      subst s
      exact block_lt g0
    have key : ∀ j, j < len → ∃ v : α, E w a.block (a.off + j * n) v := by
      intro j hj
      obtain ⟨cs', hcells, ht⟩ := hel j (by omega)
      obtain ⟨v, hv⟩ := hopen _ _ _ ht
      obtain ⟨_, _, hat⟩ := World.cells?_some hcells
      refine ⟨v, hv _ _ fun i hi => ?_⟩
      have g := hat i hi
      rw [Go.Deep.add_add] at g
      obtain ⟨s, _⟩ := hsp (by omega)
      obtain ⟨b, off, spot⟩ := a
      simp at s
      subst s
      rw [add_none] at g
      simpa [Nat.add_assoc] using g
    obtain ⟨l, hll, hQ⟩ := list_of (fun j v => E w a.block (a.off + j * n) v) len key
    refine ⟨some a, cap - len, l, by rw [hcs, hll, show len + (cap - len) = cap by omega], by simp [maxLen] at hm; omega, fun j hj => ?_⟩
    obtain ⟨s, hbl⟩ := hsp (by omega)
    obtain ⟨b, off, spot⟩ := a
    simp at s
    subst s
    exact ⟨b, off, rfl, hbl, hQ j hj⟩
end

section
variable {H : Type} {enc : TypeId × Value → H} {w : World} {base : Nat} {spare : Nat → Bool} {held : Bool}

set_option maxRecDepth 100000 in
theorem cInt : Try.prog.cellsOf 3 = 1 := by kernel_rfl

set_option maxRecDepth 100000 in
theorem open_place (fuel : Nat) (cs : List Value) (x : DataW H × List MemPlace) (h : DataW.trod enc Try.prog w base spare held fuel 74 cs = some x) :
    ∃ v : Place, ∀ b off, (∀ j, j < 3 → w.cell? ⟨b, off + j, none⟩ = cs[j]?) → PlaceE w b off v := by
  obtain ⟨xs, n, _, _, hl, hxl, hg⟩ := DataW.trod_struct Try.underlying74 h
  have hC : Try.prog.cellsOf 74 = 3 := by kernel_rfl
  match cs, hl.trans hC with
  | [c0, c1, c2], _ =>
    match xs, hxl with
    | [y0, y1, y2], _ =>
      obtain ⟨n0, e0, _, _⟩ := DataW.trod_int Try.underlying3 (by simpa [cInt] using hg 0 _ rfl)
      obtain ⟨n1, e1, _, _⟩ := DataW.trod_int Try.underlying3 (by simpa [cInt] using hg 1 _ rfl)
      obtain ⟨n2, e2, _, _⟩ := DataW.trod_int Try.underlying3 (by simpa [cInt] using hg 2 _ rfl)
      simp only [List.cons.injEq, and_true] at e0 e1 e2
      subst e0 e1 e2
      exact ⟨⟨n0, n1, n2⟩, fun b off k => ⟨k 0 (by omega), k 1 (by omega), k 2 (by omega)⟩⟩
set_option maxRecDepth 100000 in
theorem open_group (fuel : Nat) (cs : List Value) (x : DataW H × List MemPlace) (h : DataW.trod enc Try.prog w base spare held fuel 43 cs = some x) :
    ∃ v : Group, ∀ b off, (∀ j, j < 3 → w.cell? ⟨b, off + j, none⟩ = cs[j]?) → GroupE w b off v := by
  obtain ⟨xs, n, _, _, hl, hxl, hg⟩ := DataW.trod_struct Try.underlying43 h
  have hC : Try.prog.cellsOf 43 = 3 := by kernel_rfl
  match cs, hl.trans hC with
  | [c0, c1, c2], _ =>
    match xs, hxl with
    | [y0, y1, y2], _ =>
      obtain ⟨n0, e0, _, _⟩ := DataW.trod_int Try.underlying3 (by simpa [cInt] using hg 0 _ rfl)
      obtain ⟨n1, e1, _, _⟩ := DataW.trod_int Try.underlying3 (by simpa [cInt] using hg 1 _ rfl)
      obtain ⟨n2, e2, _, _⟩ := DataW.trod_int Try.underlying3 (by simpa [cInt] using hg 2 _ rfl)
      simp only [List.cons.injEq, and_true] at e0 e1 e2
      subst e0 e1 e2
      exact ⟨⟨n0, n1, n2⟩, fun b off k => ⟨k 0 (by omega), k 1 (by omega), k 2 (by omega)⟩⟩
set_option maxRecDepth 100000 in
theorem open_vehicle (fuel : Nat) (cs : List Value) (x : DataW H × List MemPlace) (h : DataW.trod enc Try.prog w base spare held fuel 50 cs = some x) :
    ∃ v : Vehicle, ∀ b off, (∀ j, j < 2 → w.cell? ⟨b, off + j, none⟩ = cs[j]?) → VehicleE w b off v := by
  obtain ⟨xs, n, _, _, hl, hxl, hg⟩ := DataW.trod_struct Try.underlying50 h
  have hC : Try.prog.cellsOf 50 = 2 := by kernel_rfl
  match cs, hl.trans hC with
  | [c0, c1], _ =>
    match xs, hxl with
    | [y0, y1], _ =>
      obtain ⟨n0, e0, _, _⟩ := DataW.trod_int Try.underlying3 (by simpa [cInt] using hg 0 _ rfl)
      obtain ⟨n1, e1, _, _⟩ := DataW.trod_int Try.underlying3 (by simpa [cInt] using hg 1 _ rfl)
      simp only [List.cons.injEq, and_true] at e0 e1
      subst e0 e1
      exact ⟨⟨n0, n1⟩, fun b off k => ⟨k 0 (by omega), k 1 (by omega)⟩⟩
set_option maxRecDepth 100000 in
theorem open_hop (fuel : Nat) (cs : List Value) (x : DataW H × List MemPlace) (h : DataW.trod enc Try.prog w base spare held fuel 47 cs = some x) :
    ∃ v : Hop, ∀ b off, (∀ j, j < 2 → w.cell? ⟨b, off + j, none⟩ = cs[j]?) → HopE w b off v := by
  obtain ⟨xs, n, _, _, hl, hxl, hg⟩ := DataW.trod_struct Try.underlying47 h
  have hC : Try.prog.cellsOf 47 = 2 := by kernel_rfl
  match cs, hl.trans hC with
  | [c0, c1], _ =>
    match xs, hxl with
    | [y0, y1], _ =>
      obtain ⟨n0, e0, _, _⟩ := DataW.trod_int Try.underlying3 (by simpa [cInt] using hg 0 _ rfl)
      obtain ⟨n1, e1, _, _⟩ := DataW.trod_int Try.underlying3 (by simpa [cInt] using hg 1 _ rfl)
      simp only [List.cons.injEq, and_true] at e0 e1
      subst e0 e1
      exact ⟨⟨n0, n1⟩, fun b off k => ⟨k 0 (by omega), k 1 (by omega)⟩⟩
set_option maxRecDepth 100000 in
theorem open_board (fuel : Nat) (cs : List Value) (x : DataW H × List MemPlace) (h : DataW.trod enc Try.prog w base spare held fuel 56 cs = some x) :
    ∃ v : Board, ∀ b off, (∀ j, j < 3 → w.cell? ⟨b, off + j, none⟩ = cs[j]?) → BoardE w b off v := by
  obtain ⟨xs, n, _, _, hl, hxl, hg⟩ := DataW.trod_struct Try.underlying56 h
  have hC : Try.prog.cellsOf 56 = 3 := by kernel_rfl
  match cs, hl.trans hC with
  | [c0, c1, c2], _ =>
    match xs, hxl with
    | [y0, y1, y2], _ =>
      obtain ⟨n0, e0, _, _⟩ := DataW.trod_int Try.underlying3 (by simpa [cInt] using hg 0 _ rfl)
      obtain ⟨n1, e1, _, _⟩ := DataW.trod_int Try.underlying3 (by simpa [cInt] using hg 1 _ rfl)
      obtain ⟨n2, e2, _, _⟩ := DataW.trod_int Try.underlying3 (by simpa [cInt] using hg 2 _ rfl)
      simp only [List.cons.injEq, and_true] at e0 e1 e2
      subst e0 e1 e2
      exact ⟨⟨n0, n1, n2⟩, fun b off k => ⟨k 0 (by omega), k 1 (by omega), k 2 (by omega)⟩⟩
set_option maxRecDepth 100000 in
theorem open_way (fuel : Nat) (cs : List Value) (x : DataW H × List MemPlace) (h : DataW.trod enc Try.prog w base spare held fuel 77 cs = some x) :
    ∃ v : Way, ∀ b off, (∀ j, j < 8 → w.cell? ⟨b, off + j, none⟩ = cs[j]?) → WayE w b off v := by
  obtain ⟨xs, n, _, _, hl, hxl, hg⟩ := DataW.trod_struct Try.underlying77 h
  have hC : Try.prog.cellsOf 77 = 8 := by kernel_rfl
  have hA : Try.prog.cellsOf 75 = 3 := by kernel_rfl
  match cs, hl.trans hC with
  | [c0, c1, c2, c3, c4, c5, c6, c7], _ =>
    match xs, hxl with
    | [y0, y1, y2, y3, y4, y5], _ =>
      obtain ⟨n0, e0, _, _⟩ := DataW.trod_int Try.underlying3 (by simpa [cInt] using hg 0 _ rfl)
      obtain ⟨n1, e1, _, _⟩ := DataW.trod_int Try.underlying3 (by simpa [cInt] using hg 1 _ rfl)
      have ga : DataW.trod enc Try.prog w base spare held n 75 [c2, c3, c4] = some y2 := by simpa [hA] using hg 2 _ rfl
      obtain ⟨n5, e5, _, _⟩ := DataW.trod_int Try.underlying3 (by simpa [cInt] using hg 3 _ rfl)
      obtain ⟨n6, e6, _, _⟩ := DataW.trod_int Try.underlying3 (by simpa [cInt] using hg 4 _ rfl)
      obtain ⟨n7, e7, _, _⟩ := DataW.trod_int Try.underlying3 (by simpa [cInt] using hg 5 _ rfl)
      obtain ⟨zs, m, _, _, _, hzl, hat⟩ := DataW.trod_array Try.underlying75 ga
      match zs, hzl with
      | [z0, z1, z2], _ =>
        have g0 := hat 0 (by omega)
        have g1 := hat 1 (by omega)
        have g2 := hat 2 (by omega)
        simp [cInt] at g0 g1 g2
        obtain ⟨n2, e2, _, _⟩ := DataW.trod_int Try.underlying3 g0
        obtain ⟨n3, e3, _, _⟩ := DataW.trod_int Try.underlying3 g1
        obtain ⟨n4, e4, _, _⟩ := DataW.trod_int Try.underlying3 g2
        simp only [List.cons.injEq, and_true] at e0 e1 e2 e3 e4 e5 e6 e7
        subst e0 e1 e2 e3 e4 e5 e6 e7
        exact ⟨⟨n0, n1, n2, n3, n4, n5, n6, n7⟩, fun b off k => ⟨k 0 (by omega), k 1 (by omega), k 2 (by omega), k 3 (by omega), k 4 (by omega), k 5 (by omega), k 6 (by omega), k 7 (by omega)⟩⟩

theorem open_hops {fuel : Nat} {cs : List Value} {x : DataW H × List MemPlace} (h : DataW.trod enc Try.prog w base spare held fuel 39 cs = some x) :
    ∃ (a : Option Addr) (c : Nat) (l : List Hop), cs = [.slice a l.length (l.length + c)] ∧ SlN HopE 2 w.heap.size w a l :=
  open_sl Try.underlying39 (by kernel_rfl) (by omega) open_hop h
theorem open_boards {fuel : Nat} {cs : List Value} {x : DataW H × List MemPlace} (h : DataW.trod enc Try.prog w base spare held fuel 51 cs = some x) :
    ∃ (a : Option Addr) (c : Nat) (l : List Board), cs = [.slice a l.length (l.length + c)] ∧ SlN BoardE 3 w.heap.size w a l :=
  open_sl Try.underlying51 (by kernel_rfl) (by omega) open_board h

theorem open_int1 (fuel : Nat) (cs : List Value) (x : DataW H × List MemPlace) (h : DataW.trod enc Try.prog w base spare held fuel 3 cs = some x) :
    ∃ v : Int, ∀ b off, (∀ j, j < 1 → w.cell? ⟨b, off + j, none⟩ = cs[j]?) → IntE w b off v := by
  obtain ⟨n0, rfl, _, _⟩ := DataW.trod_int Try.underlying3 h
  exact ⟨n0, fun b off k => k 0 (by omega)⟩
theorem open_bool1 (fuel : Nat) (cs : List Value) (x : DataW H × List MemPlace) (h : DataW.trod enc Try.prog w base spare held fuel 4 cs = some x) :
    ∃ v : Bool, ∀ b off, (∀ j, j < 1 → w.cell? ⟨b, off + j, none⟩ = cs[j]?) → BoolE w b off v := by
  obtain ⟨n0, rfl, _⟩ := DataW.trod_bool Try.underlying4 h
  exact ⟨n0, fun b off k => k 0 (by omega)⟩

set_option maxRecDepth 100000 in
theorem open_trip (fuel : Nat) (cs : List Value) (x : DataW H × List MemPlace) (h : DataW.trod enc Try.prog w base spare held fuel 41 cs = some x) :
    ∃ v : Trip, ∀ b off, (∀ j, j < 4 → w.cell? ⟨b, off + j, none⟩ = cs[j]?) → TripU w.heap.size w b off v := by
  obtain ⟨xs, n, _, _, hl, hxl, hg⟩ := DataW.trod_struct Try.underlying41 h
  have hC : Try.prog.cellsOf 41 = 4 := by kernel_rfl
  have hH : Try.prog.cellsOf 39 = 1 := by kernel_rfl
  match cs, hl.trans hC with
  | [c0, c1, c2, c3], _ =>
    match xs, hxl with
    | [y0, y1, y2, y3], _ =>
      obtain ⟨n0, e0, _, _⟩ := DataW.trod_int Try.underlying3 (by simpa [cInt] using hg 0 _ rfl)
      obtain ⟨n1, e1, _, _⟩ := DataW.trod_int Try.underlying3 (by simpa [cInt] using hg 1 _ rfl)
      obtain ⟨a, c, l, e2, hs⟩ := open_hops (cs := [c2]) (by simpa [cInt, hH] using hg 2 _ rfl)
      obtain ⟨n3, e3, _, _⟩ := DataW.trod_int Try.underlying3 (by simpa [cInt, hH] using hg 3 _ rfl)
      simp only [List.cons.injEq, and_true] at e0 e1 e2 e3
      subst e0 e1 e2 e3
      exact ⟨⟨n0, n1, l, n3⟩, fun b off k => ⟨a, c, k 0 (by omega), k 1 (by omega), k 2 (by omega), k 3 (by omega), hs⟩⟩
set_option maxRecDepth 100000 in
theorem open_ride (fuel : Nat) (cs : List Value) (x : DataW H × List MemPlace) (h : DataW.trod enc Try.prog w base spare held fuel 53 cs = some x) :
    ∃ v : Ride, ∀ b off, (∀ j, j < 3 → w.cell? ⟨b, off + j, none⟩ = cs[j]?) → RideU w.heap.size w b off v := by
  obtain ⟨xs, n, _, _, hl, hxl, hg⟩ := DataW.trod_struct Try.underlying53 h
  have hC : Try.prog.cellsOf 53 = 3 := by kernel_rfl
  have hH : Try.prog.cellsOf 39 = 1 := by kernel_rfl
  have hB : Try.prog.cellsOf 51 = 1 := by kernel_rfl
  match cs, hl.trans hC with
  | [c0, c1, c2], _ =>
    match xs, hxl with
    | [y0, y1, y2], _ =>
      obtain ⟨n0, e0, _, _⟩ := DataW.trod_int Try.underlying3 (by simpa [cInt] using hg 0 _ rfl)
      obtain ⟨a, c, l, e1, hs⟩ := open_hops (cs := [c1]) (by simpa [cInt, hH] using hg 1 _ rfl)
      obtain ⟨a', c', l', e2, hs'⟩ := open_boards (cs := [c2]) (by simpa [cInt, hH, hB] using hg 2 _ rfl)
      simp only [List.cons.injEq, and_true] at e0 e1 e2
      subst e0 e1 e2
      exact ⟨⟨n0, l, l'⟩, fun b off k => ⟨a, c, a', _, k 0 (by omega), k 1 (by omega), k 2 (by omega), hs, hs'⟩⟩

set_option maxRecDepth 100000 in
theorem open_town {r : Go.Reach} {b0 : Nat} {v : Value} {d : DataW H} {p : List MemPlace} (hv : Value.okWide Try.prog w r b0 27 v) (h : DataW.Trod enc Try.prog w base spare held 27 v d p) :
    ∃ (T : Town) (a1 a2 a3 a4 : Option Addr) (c1 c2 c3 c4 : Nat), v = .agg #[.int .i64 T.steps, .slice a1 T.places.length c1, .slice a2 T.ways.length c2, .slice a3 T.groups.length c3, .slice a4 T.vehicles.length c4] ∧ TownU w.heap.size w a1 a2 a3 a4 T := by
  obtain ⟨cs, rfl, hsz⟩ := okWide_struct Try.underlying27 hv
  obtain ⟨l⟩ := cs
  have hC : Try.prog.cellsOf 27 = 5 := by kernel_rfl
  have h1 : Try.prog.cellsOf 22 = 1 := by kernel_rfl
  have h2 : Try.prog.cellsOf 23 = 1 := by kernel_rfl
  have h3 : Try.prog.cellsOf 24 = 1 := by kernel_rfl
  have h4 : Try.prog.cellsOf 25 = 1 := by kernel_rfl
  match l, hsz.trans hC with
  | [s0, s1, s2, s3, s4], _ =>
    obtain ⟨fuel, hf⟩ := h
    obtain ⟨xs, n, _, _, _, hlen, hg⟩ := DataW.trod_struct Try.underlying27 hf
    match xs, hlen with
    | [y0, y1, y2, y3, y4], _ =>
      obtain ⟨n0, e0, _, _⟩ := DataW.trod_int Try.underlying3 (by simpa [Value.cells, cInt] using hg 0 _ rfl)
      obtain ⟨a1, c1, l1, e1, k1⟩ := open_sl (cs := [s1]) Try.underlying22 (by kernel_rfl) (by omega) open_place (by simpa [Value.cells, cInt, h1] using hg 1 _ rfl)
      obtain ⟨a2, c2, l2, e2, k2⟩ := open_sl (cs := [s2]) Try.underlying23 (by kernel_rfl) (by omega) open_way (by simpa [Value.cells, cInt, h1, h2] using hg 2 _ rfl)
      obtain ⟨a3, c3, l3, e3, k3⟩ := open_sl (cs := [s3]) Try.underlying24 (by kernel_rfl) (by omega) open_group (by simpa [Value.cells, cInt, h1, h2, h3] using hg 3 _ rfl)
      obtain ⟨a4, c4, l4, e4, k4⟩ := open_sl (cs := [s4]) Try.underlying25 (by kernel_rfl) (by omega) open_vehicle (by simpa [Value.cells, cInt, h1, h2, h3, h4] using hg 4 _ rfl)
      simp only [List.cons.injEq, and_true] at e0 e1 e2 e3 e4
      subst e0 e1 e2 e3 e4
      exact ⟨⟨n0, l1, l2, l3, l4⟩, a1, a2, a3, a4, _, _, _, _, rfl, k1, k2, k3, k4⟩
set_option maxRecDepth 100000 in
theorem open_plan {r : Go.Reach} {b0 : Nat} {v : Value} {d : DataW H} {q : List MemPlace} (hv : Value.okWide Try.prog w r b0 31 v) (h : DataW.Trod enc Try.prog w base spare held 31 v d q) :
    ∃ (p : Plan) (p1 p2 : Option Addr) (d1 d2 : Nat), v = .agg #[.slice p1 p.trips.length d1, .slice p2 p.rides.length d2] ∧ PlanU w.heap.size w p1 p2 p := by
  obtain ⟨cs, rfl, hsz⟩ := okWide_struct Try.underlying31 hv
  obtain ⟨l⟩ := cs
  have hC : Try.prog.cellsOf 31 = 2 := by kernel_rfl
  have h1 : Try.prog.cellsOf 28 = 1 := by kernel_rfl
  have h2 : Try.prog.cellsOf 29 = 1 := by kernel_rfl
  match l, hsz.trans hC with
  | [s0, s1], _ =>
    obtain ⟨fuel, hf⟩ := h
    obtain ⟨xs, n, _, _, _, hlen, hg⟩ := DataW.trod_struct Try.underlying31 hf
    match xs, hlen with
    | [y0, y1], _ =>
      obtain ⟨a1, c1, l1, e1, k1⟩ := open_sl (cs := [s0]) Try.underlying28 (by kernel_rfl) (by omega) open_trip (by simpa [Value.cells, h1] using hg 0 _ rfl)
      obtain ⟨a2, c2, l2, e2, k2⟩ := open_sl (cs := [s1]) Try.underlying29 (by kernel_rfl) (by omega) open_ride (by simpa [Value.cells, h1, h2] using hg 1 _ rfl)
      simp only [List.cons.injEq, and_true] at e1 e2
      subst e1 e2
      exact ⟨⟨l1, l2⟩, a1, a2, _, _, rfl, k1, k2⟩
set_option maxRecDepth 100000 in
theorem open_case {r : Go.Reach} {b0 : Nat} {v : Value} {d : DataW H} {q : List MemPlace} (hv : Value.okWide Try.prog w r b0 62 v) (h : DataW.Trod enc Try.prog w base spare held 62 v d q) :
    ∃ (c : Case) (l1 l2 l3 l4 : Option Addr) (e1 e2 e3 e4 : Nat), v = .agg #[.slice l1 c.late.length e1, .slice l2 c.absent.length e2, .slice l3 c.rides.length e3, .slice l4 c.broken.length e4] ∧ CaseU w.heap.size w l1 l2 l3 l4 c := by
  obtain ⟨cs, rfl, hsz⟩ := okWide_struct Try.underlying62 hv
  obtain ⟨l⟩ := cs
  have hC : Try.prog.cellsOf 62 = 4 := by kernel_rfl
  have h1 : Try.prog.cellsOf 59 = 1 := by kernel_rfl
  have h2 : Try.prog.cellsOf 60 = 1 := by kernel_rfl
  match l, hsz.trans hC with
  | [s0, s1, s2, s3], _ =>
    obtain ⟨fuel, hf⟩ := h
    obtain ⟨xs, n, _, _, _, hlen, hg⟩ := DataW.trod_struct Try.underlying62 hf
    match xs, hlen with
    | [y0, y1, y2, y3], _ =>
      obtain ⟨a1, c1, l1, e1, k1⟩ := open_sl (cs := [s0]) Try.underlying59 (by kernel_rfl) (by omega) open_int1 (by simpa [Value.cells, h1] using hg 0 _ rfl)
      obtain ⟨a2, c2, l2, e2, k2⟩ := open_sl (cs := [s1]) Try.underlying59 (by kernel_rfl) (by omega) open_int1 (by simpa [Value.cells, h1] using hg 1 _ rfl)
      obtain ⟨a3, c3, l3, e3, k3⟩ := open_sl (cs := [s2]) Try.underlying59 (by kernel_rfl) (by omega) open_int1 (by simpa [Value.cells, h1] using hg 2 _ rfl)
      obtain ⟨a4, c4, l4, e4, k4⟩ := open_sl (cs := [s3]) Try.underlying60 (by kernel_rfl) (by omega) open_bool1 (by simpa [Value.cells, h1, h2] using hg 3 _ rfl)
      simp only [List.cons.injEq, and_true] at e1 e2 e3 e4
      subst e1 e2 e3 e4
      exact ⟨⟨l1, l2, l3, l4⟩, a1, a2, a3, a4, _, _, _, _, rfl, k1, k2, k3, k4⟩
end
end Go.Proofs.Ytjoihijlcpnhoaa
