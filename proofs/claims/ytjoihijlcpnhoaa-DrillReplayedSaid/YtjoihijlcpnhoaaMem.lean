/- How the plain data lie in memory. -/
import Derived.Test.YtjoihijlcpnhoaaProg
import Derived.Test.YtjoihijlcpnhoaaDataC
import Derived.WalkKit
import Derived.BigQuiet
import Derived.Deep.QuietTactic
import Derived.Lib.Hide
namespace Go.Proofs.Ytjoihijlcpnhoaa
open Go.RowKit

theorem bcell {W w1 : World} (hb : Below W.heap.size W w1) : (∀ b o, b < W.heap.size → w1.cell? ⟨b, o, none⟩ = W.cell? ⟨b, o, none⟩) ∧ (∀ b o, b < W.heap.size → w1.frozen? ⟨b, o, none⟩ = W.frozen? ⟨b, o, none⟩) :=
  ⟨fun b o h => hb.cell (p := ⟨b, o, none⟩) h, fun b o h => hb.frozen (p := ⟨b, o, none⟩) h⟩

theorem bk {W w1 : World} (b : Nat) (hb : Below W.heap.size W w1) (h : b < W.heap.size) : (∀ o, w1.cell? ⟨b, o, none⟩ = W.cell? ⟨b, o, none⟩) ∧ (∀ o, w1.frozen? ⟨b, o, none⟩ = W.frozen? ⟨b, o, none⟩) ∧ b < w1.heap.size :=
  ⟨fun o => hb.cell (p := ⟨b, o, none⟩) h, fun o => hb.frozen (p := ⟨b, o, none⟩) h, Nat.lt_of_lt_of_le h hb.size⟩
theorem bsz {B : Nat} {W w1 : World} (hb : Below B W w1) : W.heap.size ≤ w1.heap.size := hb.size
theorem bl_alloc {w W : World} (h : Below w.heap.size w W) (o : Obj) : Below w.heap.size w (W.alloc o) := h.alloc h.size o
theorem bl_step {w W w' : World} (h : Below w.heap.size w W) (k : Below W.heap.size W w') : Below w.heap.size w w' := h.trans (k.mono h.size)
theorem bl_drew {w W : World} (h : Below w.heap.size w W) : Below w.heap.size w W.drew := h.drew
theorem bl_drewN {w W : World} (h : Below w.heap.size w W) (n : Nat) : Below w.heap.size w (W.drewN n) := ⟨h.os, h.tape, h.output, h.size, h.block⟩
theorem bl_setCell {w W : World} (h : Below w.heap.size w W) (p : Addr) (v : Value) (hp : w.heap.size ≤ p.block) : Below w.heap.size w (W.setCell p v) :=
  ⟨h.os, h.tape, h.output, by simpa [World.setCell] using h.size, fun k hk => (Below.heap_setCell _ _ _ _ (by omega)).trans (h.block k hk)⟩
theorem cells_of {w : World} {q : Nat} {c : Array Value} {e : TypeId} {f : Nat × Nat} (h : w.heap[q]? = some (.cells c e f)) : ∀ o, w.cell? ⟨q, o, none⟩ = c[o]? := fun o => by simp [World.cell?, h]
theorem frozen_of {w : World} {q : Nat} {c : Array Value} {e : TypeId} (h : w.heap[q]? = some (.cells c e (0, 0))) : ∀ o, w.frozen? ⟨q, o, none⟩ = false := fun o => by simp [World.frozen?, h]
theorem lt_of_heap {w : World} {q : Nat} {o : Obj} (h : w.heap[q]? = some o) : q < w.heap.size := (Array.getElem?_eq_some_iff.1 h).1
theorem lts {q n : Nat} (h : q < n) : q < n + 1 ∧ q < n + 1 + 1 ∧ q < n + 1 + 1 + 1 ∧ q < n + 1 + 1 + 1 + 1 ∧ q < n + 2 ∧ q < n + 3 ∧ q < n + 4 := by omega

/-- An integer cell. -/
def IntE (w : World) (b o : Nat) (n : Int) : Prop := w.cell? ⟨b, o, none⟩ = some (.int .i64 n)
def PlaceE (w : World) (b o : Nat) (p : Place) : Prop :=
  w.cell? ⟨b, o, none⟩ = some (.int .i64 p.room) ∧ w.cell? ⟨b, o + 1, none⟩ = some (.int .i64 p.door) ∧ w.cell? ⟨b, o + 2, none⟩ = some (.int .i64 p.till)
def WayE (w : World) (b o : Nat) (x : Way) : Prop :=
  w.cell? ⟨b, o, none⟩ = some (.int .i64 x.src) ∧ w.cell? ⟨b, o + 1, none⟩ = some (.int .i64 x.dst) ∧ w.cell? ⟨b, o + 2, none⟩ = some (.int .i64 x.s0) ∧ w.cell? ⟨b, o + 3, none⟩ = some (.int .i64 x.s1) ∧
  w.cell? ⟨b, o + 4, none⟩ = some (.int .i64 x.s2) ∧ w.cell? ⟨b, o + 5, none⟩ = some (.int .i64 x.room) ∧ w.cell? ⟨b, o + 6, none⟩ = some (.int .i64 x.cars) ∧ w.cell? ⟨b, o + 7, none⟩ = some (.int .i64 x.till)
def GroupE (w : World) (b o : Nat) (g : Group) : Prop :=
  w.cell? ⟨b, o, none⟩ = some (.int .i64 g.place) ∧ w.cell? ⟨b, o + 1, none⟩ = some (.int .i64 g.cls) ∧ w.cell? ⟨b, o + 2, none⟩ = some (.int .i64 g.count)
def VehicleE (w : World) (b o : Nat) (v : Vehicle) : Prop :=
  w.cell? ⟨b, o, none⟩ = some (.int .i64 v.place) ∧ w.cell? ⟨b, o + 1, none⟩ = some (.int .i64 v.seats)
def HopE (w : World) (b o : Nat) (h : Hop) : Prop :=
  w.cell? ⟨b, o, none⟩ = some (.int .i64 h.way) ∧ w.cell? ⟨b, o + 1, none⟩ = some (.int .i64 h.leave)
def BoardE (w : World) (b o : Nat) (x : Board) : Prop :=
  w.cell? ⟨b, o, none⟩ = some (.int .i64 x.hop) ∧ w.cell? ⟨b, o + 1, none⟩ = some (.int .i64 x.group) ∧ w.cell? ⟨b, o + 2, none⟩ = some (.int .i64 x.count)

/-- A slice that reads as a list; its elements lie below the block B. -/
def Sl {α : Type} (E : World → Nat → Nat → α → Prop) (sz B : Nat) (w : World) (a : Option Addr) (l : List α) : Prop :=
  l.length ≤ 140737488355328 ∧ ∀ k (h : k < l.length), ∃ b off, a = some ⟨b, off, none⟩ ∧ b < B ∧ E w b (off + k * sz) l[k]

def TripE (B : Nat) (w : World) (b o : Nat) (x : Trip) : Prop :=
  ∃ a c, w.cell? ⟨b, o, none⟩ = some (.int .i64 x.group) ∧ w.cell? ⟨b, o + 1, none⟩ = some (.int .i64 x.count) ∧ w.cell? ⟨b, o + 2, none⟩ = some (.slice a x.hops.length (x.hops.length + c)) ∧ w.cell? ⟨b, o + 3, none⟩ = some (.int .i64 x.enter) ∧
    Sl HopE 2 B w a x.hops
def RideE (B : Nat) (w : World) (b o : Nat) (x : Ride) : Prop :=
  ∃ a c a' c', w.cell? ⟨b, o, none⟩ = some (.int .i64 x.vehicle) ∧ w.cell? ⟨b, o + 1, none⟩ = some (.slice a x.hops.length (x.hops.length + c)) ∧ w.cell? ⟨b, o + 2, none⟩ = some (.slice a' x.boards.length c') ∧
    Sl HopE 2 B w a x.hops ∧ Sl BoardE 3 B w a' x.boards

/-- What is kept where the blocks below B are. -/
def EK {α : Type} (B : Nat) (E : World → Nat → Nat → α → Prop) : Prop := ∀ w w' b o x, Below B w w' → b < B → E w b o x → E w' b o x
theorem ek_cell {B : Nat} {w w' : World} {b o : Nat} {v : Value} (hB : Below B w w') (hb : b < B) (h : w.cell? ⟨b, o, none⟩ = some v) : w'.cell? ⟨b, o, none⟩ = some v :=
  (hB.cell (p := ⟨b, o, none⟩) hb).trans h
theorem ek_int (B : Nat) : EK B IntE := fun _ _ _ _ _ hB hb h => ek_cell hB hb h
theorem ek_place (B : Nat) : EK B PlaceE := fun _ _ _ _ _ hB hb ⟨h0, h1, h2⟩ => ⟨ek_cell hB hb h0, ek_cell hB hb h1, ek_cell hB hb h2⟩
theorem ek_way (B : Nat) : EK B WayE := fun _ _ _ _ _ hB hb ⟨h0, h1, h2, h3, h4, h5, h6, h7⟩ =>
  ⟨ek_cell hB hb h0, ek_cell hB hb h1, ek_cell hB hb h2, ek_cell hB hb h3, ek_cell hB hb h4, ek_cell hB hb h5, ek_cell hB hb h6, ek_cell hB hb h7⟩
theorem ek_group (B : Nat) : EK B GroupE := fun _ _ _ _ _ hB hb ⟨h0, h1, h2⟩ => ⟨ek_cell hB hb h0, ek_cell hB hb h1, ek_cell hB hb h2⟩
theorem ek_vehicle (B : Nat) : EK B VehicleE := fun _ _ _ _ _ hB hb ⟨h0, h1⟩ => ⟨ek_cell hB hb h0, ek_cell hB hb h1⟩
theorem ek_hop (B : Nat) : EK B HopE := fun _ _ _ _ _ hB hb ⟨h0, h1⟩ => ⟨ek_cell hB hb h0, ek_cell hB hb h1⟩
theorem ek_board (B : Nat) : EK B BoardE := fun _ _ _ _ _ hB hb ⟨h0, h1, h2⟩ => ⟨ek_cell hB hb h0, ek_cell hB hb h1, ek_cell hB hb h2⟩

theorem Sl.below {α : Type} {E : World → Nat → Nat → α → Prop} {sz B : Nat} {w w' : World} {a : Option Addr} {l : List α} (hE : EK B E) (h : Sl E sz B w a l) (hB : Below B w w') : Sl E sz B w' a l :=
  ⟨h.1, fun k hk => let ⟨b, off, ha, hb, he⟩ := h.2 k hk; ⟨b, off, ha, hb, hE _ _ _ _ _ hB hb he⟩⟩

theorem Sl.drew {α : Type} {E : World → Nat → Nat → α → Prop} {sz B : Nat} {w : World} {a : Option Addr} {l : List α} (hE : EK B E) (h : Sl E sz B w a l) : Sl E sz B w.drew a l := h.below hE (Below.refl _ _).drew

theorem Sl.at {α : Type} {E : World → Nat → Nat → α → Prop} {sz B : Nat} {w : World} {a : Option Addr} {l : List α} (h : Sl E sz B w a l) {i : Int} (h0 : 0 ≤ i) (h1 : i < (l.length : Int)) (z : α) :
    ∃ b off, a = some ⟨b, off, none⟩ ∧ b < B ∧ E w b (off + i.toNat * sz) (l.getD i.toNat z) := by
  have hk : i.toNat < l.length := by omega
  obtain ⟨b, off, ha, hb, he⟩ := h.2 i.toNat hk
  exact ⟨b, off, ha, hb, by rw [List.getD_eq_getElem?_getD, List.getElem?_eq_getElem hk]; exact he⟩

theorem ek_trip (B : Nat) : EK B (TripE B) := fun _ _ _ _ _ hB hb ⟨a, c, h0, h1, h2, h3, hs⟩ => ⟨a, c, ek_cell hB hb h0, ek_cell hB hb h1, ek_cell hB hb h2, ek_cell hB hb h3, hs.below (ek_hop B) hB⟩
theorem ek_ride (B : Nat) : EK B (RideE B) := fun _ _ _ _ _ hB hb ⟨a, c, a', c', h0, h1, h2, hs, hs'⟩ => ⟨a, c, a', c', ek_cell hB hb h0, ek_cell hB hb h1, ek_cell hB hb h2, hs.below (ek_hop B) hB, hs'.below (ek_board B) hB⟩

structure TownM (B : Nat) (w : World) (a1 a2 a3 a4 : Option Addr) (T : Town) : Prop where
  places : Sl PlaceE 3 B w a1 T.places
  ways : Sl WayE 8 B w a2 T.ways
  groups : Sl GroupE 3 B w a3 T.groups
  vehicles : Sl VehicleE 2 B w a4 T.vehicles

theorem TownM.below {B : Nat} {w w' : World} {a1 a2 a3 a4 : Option Addr} {T : Town} (h : TownM B w a1 a2 a3 a4 T) (hB : Below B w w') : TownM B w' a1 a2 a3 a4 T :=
  ⟨h.places.below (ek_place B) hB, h.ways.below (ek_way B) hB, h.groups.below (ek_group B) hB, h.vehicles.below (ek_vehicle B) hB⟩

structure PlanM (B : Nat) (w : World) (a1 a2 : Option Addr) (p : Plan) : Prop where
  trips : Sl (TripE B) 4 B w a1 p.trips
  rides : Sl (RideE B) 3 B w a2 p.rides

theorem PlanM.below {B : Nat} {w w' : World} {a1 a2 : Option Addr} {p : Plan} (h : PlanM B w a1 a2 p) (hB : Below B w w') : PlanM B w' a1 a2 p :=
  ⟨h.trips.below (ek_trip B) hB, h.rides.below (ek_ride B) hB⟩

end Go.Proofs.Ytjoihijlcpnhoaa
