/- What a call that writes certain blocks leaves as it was. -/
import Derived.Test.YtjoihijlcpnhoaaMem
import Derived.Maps.AppendAt
import Derived.Deep.AppendLies
import Derived.RangeFuncBox
namespace Go.Proofs.Ytjoihijlcpnhoaa
open Go.RowKit

/-- Of the blocks that were there only those of the list S may have been written. -/
structure Keeps (S : List Nat) (w w' : World) : Prop where
  os : w'.os = w.os
  tape : w'.tape = w.tape
  output : w'.output = w.output
  size : w.heap.size ≤ w'.heap.size
  block : ∀ k, k < w.heap.size → ¬ k ∈ S → w'.heap[k]? = w.heap[k]?

theorem Keeps.refl (S : List Nat) (w : World) : Keeps S w w := ⟨rfl, rfl, rfl, Nat.le_refl _, fun _ _ _ => rfl⟩
theorem Keeps.trans {S : List Nat} {a b c : World} (h : Keeps S a b) (k : Keeps S b c) : Keeps S a c :=
  ⟨k.os.trans h.os, k.tape.trans h.tape, k.output.trans h.output, Nat.le_trans h.size k.size, fun i hi hs => (k.block i (Nat.lt_of_lt_of_le hi h.size) hs).trans (h.block i hi hs)⟩
/-- A later call may also write blocks that were not there at the beginning. -/
theorem Keeps.step {S S' : List Nat} {a b c : World} (h : Keeps S a b) (k : Keeps S' b c) (hS : ∀ i, i ∈ S' → i ∈ S ∨ a.heap.size ≤ i) : Keeps S a c :=
  ⟨k.os.trans h.os, k.tape.trans h.tape, k.output.trans h.output, Nat.le_trans h.size k.size, fun i hi hs => (k.block i (Nat.lt_of_lt_of_le hi h.size) (fun hm => by rcases hS i hm with h1 | h1; exact hs h1; omega)).trans (h.block i hi hs)⟩
theorem Keeps.mono {S S' : List Nat} {a b : World} (h : Keeps S a b) (hS : ∀ i, i ∈ S → i ∈ S') : Keeps S' a b :=
  ⟨h.os, h.tape, h.output, h.size, fun i hi hs => h.block i hi (fun hm => hs (hS i hm))⟩
theorem Keeps.of_below {w w' : World} (h : Below w.heap.size w w') (S : List Nat) : Keeps S w w' := ⟨h.os, h.tape, h.output, h.size, fun k hk _ => h.block k hk⟩
theorem Keeps.bl {w w' : World} (h : Keeps [] w w') : Below w.heap.size w w' := ⟨h.os, h.tape, h.output, h.size, fun k hk => h.block k hk (by simp)⟩
theorem Keeps.stepB {S : List Nat} {a b c : World} (h : Keeps S a b) (k : Below b.heap.size b c) : Keeps S a c := h.step (Keeps.of_below k []) (by simp)
theorem Keeps.alloc {S : List Nat} {a b : World} (h : Keeps S a b) (o : Obj) : Keeps S a (b.alloc o) := h.stepB ((Below.refl _ _).alloc (Nat.le_refl _) o)
theorem Keeps.drew {S : List Nat} {a b : World} (h : Keeps S a b) : Keeps S a b.drew := ⟨h.os, h.tape, h.output, h.size, h.block⟩
theorem Keeps.drewN {S : List Nat} {a b : World} (h : Keeps S a b) (n : Nat) : Keeps S a (b.drewN n) := ⟨h.os, h.tape, h.output, h.size, h.block⟩
theorem Keeps.setCell {S : List Nat} {a b : World} (h : Keeps S a b) (p : Addr) (v : Value) (hp : p.block ∈ S ∨ a.heap.size ≤ p.block) : Keeps S a (b.setCell p v) :=
  h.step (S' := [p.block]) ⟨rfl, rfl, rfl, by simp [World.setCell], fun k _ hk => Below.heap_setCell _ _ _ _ (by simpa using hk)⟩ (fun i hi => by
    have : i = p.block := by simpa using hi
    subst this; exact hp)
/-- Blocks below B are as they were, if none of S lies there. -/
theorem Keeps.below {S : List Nat} {a b : World} (h : Keeps S a b) {B : Nat} (hB : B ≤ a.heap.size) (hS : ∀ i, i ∈ S → B ≤ i) : Below B a b :=
  ⟨h.os, h.tape, h.output, h.size, fun k hk => h.block k (by omega) (fun hm => by have := hS k hm; omega)⟩
theorem Keeps.heap {S : List Nat} {a b : World} (h : Keeps S a b) {q : Nat} {o : Obj} (ho : a.heap[q]? = some o) (hq : ¬ q ∈ S) : b.heap[q]? = some o :=
  (h.block q (lt_of_heap ho) hq).trans ho
theorem Keeps.cell {S : List Nat} {a b : World} (h : Keeps S a b) (q : Nat) (hl : q < a.heap.size) (hq : ¬ q ∈ S) : ∀ o, b.cell? ⟨q, o, none⟩ = a.cell? ⟨q, o, none⟩ :=
  fun o => World.cell?_of_block (w := a) (a := ⟨q, o, none⟩) (h.block q hl hq)

theorem heap_setCell_at {w : World} {q o : Nat} {c : Array Value} {e : TypeId} {f : Nat × Nat} (h : w.heap[q]? = some (.cells c e f)) (v : Value) :
    (w.setCell ⟨q, o, none⟩ v).heap[q]? = some (.cells (c.setIfInBounds o v) e f) := by
  simp [World.setCell, Array.getElem?_modify, h]
theorem heap_setCell_off {w : World} {q q' o : Nat} {x : Obj} (h : w.heap[q]? = some x) (v : Value) (hq : q' ≠ q) : (w.setCell ⟨q', o, none⟩ v).heap[q]? = some x := by
  rw [Below.heap_setCell _ _ _ _ (fun e => hq e.symm)]; exact h
theorem heap_alloc_at (w : World) (o : Obj) : (w.alloc o).heap[w.heap.size]? = some o := by
  show (w.heap.push o)[w.heap.size]? = _
  simp
theorem heap_alloc_off {w : World} {q : Nat} {x : Obj} (h : w.heap[q]? = some x) (o : Obj) : (w.alloc o).heap[q]? = some x := by
  rw [Below.heap_alloc _ _ _ (lt_of_heap h)]; exact h
theorem heap_drew {w : World} : w.drew.heap = w.heap := rfl
theorem heap_alloc_at' (w : World) (o : Obj) {n : Nat} (h : n = w.heap.size) : (w.alloc o).heap[n]? = some o := h ▸ heap_alloc_at w o
theorem heap_drew' {w : World} {q : Nat} {x : Option Obj} (h : w.heap[q]? = x) : w.drew.heap[q]? = x := h
theorem heap_drewN' {w : World} {q n : Nat} {x : Option Obj} (h : w.heap[q]? = x) : (w.drewN n).heap[q]? = x := h
theorem heap_below {w w' : World} (h : Below w.heap.size w w') {q : Nat} {o : Obj} (ho : w.heap[q]? = some o) : w'.heap[q]? = some o := (h.block q (lt_of_heap ho)).trans ho

/-- A block of one cell. -/
def Lone (w : World) (q : Nat) : Prop := ∃ x t f, w.heap[q]? = some (.cells #[x] t f)
/-- Blocks below B are as they were, but for those of one cell. -/
def BelowL (B : Nat) (w w' : World) : Prop := ∀ q, q < B → w'.heap[q]? = w.heap[q]? ∨ Lone w q
theorem Below.lone {B : Nat} {w w' : World} (h : Below B w w') : BelowL B w w' := fun q hq => .inl (h.block q hq)
/-- A block of which two cells are known is as it was. -/
theorem BelowL.two {B : Nat} {w w' : World} (h : BelowL B w w') {b o o' : Nat} (hb : b < B) (hne : o ≠ o') {v v' : Value} (h1 : w.cell? ⟨b, o, none⟩ = some v) (h2 : w.cell? ⟨b, o', none⟩ = some v') : ∀ i u, w.cell? ⟨b, i, none⟩ = some u → w'.cell? ⟨b, i, none⟩ = some u := by
  intro i u hu
  rcases h b hb with e | ⟨x, t, f, e⟩
  · exact (World.cell?_of_block (w := w) (a := ⟨b, i, none⟩) e).trans hu
  · exfalso
    have c : ∀ j, w.cell? ⟨b, j, none⟩ = (#[x] : Array Value)[j]? := fun j => by simp [World.cell?, e]
    rw [c] at h1 h2
    have l1 : o < 1 := by simpa using (Array.getElem?_eq_some_iff.1 h1).1
    have l2 : o' < 1 := by simpa using (Array.getElem?_eq_some_iff.1 h2).1
    omega
def EKL {α : Type} (B : Nat) (E : World → Nat → Nat → α → Prop) : Prop := ∀ w w' b o x, BelowL B w w' → b < B → E w b o x → E w' b o x
theorem ekl_place (B : Nat) : EKL B PlaceE := fun _ _ _ _ _ hB hb ⟨h0, h1, h2⟩ => let k := hB.two hb (by omega) h0 h1; ⟨k _ _ h0, k _ _ h1, k _ _ h2⟩
theorem ekl_way (B : Nat) : EKL B WayE := fun _ _ _ _ _ hB hb ⟨h0, h1, h2, h3, h4, h5, h6, h7⟩ => let k := hB.two hb (by omega) h0 h1; ⟨k _ _ h0, k _ _ h1, k _ _ h2, k _ _ h3, k _ _ h4, k _ _ h5, k _ _ h6, k _ _ h7⟩
theorem ekl_group (B : Nat) : EKL B GroupE := fun _ _ _ _ _ hB hb ⟨h0, h1, h2⟩ => let k := hB.two hb (by omega) h0 h1; ⟨k _ _ h0, k _ _ h1, k _ _ h2⟩
theorem ekl_vehicle (B : Nat) : EKL B VehicleE := fun _ _ _ _ _ hB hb ⟨h0, h1⟩ => let k := hB.two hb (by omega) h0 h1; ⟨k _ _ h0, k _ _ h1⟩
theorem ekl_hop (B : Nat) : EKL B HopE := fun _ _ _ _ _ hB hb ⟨h0, h1⟩ => let k := hB.two hb (by omega) h0 h1; ⟨k _ _ h0, k _ _ h1⟩
theorem ekl_board (B : Nat) : EKL B BoardE := fun _ _ _ _ _ hB hb ⟨h0, h1, h2⟩ => let k := hB.two hb (by omega) h0 h1; ⟨k _ _ h0, k _ _ h1, k _ _ h2⟩
theorem Sl.belowL {α : Type} {E : World → Nat → Nat → α → Prop} {sz B : Nat} {w w' : World} {a : Option Addr} {l : List α} (hE : EKL B E) (h : Sl E sz B w a l) (hB : BelowL B w w') : Sl E sz B w' a l :=
  ⟨h.1, fun k hk => let ⟨b, off, ha, hb, he⟩ := h.2 k hk; ⟨b, off, ha, hb, hE _ _ _ _ _ hB hb he⟩⟩
theorem ekl_trip (B : Nat) : EKL B (TripE B) := fun _ _ _ _ _ hB hb ⟨a, c, h0, h1, h2, h3, hs⟩ => let k := hB.two hb (by omega) h0 h1; ⟨a, c, k _ _ h0, k _ _ h1, k _ _ h2, k _ _ h3, hs.belowL (ekl_hop B) hB⟩
theorem ekl_ride (B : Nat) : EKL B (RideE B) := fun _ _ _ _ _ hB hb ⟨a, c, a', c', h0, h1, h2, hs, hs'⟩ => let k := hB.two hb (by omega) h0 h1; ⟨a, c, a', c', k _ _ h0, k _ _ h1, k _ _ h2, hs.belowL (ekl_hop B) hB, hs'.belowL (ekl_board B) hB⟩
theorem TownM.belowL {B : Nat} {w w' : World} {a1 a2 a3 a4 : Option Addr} {T : Town} (h : TownM B w a1 a2 a3 a4 T) (hB : BelowL B w w') : TownM B w' a1 a2 a3 a4 T :=
  ⟨h.places.belowL (ekl_place B) hB, h.ways.belowL (ekl_way B) hB, h.groups.belowL (ekl_group B) hB, h.vehicles.belowL (ekl_vehicle B) hB⟩
theorem PlanM.belowL {B : Nat} {w w' : World} {a1 a2 : Option Addr} {p : Plan} (h : PlanM B w a1 a2 p) (hB : BelowL B w w') : PlanM B w' a1 a2 p :=
  ⟨h.trips.belowL (ekl_trip B) hB, h.rides.belowL (ekl_ride B) hB⟩

end Go.Proofs.Ytjoihijlcpnhoaa
namespace Go.Proofs.Ytjoihijlcpnhoaa
open Go.RowKit

def wcells (ws : List (Int × Int)) : List Value := ws.flatMap fun u => [.int .i64 u.1, .int .i64 u.2]
theorem wcells_snoc (f : List (Int × Int)) (a b : Int) : wcells (f ++ [(a, b)]) = wcells f ++ [.int .i64 a, .int .i64 b] := by simp [wcells]
theorem wcells_length (f : List (Int × Int)) : (wcells f).length = f.length * 2 := by
  induction f with
  | nil => rfl
  | cons x f ih => simp [wcells] at ih ⊢; omega
theorem wcells_set : ∀ (l : List (Int × Int)) (k : Nat) (a b : Int), k < l.length → ((wcells l).set (k * 2) (.int .i64 a)).set (k * 2 + 1) (.int .i64 b) = wcells (l.set k (a, b))
  | [], k, a, b, h => by simp at h
  | u :: l, 0, a, b, _ => by simp [wcells]
  | u :: l, k + 1, a, b, h => by
    have := wcells_set l k a b (by simpa using h)
    have hw : ∀ (u : Int × Int) (l : List (Int × Int)), wcells (u :: l) = .int .i64 u.1 :: .int .i64 u.2 :: wcells l := fun u l => by simp [wcells]
    rw [List.set_cons_succ, hw, hw, ← this, show (k + 1) * 2 = k * 2 + 1 + 1 from by omega]
    rfl
theorem wcells_get (l : List (Int × Int)) (k : Nat) (h : k < l.length) : (wcells l)[k * 2]? = some (.int .i64 l[k].1) ∧ (wcells l)[k * 2 + 1]? = some (.int .i64 l[k].2) := by
  induction l generalizing k with
  | nil => simp at h
  | cons u l ih =>
    have hw : wcells (u :: l) = .int .i64 u.1 :: .int .i64 u.2 :: wcells l := by simp [wcells]
    cases k with
    | zero => rw [hw]; exact ⟨rfl, rfl⟩
    | succ k =>
      have := ih k (by simpa using h)
      rw [hw, show (k + 1) * 2 = k * 2 + 1 + 1 from by omega]
      simpa using this
theorem news2 (w : World) (a b : Value) (t : TypeId) : ∀ j u, [a, b][j]? = some u → (w.alloc (.cells #[a, b] t)).cell? ((⟨w.heap.size, 0, none⟩ : Addr).add j) = some u := by
  intro j u hj
  have hca := cells_of (heap_alloc_at w (.cells #[a, b] t))
  rcases j with _ | _ | j
  · exact (hca 0).trans hj
  · exact (hca 1).trans hj
  · simp at hj
theorem row_mono {w : World} {base base' n size : Nat} {e : TypeId} {v : Value} {xs : List Value} (h : w.ownsRow base e size v n xs) (hb : base' ≤ base) : w.ownsRow base' e size v n xs := by
  obtain ⟨hr1, hr2⟩ := h
  refine ⟨hr1, ?_⟩
  rcases hr2 with h | ⟨g, cap, cur, h1, h2, h3⟩
  · exact .inl h
  · exact .inr ⟨g, cap, cur, h1, by omega, h3⟩
theorem row_len {w : World} {base n size : Nat} {e : TypeId} {v : Value} {xs : List Value} (h : w.ownsRow base e size v n xs) : ∃ a cap, v = .slice a n cap := by
  rcases h.2 with ⟨hv, h0⟩ | ⟨g, cap, cur, hv, _⟩
  · exact ⟨none, 0, by rw [hv, h0]⟩
  · exact ⟨_, cap, hv⟩

/-- Only the block of the row itself counts. -/
theorem row_same {w w' : World} {base n size : Nat} {e : TypeId} {v : Value} {xs : List Value} (h : w.ownsRow base e size v n xs) (hs : ∀ g, v.ownBlock = some g → w'.heap[g]? = w.heap[g]?) : w'.ownsRow base e size v n xs := by
  refine ⟨h.1, ?_⟩
  rcases h.2 with ⟨rfl, h0⟩ | ⟨g, cap, cur, rfl, hb, hg, h3⟩
  · exact .inl ⟨rfl, h0⟩
  · exact .inr ⟨g, cap, cur, rfl, hb, (hs g rfl).trans hg, h3⟩
theorem row_keeps {S : List Nat} {w w' : World} {base n size : Nat} {e : TypeId} {v : Value} {xs : List Value} (h : w.ownsRow base e size v n xs) (hk : Keeps S w w') (hS : ∀ i, i ∈ S → i < base) : w'.ownsRow base e size v n xs :=
  row_same h fun g hg => hk.block g (h.lt g hg).2 (fun hm => by have := (h.lt g hg).1; have := hS g hm; omega)
theorem row_below {w w' : World} {base n size : Nat} {e : TypeId} {v : Value} {xs : List Value} (h : w.ownsRow base e size v n xs) (hk : Below w.heap.size w w') : w'.ownsRow base e size v n xs :=
  row_same h fun g hg => hk.block g (h.lt g hg).2

/-- A row that may be written, read as pairs. -/
structure PairRow (base : Nat) (e : TypeId) (W : World) (v : Value) (m : List (Int × Int)) : Prop where
  row : W.ownsRow base e 2 v m.length (wcells m)
theorem PairRow.at {base : Nat} {e : TypeId} {W : World} {v : Value} {m : List (Int × Int)} (h : PairRow base e W v m) (h0 : 0 < m.length) :
    ∃ g cap, v = .slice (some ⟨g, 0, none⟩) m.length cap ∧ base ≤ g ∧ g < W.heap.size ∧ ∀ k (hk : k < m.length), W.cell? ⟨g, k * 2, none⟩ = some (.int .i64 m[k].1) ∧ W.cell? ⟨g, k * 2 + 1, none⟩ = some (.int .i64 m[k].2) := by
  have hr := h.row
  obtain ⟨g, cap, rfl, hb, hlt⟩ := hr.form h0
  exact ⟨g, cap, rfl, hb, hlt, fun k hk => ⟨(hr.cellAt (k * 2) (by omega)).trans (wcells_get m k hk).1, (hr.cellAt (k * 2 + 1) (by omega)).trans (wcells_get m k hk).2⟩⟩
theorem PairRow.write {base : Nat} {e : TypeId} {W : World} {g cap : Nat} {m : List (Int × Int)} (h : PairRow base e W (.slice (some ⟨g, 0, none⟩) m.length cap) m) {k : Nat} (hk : k < m.length) (a b : Int) :
    PairRow base e ((W.setCell ⟨g, k * 2, none⟩ (.int .i64 a)).setCell ⟨g, k * 2 + 1, none⟩ (.int .i64 b)) (.slice (some ⟨g, 0, none⟩) m.length cap) (m.set k (a, b)) := by
  obtain ⟨s1, _⟩ := h.row.stored (k * 2) (.int .i64 a)
  obtain ⟨s2, _⟩ := s1.stored (k * 2 + 1) (.int .i64 b)
  rw [wcells_set m k a b hk] at s2
  exact ⟨by rw [List.length_set]; exact s2⟩
theorem PairRow.frozen {base : Nat} {e : TypeId} {W : World} {g cap n : Nat} {m : List (Int × Int)} (h : PairRow base e W (.slice (some ⟨g, 0, none⟩) n cap) m) : ∀ o, W.frozen? ⟨g, o, none⟩ = false := by
  intro o
  rcases h.row.2 with ⟨h1, _⟩ | ⟨g', cap', cur, h1, hb, hg, h3⟩
  · cases h1
  · simp only [Value.slice.injEq, Option.some.injEq, Addr.mk.injEq] at h1
    rw [h1.1.1]
    exact frozen_of hg o
theorem Keeps.grown {S : List Nat} {a b c : World} (h : Keeps S a b) {row : Option Nat} (hg : b.grownBy c row) (hr : ∀ r, row = some r → r ∈ S ∨ a.heap.size ≤ r) : Keeps S a c :=
  ⟨hg.os.trans h.os, hg.tape.trans h.tape, hg.output.trans h.output, Nat.le_trans h.size hg.size, fun k hk hS => (hg.block k (Nat.lt_of_lt_of_le hk h.size) (fun e => by
    rcases hr k e.symm with h1 | h1
    · exact hS h1
    · omega)).trans (h.block k hk hS)⟩
theorem below_of_grown {B : Nat} {a b c : World} (h : Below B a b) (hB : B ≤ b.heap.size) {row : Option Nat} (hg : b.grownBy c row) (hr : ∀ r, row = some r → B ≤ r) : Below B a c :=
  ⟨hg.os.trans h.os, hg.tape.trans h.tape, hg.output.trans h.output, Nat.le_trans h.size hg.size, fun k hk => (hg.block k (by omega) (fun e => by have := hr k e.symm; omega)).trans (h.block k hk)⟩

end Go.Proofs.Ytjoihijlcpnhoaa
