/- Small words on memory: what lies below, slices that read as lists, blocks that are kept. -/
import Derived.Test.YtfbmjecikilghaaProg
import Derived.WalkKit
import Derived.BigQuiet
import Derived.Deep.QuietTactic
import Derived.Lib.Hide
namespace Go.Proofs.Ytfbmjecikilghaa
open Go.RowKit

theorem bcell {W w1 : World} (hb : Below W.heap.size W w1) : (∀ b o, b < W.heap.size → w1.cell? ⟨b, o, none⟩ = W.cell? ⟨b, o, none⟩) ∧ (∀ b o, b < W.heap.size → w1.frozen? ⟨b, o, none⟩ = W.frozen? ⟨b, o, none⟩) :=
  ⟨fun b o h => hb.cell (p := ⟨b, o, none⟩) h, fun b o h => hb.frozen (p := ⟨b, o, none⟩) h⟩

theorem bk {W w1 : World} (b : Nat) (hb : Below W.heap.size W w1) (h : b < W.heap.size) : (∀ o, w1.cell? ⟨b, o, none⟩ = W.cell? ⟨b, o, none⟩) ∧ (∀ o, w1.frozen? ⟨b, o, none⟩ = W.frozen? ⟨b, o, none⟩) ∧ b < w1.heap.size :=
  ⟨fun o => hb.cell (p := ⟨b, o, none⟩) h, fun o => hb.frozen (p := ⟨b, o, none⟩) h, Nat.lt_of_lt_of_le h hb.size⟩
theorem bsz {B : Nat} {W w1 : World} (hb : Below B W w1) : W.heap.size ≤ w1.heap.size := hb.size
theorem bl_alloc {w W : World} (h : Below w.heap.size w W) (o : Obj) : Below w.heap.size w (W.alloc o) := h.alloc h.size o
theorem bl_step {w W w' : World} (h : Below w.heap.size w W) (k : Below W.heap.size W w') : Below w.heap.size w w' := h.trans (k.mono h.size)
theorem bl_drew {w W : World} (h : Below w.heap.size w W) : Below w.heap.size w W.drew := h.drew
theorem bl_drewN {w W : World} (h : Below w.heap.size w W) (n : Nat) : Below w.heap.size w (W.drewN n) := ⟨h.os, h.tape, h.output, h.size, h.block⟩
theorem bl_setCell {w W : World} (h : Below w.heap.size w W) (p : Addr) (v : Value) (hp : w.heap.size ≤ p.block) : Below w.heap.size w (W.setCell p v) :=
  ⟨h.os, h.tape, h.output, by simpa [World.setCell] using h.size, fun k hk => (Below.heap_setCell _ _ _ _ (by omega)).trans (h.block k hk)⟩
theorem cells_of {w : World} {q : Nat} {c : Array Value} {e : TypeId} {f : Nat × Nat} (h : w.heap[q]? = some (.cells c e f)) : ∀ o, w.cell? ⟨q, o, none⟩ = c[o]? := fun o => by simp [World.cell?, h]
theorem frozen_of {w : World} {q : Nat} {c : Array Value} {e : TypeId} (h : w.heap[q]? = some (.cells c e (0, 0))) : ∀ o, w.frozen? ⟨q, o, none⟩ = false := fun o => by simp [World.frozen?, h]
theorem lt_of_heap {w : World} {q : Nat} {o : Obj} (h : w.heap[q]? = some o) : q < w.heap.size := (Array.getElem?_eq_some_iff.1 h).1
theorem lts {q n : Nat} (h : q < n) : q < n + 1 ∧ q < n + 1 + 1 ∧ q < n + 1 + 1 + 1 ∧ q < n + 1 + 1 + 1 + 1 ∧ q < n + 2 ∧ q < n + 3 ∧ q < n + 4 := by omega

/-- An integer cell. -/
def IntE (w : World) (b o : Nat) (n : Int) : Prop := w.cell? ⟨b, o, none⟩ = some (.int .i64 n)

/-- A slice that reads as a list; its elements lie below the block B. -/
def Sl {α : Type} (E : World → Nat → Nat → α → Prop) (sz B : Nat) (w : World) (a : Option Addr) (l : List α) : Prop :=
  l.length ≤ 140737488355328 ∧ ∀ k (h : k < l.length), ∃ b off, a = some ⟨b, off, none⟩ ∧ b < B ∧ E w b (off + k * sz) l[k]

/-- What is kept where the blocks below B are. -/
def EK {α : Type} (B : Nat) (E : World → Nat → Nat → α → Prop) : Prop := ∀ w w' b o x, Below B w w' → b < B → E w b o x → E w' b o x
theorem ek_cell {B : Nat} {w w' : World} {b o : Nat} {v : Value} (hB : Below B w w') (hb : b < B) (h : w.cell? ⟨b, o, none⟩ = some v) : w'.cell? ⟨b, o, none⟩ = some v :=
  (hB.cell (p := ⟨b, o, none⟩) hb).trans h
theorem ek_int (B : Nat) : EK B IntE := fun _ _ _ _ _ hB hb h => ek_cell hB hb h
theorem Sl.below {α : Type} {E : World → Nat → Nat → α → Prop} {sz B : Nat} {w w' : World} {a : Option Addr} {l : List α} (hE : EK B E) (h : Sl E sz B w a l) (hB : Below B w w') : Sl E sz B w' a l :=
  ⟨h.1, fun k hk => let ⟨b, off, ha, hb, he⟩ := h.2 k hk; ⟨b, off, ha, hb, hE _ _ _ _ _ hB hb he⟩⟩

theorem Sl.drew {α : Type} {E : World → Nat → Nat → α → Prop} {sz B : Nat} {w : World} {a : Option Addr} {l : List α} (hE : EK B E) (h : Sl E sz B w a l) : Sl E sz B w.drew a l := h.below hE (Below.refl _ _).drew

theorem Sl.at {α : Type} {E : World → Nat → Nat → α → Prop} {sz B : Nat} {w : World} {a : Option Addr} {l : List α} (h : Sl E sz B w a l) {i : Int} (h0 : 0 ≤ i) (h1 : i < (l.length : Int)) (z : α) :
    ∃ b off, a = some ⟨b, off, none⟩ ∧ b < B ∧ E w b (off + i.toNat * sz) (l.getD i.toNat z) := by
  have hk : i.toNat < l.length := by omega
  obtain ⟨b, off, ha, hb, he⟩ := h.2 i.toNat hk
  exact ⟨b, off, ha, hb, by rw [List.getD_eq_getElem?_getD, List.getElem?_eq_getElem hk]; exact he⟩

/-- Of the blocks that were there only those of the list S may have been written. -/
structure Keeps (S : List Nat) (w w' : World) : Prop where
  os : w'.os = w.os
  tape : w'.tape = w.tape
  output : w'.output = w.output
  size : w.heap.size ≤ w'.heap.size
  block : ∀ k, k < w.heap.size → ¬ k ∈ S → w'.heap[k]? = w.heap[k]?

theorem Keeps.refl (S : List Nat) (w : World) : Keeps S w w := ⟨rfl, rfl, rfl, Nat.le_refl _, fun _ _ _ => rfl⟩
theorem Keeps.trans {S : List Nat} {a b c : World} (h : Keeps S a b) (k : Keeps S b c) : Keeps S a c :=
  ⟨k.os.trans h.os, k.tape.trans h.tape, k.output.trans h.output, Nat.le_trans h.size k.size, fun i hi hs => (k.block i (Nat.lt_of_lt_of_le hi h.size) hs).trans (h.block i hi hs)⟩
/-- A later call may also write blocks that were not there at the beginning. -/
theorem Keeps.step {S S' : List Nat} {a b c : World} (h : Keeps S a b) (k : Keeps S' b c) (hS : ∀ i, i ∈ S' → i ∈ S ∨ a.heap.size ≤ i) : Keeps S a c :=
  ⟨k.os.trans h.os, k.tape.trans h.tape, k.output.trans h.output, Nat.le_trans h.size k.size, fun i hi hs => (k.block i (Nat.lt_of_lt_of_le hi h.size) (fun hm => by rcases hS i hm with h1 | h1; exact hs h1; omega)).trans (h.block i hi hs)⟩
theorem Keeps.mono {S S' : List Nat} {a b : World} (h : Keeps S a b) (hS : ∀ i, i ∈ S → i ∈ S') : Keeps S' a b :=
  ⟨h.os, h.tape, h.output, h.size, fun i hi hs => h.block i hi (fun hm => hs (hS i hm))⟩
theorem Keeps.of_below {w w' : World} (h : Below w.heap.size w w') (S : List Nat) : Keeps S w w' := ⟨h.os, h.tape, h.output, h.size, fun k hk _ => h.block k hk⟩
theorem Keeps.bl {w w' : World} (h : Keeps [] w w') : Below w.heap.size w w' := ⟨h.os, h.tape, h.output, h.size, fun k hk => h.block k hk (by simp)⟩
theorem Keeps.stepB {S : List Nat} {a b c : World} (h : Keeps S a b) (k : Below b.heap.size b c) : Keeps S a c := h.step (Keeps.of_below k []) (by simp)
theorem Keeps.alloc {S : List Nat} {a b : World} (h : Keeps S a b) (o : Obj) : Keeps S a (b.alloc o) := h.stepB ((Below.refl _ _).alloc (Nat.le_refl _) o)
theorem Keeps.drew {S : List Nat} {a b : World} (h : Keeps S a b) : Keeps S a b.drew := ⟨h.os, h.tape, h.output, h.size, h.block⟩
theorem Keeps.drewN {S : List Nat} {a b : World} (h : Keeps S a b) (n : Nat) : Keeps S a (b.drewN n) := ⟨h.os, h.tape, h.output, h.size, h.block⟩
theorem Keeps.setCell {S : List Nat} {a b : World} (h : Keeps S a b) (p : Addr) (v : Value) (hp : p.block ∈ S ∨ a.heap.size ≤ p.block) : Keeps S a (b.setCell p v) :=
  h.step (S' := [p.block]) ⟨rfl, rfl, rfl, by simp [World.setCell], fun k _ hk => Below.heap_setCell _ _ _ _ (by simpa using hk)⟩ (fun i hi => by
    have : i = p.block := by simpa using hi
    subst this; exact hp)
/-- Blocks below B are as they were, if none of S lies there. -/
theorem Keeps.below {S : List Nat} {a b : World} (h : Keeps S a b) {B : Nat} (hB : B ≤ a.heap.size) (hS : ∀ i, i ∈ S → B ≤ i) : Below B a b :=
  ⟨h.os, h.tape, h.output, h.size, fun k hk => h.block k (by omega) (fun hm => by have := hS k hm; omega)⟩
theorem Keeps.heap {S : List Nat} {a b : World} (h : Keeps S a b) {q : Nat} {o : Obj} (ho : a.heap[q]? = some o) (hq : ¬ q ∈ S) : b.heap[q]? = some o :=
  (h.block q (lt_of_heap ho) hq).trans ho
theorem Keeps.cell {S : List Nat} {a b : World} (h : Keeps S a b) (q : Nat) (hl : q < a.heap.size) (hq : ¬ q ∈ S) : ∀ o, b.cell? ⟨q, o, none⟩ = a.cell? ⟨q, o, none⟩ :=
  fun o => World.cell?_of_block (w := a) (a := ⟨q, o, none⟩) (h.block q hl hq)

theorem Keeps.frozen {S : List Nat} {a b : World} (h : Keeps S a b) (q : Nat) (hl : q < a.heap.size) (hq : ¬ q ∈ S) : ∀ o, b.frozen? ⟨q, o, none⟩ = a.frozen? ⟨q, o, none⟩ :=
  fun o => by simp only [World.frozen?, h.block q hl hq]

theorem heap_setCell_at {w : World} {q o : Nat} {c : Array Value} {e : TypeId} {f : Nat × Nat} (h : w.heap[q]? = some (.cells c e f)) (v : Value) :
    (w.setCell ⟨q, o, none⟩ v).heap[q]? = some (.cells (c.setIfInBounds o v) e f) := by
  simp [World.setCell, Array.getElem?_modify, h]
theorem heap_setCell_off {w : World} {q q' o : Nat} {x : Obj} (h : w.heap[q]? = some x) (v : Value) (hq : q' ≠ q) : (w.setCell ⟨q', o, none⟩ v).heap[q]? = some x := by
  rw [Below.heap_setCell _ _ _ _ (fun e => hq e.symm)]; exact h
theorem heap_alloc_at (w : World) (o : Obj) : (w.alloc o).heap[w.heap.size]? = some o := by
  show (w.heap.push o)[w.heap.size]? = _
  simp
theorem heap_alloc_off {w : World} {q : Nat} {x : Obj} (h : w.heap[q]? = some x) (o : Obj) : (w.alloc o).heap[q]? = some x := by
  rw [Below.heap_alloc _ _ _ (lt_of_heap h)]; exact h
theorem heap_drew {w : World} : w.drew.heap = w.heap := rfl
theorem heap_alloc_at' (w : World) (o : Obj) {n : Nat} (h : n = w.heap.size) : (w.alloc o).heap[n]? = some o := h ▸ heap_alloc_at w o
theorem heap_drew' {w : World} {q : Nat} {x : Option Obj} (h : w.heap[q]? = x) : w.drew.heap[q]? = x := h
theorem heap_drewN' {w : World} {q n : Nat} {x : Option Obj} (h : w.heap[q]? = x) : (w.drewN n).heap[q]? = x := h
theorem heap_below {w w' : World} (h : Below w.heap.size w w') {q : Nat} {o : Obj} (ho : w.heap[q]? = some o) : w'.heap[q]? = some o := (h.block q (lt_of_heap ho)).trans ho

end Go.Proofs.Ytfbmjecikilghaa
