/- TopEbb: what the loops keep. -/
import Derived.Test.YtfbmjecikilghaaTopA
namespace Go.Proofs.Ytfbmjecikilghaa
open Go.RowKit

/-- The input's box, and the two grids. -/
structure TB (w W : World) (bx P Q : Array Value) (p3 p4 g3 g4 : Nat) (o3 o4 : Obj) : Prop where
  box : W.heap[w.heap.size]? = some (.cells bx 32 (0, 0))
  hp : W.heap[p3]? = some (.cells P 36 (0, 0))
  hq : W.heap[p4]? = some (.cells Q 36 (0, 0))
  hk : W.heap[g3]? = some o3
  ht : W.heap[g4]? = some o4
  below : Below w.heap.size w W
theorem TB.step {w W W' : World} {bx P Q : Array Value} {p3 p4 g3 g4 : Nat} {o3 o4 : Obj} (h : TB w W bx P Q p3 p4 g3 g4 o3 o4) (hb : Below W.heap.size W W') : TB w W' bx P Q p3 p4 g3 g4 o3 o4 :=
  ⟨heap_below hb h.box, heap_below hb h.hp, heap_below hb h.hq, heap_below hb h.hk, heap_below hb h.ht, bl_step h.below hb⟩

/-- Between two parts of the tide. -/
def PartI (w1 : World) (mean : Int) (l : List U3) (i : Value) (wr : World) : Prop :=
  ∃ (k : Nat) (v : Value), k ≤ l.length ∧ i = .int .i64 k ∧ wr.heap[w1.heap.size]? = some (.cells #[.int .i64 mean, v] 40 (0, 0)) ∧
    wr.ownsRow (w1.heap.size + 1) 43 3 v k (pcells ((l.take k).map partOf)) ∧ Below w1.heap.size w1 wr ∧ w1.heap.size + 1 ≤ wr.heap.size

/-- The sea's cells. -/
def seaOf (N : Int) (l : List Int) : List Int := 0 :: l.map (· % N)
theorem seaOf_snoc (N : Int) (l : List Int) (k : Nat) (h : k < l.length) : seaOf N (l.take (k + 1)) = seaOf N (l.take k) ++ [l[k] % N] := by
  unfold seaOf
  rw [List.take_succ_eq_append_getElem h, List.map_append]
  rfl
def SeaJ (w2 : World) (N : Int) (l : List Int) (sl i : Value) (wr : World) : Prop :=
  ∃ (k : Nat) (v : Value), k ≤ l.length ∧ v = sl ∧ i = .int .i64 k ∧ wr.ownsRow w2.heap.size 3 1 v (k + 1) (ints (seaOf N (l.take k))) ∧ Below w2.heap.size w2 wr ∧ w2.heap.size + 1 ≤ wr.heap.size
theorem seaOf_bd {N : Int} (hN : 0 < N) (l : List Int) : ∀ c ∈ seaOf N l, 0 ≤ c ∧ c < N := by
  intro c hc
  simp only [seaOf, List.mem_cons, List.mem_map] at hc
  rcases hc with rfl | ⟨x, _, rfl⟩
  · omega
  · exact ⟨Int.emod_nonneg _ (by omega), Int.emod_lt_of_pos _ hN⟩

/-- Between two windows. -/
def TopI (lo hi : Int) (W0 : World) (tv i : Value) (n : Nat) (wr : World) : Prop :=
  ∃ (k : Nat) (top : Int), k ≤ n ∧ i = .int .i64 k ∧ tv = .int .i64 top ∧ lo ≤ top ∧ top ≤ hi ∧ Below W0.heap.size W0 wr
/-- An index, and nothing that was there is written. -/
def LoopB (n : Nat) (W0 : World) (i : Value) (wr : World) : Prop := ∃ k : Nat, k ≤ n ∧ i = .int .i64 k ∧ Below W0.heap.size W0 wr
end Go.Proofs.Ytfbmjecikilghaa
