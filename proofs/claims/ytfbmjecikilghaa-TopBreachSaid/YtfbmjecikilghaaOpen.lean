/- The argument of TopEbb opened to its cells: slices of integers, and of arrays of three integers. -/
import Derived.Test.YtfbmjecikilghaaTruth
import Derived.OpenShut
import Derived.ProofKit
import Derived.Deep.Slices
import Derived.Deep.Fields
namespace Go.Proofs.Ytfbmjecikilghaa
open Go.ChangeShapes Go.WideShapes Go.ChangeAt Go.RowKit Go.Deep

section
variable {H : Type} {enc : TypeId × Value → H} {P : Program} {w : World} {base : Nat} {spare : Nat → Bool} {held : Bool}

def numAt (w : World) (a : Addr) : Int := match w.cell? a with
  | some (.int _ n) => n
  | _ => 0
theorem numAt_eq {w : World} {a : Addr} {k : IntKind} {n : Int} (h : w.cell? a = some (.int k n)) : numAt w a = n := by simp [numAt, h]
def triple (w : World) (a : Addr) (i : Nat) : U3 := ⟨numAt w (a.add (i * 3)), numAt w (a.add (i * 3 + 1)), numAt w (a.add (i * 3 + 2))⟩

theorem add_none (b off n : Nat) : Addr.add ⟨b, off, none⟩ n = ⟨b, off + n, none⟩ := by
  unfold Addr.add
  split
  · next h => subst h; rfl
  · rfl
theorem block_lt {w : World} {b o : Nat} {v : Value} (h : w.cell? ⟨b, o, none⟩ = some v) : b < w.heap.size := by
  by_cases hlt : b < w.heap.size
  · exact hlt
  · simp [World.cell?, hlt] at h

theorem open_arr3 {e i : TypeId} {k : IntKind} {fuel : Nat} {cs : List Value} {x : DataW H × List MemPlace} (he : P.underlying e = some (.array 3 i)) (hi : P.underlying i = some (.int k)) (hc : P.cellsOf i = 1) (hc3 : P.cellsOf e = 3)
    (h : DataW.trod enc P w base spare held fuel e cs = some x) :
    ∃ n0 n1 n2, cs = [.int k n0, .int k n1, .int k n2] ∧ (Lit.int k n0).wf = true ∧ (Lit.int k n1).wf = true ∧ (Lit.int k n2).wf = true := by
  obtain ⟨xs, m, _, _, hl, hxl, hat⟩ := DataW.trod_array he h
  rw [hc3] at hl
  match cs, hl with
  | [c0, c1, c2], _ =>
    match xs, hxl with
    | [y0, y1, y2], _ =>
      have g0 := hat 0 (by omega)
      have g1 := hat 1 (by omega)
      have g2 := hat 2 (by omega)
      simp [hc] at g0 g1 g2
      obtain ⟨n0, e0, _, w0⟩ := DataW.trod_int hi g0
      obtain ⟨n1, e1, _, w1⟩ := DataW.trod_int hi g1
      obtain ⟨n2, e2, _, w2⟩ := DataW.trod_int hi g2
      simp only [List.cons.injEq, and_true] at e0 e1 e2
      subst e0 e1 e2
      exact ⟨n0, n1, n2, rfl, w0, w1, w2⟩

theorem open_slice3 {t e i : TypeId} {k : IntKind} {fuel : Nat} {cs : List Value} {x : DataW H × List MemPlace} (hs : P.underlying t = some (.slice e)) (he : P.underlying e = some (.array 3 i)) (hi : P.underlying i = some (.int k)) (hc : P.cellsOf i = 1) (hc3 : P.cellsOf e = 3)
    (h : DataW.trod enc P w base spare held fuel t cs = some x) :
    ∃ (a : Option Addr) (cap : Nat) (l : List U3), cs = [.slice a l.length cap] ∧ l.length ≤ 9223372036854775807 ∧
      (∀ j (hj : j < l.length), ∃ b off, a = some ⟨b, off, none⟩ ∧ b < w.heap.size ∧ w.cell? ⟨b, off + j * 3, none⟩ = some (.int k l[j].a) ∧ w.cell? ⟨b, off + j * 3 + 1, none⟩ = some (.int k l[j].b) ∧ w.cell? ⟨b, off + j * 3 + 2, none⟩ = some (.int k l[j].c)) ∧
      ∀ x ∈ l, (Lit.int k x.a).wf = true ∧ (Lit.int k x.b).wf = true ∧ (Lit.int k x.c).wf = true := by
  rcases open_slice hs h with ⟨hcs, _⟩ | ⟨a, len, cap, m, n, D, Pl, hcs, hb, hl, hm, hmm, hx, hel⟩
  · exact ⟨none, 0, [], hcs, by simp, (fun j hj => by simp at hj), by simp⟩
  · have hlm : len ≤ m := by rw [hmm]; split <;> omega
    have key : ∀ j, j < len → w.cell? (a.add (j * 3)) = some (.int k (triple w a j).a) ∧ w.cell? (a.add (j * 3 + 1)) = some (.int k (triple w a j).b) ∧ w.cell? (a.add (j * 3 + 2)) = some (.int k (triple w a j).c) ∧
        (Lit.int k (triple w a j).a).wf = true ∧ (Lit.int k (triple w a j).b).wf = true ∧ (Lit.int k (triple w a j).c).wf = true := by
      intro j hj
      obtain ⟨cs', hcells, ht⟩ := hel j (by omega)
      rw [hc3] at hcells
      obtain ⟨n0, n1, n2, rfl, w0, w1, w2⟩ := open_arr3 he hi hc hc3 ht
      obtain ⟨_, _, hat⟩ := World.cells?_some hcells
      have g0 := hat 0 (by omega)
      have g1 := hat 1 (by omega)
      have g2 := hat 2 (by omega)
      rw [Go.Deep.add_add] at g0 g1 g2
      simp at g0 g1 g2
      have t0 : (triple w a j).a = n0 := numAt_eq g0
      have t1 : (triple w a j).b = n1 := numAt_eq g1
      have t2 : (triple w a j).c = n2 := numAt_eq g2
      rw [t0, t1, t2]
      exact ⟨g0, g1, g2, w0, w1, w2⟩
    refine ⟨some a, cap, (List.range len).map (triple w a), by simpa using hcs, by simp [maxLen] at hm ⊢; omega, fun j hj => ?_, fun x hx => ?_⟩
    · have hj' : j < len := by simpa using hj
      obtain ⟨b, off, spot⟩ := a
      have hspot : spot = none := by
        obtain ⟨z0, _⟩ := key 0 (by omega)
        simpa [Addr.add] using World.cell?_spot z0
      subst hspot
      obtain ⟨k0, k1, k2, _⟩ := key j hj'
      rw [add_none] at k0 k1 k2
      simp only [List.getElem_map, List.getElem_range]
      exact ⟨b, off, rfl, block_lt k0, k0, by simpa [Nat.add_assoc] using k1, by simpa [Nat.add_assoc] using k2⟩
    · obtain ⟨j, hj, rfl⟩ := List.mem_map.1 hx
      obtain ⟨_, _, _, w0, w1, w2⟩ := key j (by simpa using hj)
      exact ⟨w0, w1, w2⟩

theorem open_slice1 {t e : TypeId} {k : IntKind} {fuel : Nat} {cs : List Value} {x : DataW H × List MemPlace} (hs : P.underlying t = some (.slice e)) (he : P.underlying e = some (.int k)) (hc : P.cellsOf e = 1)
    (h : DataW.trod enc P w base spare held fuel t cs = some x) :
    ∃ (a : Option Addr) (cap : Nat) (l : List Int), cs = [.slice a l.length cap] ∧ SlW k w.heap.size w a l ∧ ∀ x ∈ l, (Lit.int k x).wf = true := by
  rcases open_slice hs h with ⟨hcs, _⟩ | ⟨a, len, cap, m, n, D, Pl, hcs, hb, hl, hm, hmm, hx, hel⟩
  · exact ⟨none, 0, [], hcs, ⟨by simp, fun j hj => by simp at hj⟩, by simp⟩
  · have hlm : len ≤ m := by rw [hmm]; split <;> omega
    have key : ∀ j, j < len → w.cell? (a.add j) = some (.int k (numAt w (a.add j))) ∧ (Lit.int k (numAt w (a.add j))).wf = true := by
      intro j hj
      obtain ⟨cs', hcells, ht⟩ := hel j (by omega)
      rw [hc] at hcells
      obtain ⟨n0, rfl, _, w0⟩ := DataW.trod_int he ht
      obtain ⟨_, _, hat⟩ := World.cells?_some hcells
      have g0 := hat 0 (by omega)
      rw [Go.Deep.add_add] at g0
      simp at g0
      rw [numAt_eq g0]
      exact ⟨g0, w0⟩
    refine ⟨some a, cap, (List.range len).map (fun j => numAt w (a.add j)), by simpa using hcs, ⟨by simp [maxLen] at hm ⊢; omega, fun j hj => ?_⟩, fun x hx => ?_⟩
    · have hj' : j < len := by simpa using hj
      obtain ⟨b, off, spot⟩ := a
      have hspot : spot = none := by
        obtain ⟨z0, _⟩ := key 0 (by omega)
        simpa [Addr.add] using World.cell?_spot z0
      subst hspot
      obtain ⟨k0, _⟩ := key j hj'
      rw [add_none] at k0
      simp only [List.getElem_map, List.getElem_range]
      refine ⟨b, off, rfl, block_lt k0, ?_⟩
      unfold KE
      rw [add_none]
      exact k0
    · obtain ⟨j, hj, rfl⟩ := List.mem_map.1 hx
      exact (key j (by simpa using hj)).2
end
end Go.Proofs.Ytfbmjecikilghaa
