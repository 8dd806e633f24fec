/- A row of entries in memory, read as a list. -/
import Derived.Test.YtjoihijlcpnhoaaRowM
import Derived.Test.YtjoihijlcpnhoaaBegun
import Derived.Laws.OwnMore
import Derived.Maps.AppendAt
import Derived.Deep.AppendLies
namespace Go.Proofs.Ytjoihijlcpnhoaa
open Go.RowKit

def EntryE (w : World) (b o : Nat) (x : Entry) : Prop :=
  w.cell? ⟨b, o, none⟩ = some (.int .i64 x.step) ∧ w.cell? ⟨b, o + 1, none⟩ = some (.int .i64 x.kind) ∧ w.cell? ⟨b, o + 2, none⟩ = some (.int .i64 x.party) ∧ w.cell? ⟨b, o + 3, none⟩ = some (.int .i64 x.at_) ∧ w.cell? ⟨b, o + 4, none⟩ = some (.int .i64 x.people)
theorem ek_entry (B : Nat) : EK B EntryE := fun _ _ _ _ _ hB hb ⟨h0, h1, h2, h3, h4⟩ => ⟨ek_cell hB hb h0, ek_cell hB hb h1, ek_cell hB hb h2, ek_cell hB hb h3, ek_cell hB hb h4⟩

def enCells (e : Entry) : List Value := [.int .i64 e.step, .int .i64 e.kind, .int .i64 e.party, .int .i64 e.at_, .int .i64 e.people]
def logCells (l : List Entry) : List Value := l.flatMap enCells
theorem logCells_snoc (l : List Entry) (e : Entry) : logCells (l ++ [e]) = logCells l ++ enCells e := by simp [logCells]
theorem infoEn : (Try.prog.info? 69).map (fun i => (i.zero, i.size, i.bytes)) = some (some (.agg #[.int .i64 0, .int .i64 0, .int .i64 0, .int .i64 0, .int .i64 0]), 5, 40) := by kernel_rfl

theorem logCells_get : ∀ (l : List Entry) (i j : Nat) (e : Entry), l[i]? = some e → j < 5 → (logCells l)[i * 5 + j]? = (enCells e)[j]?
  | [], i, j, e, h, _ => by simp at h
  | x :: l, 0, j, e, h, hj => by
    obtain rfl : x = e := by simpa using h
    show (enCells x ++ logCells l)[0 * 5 + j]? = _
    rw [Nat.zero_mul, Nat.zero_add, List.getElem?_append_left (by simpa [enCells] using hj)]
  | x :: l, i + 1, j, e, h, hj => by
    have ih := logCells_get l i j e (by simpa using h) hj
    show (enCells x ++ logCells l)[(i + 1) * 5 + j]? = _
    rw [List.getElem?_append_right (by simp [enCells]; omega), ← ih]
    congr 1
    simp [enCells]
    omega

theorem log_sl {w : World} {B : Nat} {v : Value} {l : List Entry} (h : w.ownsRow B 69 5 v l.length (logCells l)) (hl : l.length ≤ 100000000) :
    ∃ a cap, v = .slice a l.length cap ∧ Sl EntryE 5 w.heap.size w a l := by
  by_cases h0 : l.length = 0
  · obtain ⟨a, cap, rfl⟩ := row_len h
    exact ⟨a, cap, rfl, by omega, fun k hk => by omega⟩
  · obtain ⟨g, cap, rfl, _, hg⟩ := h.form (by omega)
    refine ⟨some ⟨g, 0, none⟩, cap, rfl, by omega, fun k hk => ⟨g, 0, rfl, hg, ?_⟩⟩
    have c : ∀ j, j < 5 → w.cell? ⟨g, 0 + k * 5 + j, none⟩ = (enCells l[k])[j]? := fun j hj => by
      rw [Nat.zero_add]
      exact (h.cellAt (k * 5 + j) (by omega)).trans (logCells_get l k j _ (List.getElem?_eq_getElem hk) hj)
    exact ⟨c 0 (by omega), c 1 (by omega), c 2 (by omega), c 3 (by omega), c 4 (by omega)⟩

/-- What an append leaves below a bound is as it was. -/
theorem bl_grown {B : Nat} {w W W' : World} {row : Option Nat} (h : Below B w W) (hs : B ≤ W.heap.size) (hg : W.grownBy W' row) (hr : ∀ k, row = some k → B ≤ k) : Below B w W' :=
  ⟨hg.os.trans h.os, hg.tape.trans h.tape, hg.output.trans h.output, Nat.le_trans h.size hg.size, fun q hq => (hg.block q (by omega) (fun e => by have := hr q e.symm; omega)).trans (h.block q hq)⟩

end Go.Proofs.Ytjoihijlcpnhoaa
