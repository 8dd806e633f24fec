/- Rows that are owned, as slices that read as lists. -/
import Derived.Test.YtfbmjecikilghaaHeap
namespace Go.Proofs.Ytfbmjecikilghaa
open Go.RowKit

def SpanE (w : World) (b o : Nat) (u : Int × Int) : Prop := w.cell? ⟨b, o, none⟩ = some (.int .i64 u.1) ∧ w.cell? ⟨b, o + 1, none⟩ = some (.int .i64 u.2)
theorem ek_span (B : Nat) : EK B SpanE := fun _ _ _ _ _ hB hb ⟨h0, h1⟩ => ⟨ek_cell hB hb h0, ek_cell hB hb h1⟩
theorem pcells_get (l : List Part) (k : Nat) (h : k < l.length) : (pcells l)[k * 3]? = some (.int .i64 l[k].amp) ∧ (pcells l)[k * 3 + 1]? = some (.int .i64 l[k].period) ∧ (pcells l)[k * 3 + 2]? = some (.int .i64 l[k].phase) := by
  induction l generalizing k with
  | nil => simp at h
  | cons u l ih =>
    have hw : pcells (u :: l) = .int .i64 u.amp :: .int .i64 u.period :: .int .i64 u.phase :: pcells l := by simp [pcells]
    cases k with
    | zero => rw [hw]; exact ⟨rfl, rfl, rfl⟩
    | succ k =>
      have := ih k (by simpa using h)
      rw [hw, show (k + 1) * 3 = k * 3 + 1 + 1 + 1 from by omega]
      simpa using this

theorem sl_spans {w : World} {base : Nat} {v : Value} {ws : List (Int × Int)} (h : w.ownsRow base 46 2 v ws.length (wcells ws)) (hn : ws.length ≤ 1000) : ∃ a cap, v = .slice a ws.length cap ∧ Sl SpanE 2 w.heap.size w a ws := by
  by_cases h0 : ws.length = 0
  · obtain ⟨a, cap, hv⟩ := row_len h
    exact ⟨a, cap, hv, by omega, fun k hk => by omega⟩
  · obtain ⟨g, cap, hv, hb, hg⟩ := row_form' h (by omega)
    subst hv
    refine ⟨_, cap, rfl, by omega, fun k hk => ⟨g, 0, rfl, hg, ?_, ?_⟩⟩
    · have := (h.cellAt (k * 2) (by omega)).trans (wcells_get ws k hk).1
      simpa using this
    · have := (h.cellAt (k * 2 + 1) (by omega)).trans (wcells_get ws k hk).2
      simpa using this

theorem sl_parts {w : World} {base : Nat} {v : Value} {l : List Part} (h : w.ownsRow base 43 3 v l.length (pcells l)) (hn : l.length ≤ 1000) : ∃ a cap, v = .slice a l.length cap ∧ Sl PartE 3 w.heap.size w a l := by
  by_cases h0 : l.length = 0
  · obtain ⟨a, cap, hv⟩ := row_len h
    exact ⟨a, cap, hv, by omega, fun k hk => by omega⟩
  · obtain ⟨g, cap, hv, hb, hg⟩ := row_form' h (by omega)
    subst hv
    refine ⟨_, cap, rfl, by omega, fun k hk => ⟨g, 0, rfl, hg, ?_, ?_, ?_⟩⟩
    · have := (h.cellAt (k * 3) (by omega)).trans (pcells_get l k hk).1
      simpa using this
    · have := (h.cellAt (k * 3 + 1) (by omega)).trans (pcells_get l k hk).2.1
      simpa using this
    · have := (h.cellAt (k * 3 + 2) (by omega)).trans (pcells_get l k hk).2.2
      simpa using this

/-- The pieces, as numbers. -/
def cutV (step hi : Int) : Nat → Int → List (Int × Int)
  | 0, _ => []
  | f + 1, lo => if hi - lo ≤ step then [(lo, hi)] else (lo, lo + step) :: cutV step hi f (lo + step)
theorem cutR_val {step hi : Int} (hs : 1 ≤ step) : ∀ (f : Nat) (lo : Int) (xs : List Pc), CutR step hi lo xs → hi - lo ≤ (f : Int) * step → xs.map Subtype.val = cutV step hi (f + 1) lo
  | f, lo, [], h, _ => h.elim
  | f, lo, [x], h, hf => by
    rw [cutV, if_pos h.2]
    simp [h.1]
  | f, lo, x :: y :: r, h, hf => by
    obtain ⟨h1, h2, h3⟩ := h
    rw [cutV, if_neg (by omega)]
    cases f with
    | zero => simp at hf; omega
    | succ f =>
      have := cutR_val hs f (lo + step) (y :: r) h3 (by push_cast at hf; rw [Int.add_mul] at hf; omega)
      rw [List.map_cons, this, h1]

def winStepV (mean : Int) (l : List Part) (level : Int) (st : WinS) (x : Int × Int) : WinS :=
  if levHi mean l x.1 x.2 ≤ level then
    if st.low then ⟨true, setHi x.2 st.out⟩ else ⟨true, st.out ++ [x]⟩
  else ⟨false, st.out⟩
theorem win_val (mean : Int) (l : List Part) (level : Int) (xs : List Pc) : win mean l level xs = (xs.map Subtype.val).foldl (winStepV mean l level) ⟨false, []⟩ := by
  unfold win
  rw [List.foldl_map]
  rfl

/-- The windows of the chapter's tide. -/
theorem works_win (xs : List Pc) (h : CutR 600000 3600000 0 xs) : ∃ b, (win 10 [⟨100, 3600000, 0⟩, ⟨50, 7200000, 900⟩] 20 xs).out = [(1200000, b)] ∧ 1502000 ≤ b ∧ b ≤ 3600000 := by
  rw [win_val, cutR_val (by decide) 6 0 xs h (by decide)]
  refine ⟨2400000, ?_, by decide, by decide⟩
  decide +kernel
end Go.Proofs.Ytfbmjecikilghaa
