/- Rows, and the parts of a tide that is drawn. -/
import Derived.Test.YtfbmjecikilghaaWin
namespace Go.Proofs.Ytfbmjecikilghaa
open Go.RowKit

structure U3 where
  a : Int
  b : Int
  c : Int
def U3.ok (n : Int) (x : U3) : Prop := 0 ≤ x.a ∧ x.a < n ∧ 0 ≤ x.b ∧ x.b < n ∧ 0 ≤ x.c ∧ x.c < n
def U32E (w : World) (b o : Nat) (x : U3) : Prop := w.cell? ⟨b, o, none⟩ = some (.int .u32 x.a) ∧ w.cell? ⟨b, o + 1, none⟩ = some (.int .u32 x.b) ∧ w.cell? ⟨b, o + 2, none⟩ = some (.int .u32 x.c)
theorem ek_u32 (B : Nat) : EK B U32E := fun _ _ _ _ _ hB hb ⟨h0, h1, h2⟩ => ⟨ek_cell hB hb h0, ek_cell hB hb h1, ek_cell hB hb h2⟩

def partOf (x : U3) : Part := ⟨x.a % 500, 1000000 + x.b % 50000000, x.c % 3600⟩
def pcells (l : List Part) : List Value := l.flatMap fun p => [.int .i64 p.amp, .int .i64 p.period, .int .i64 p.phase]
theorem pcells_snoc (f : List Part) (p : Part) : pcells (f ++ [p]) = pcells f ++ [.int .i64 p.amp, .int .i64 p.period, .int .i64 p.phase] := by simp [pcells]
theorem partOf_good {x : U3} (h : x.ok 4294967296) : (partOf x).good := by
  obtain ⟨h0, h1, h2, h3, h4, h5⟩ := h
  unfold partOf Part.good
  simp only
  omega

theorem info56 : (Try.prog.info? 43).map (fun i => (i.zero, i.size, i.bytes)) = some (some (.agg #[.int .i64 0, .int .i64 0, .int .i64 0]), 3, 24) := by kernel_rfl
theorem row_form' {w : World} {base n size : Nat} {e : TypeId} {v : Value} {xs : List Value} (h : w.ownsRow base e size v n xs) (hn : 0 < n) : ∃ g cap, v = .slice (some ⟨g, 0, none⟩) n cap ∧ base ≤ g ∧ g < w.heap.size := by
  rcases h.2 with ⟨_, h0⟩ | ⟨g, cap, cur, hv, hb, hg, _⟩
  · omega
  · exact ⟨g, cap, hv, hb, lt_of_heap hg⟩
theorem row_mono {w : World} {base base' n size : Nat} {e : TypeId} {v : Value} {xs : List Value} (h : w.ownsRow base e size v n xs) (hb : base' ≤ base) : w.ownsRow base' e size v n xs := by
  obtain ⟨hr1, hr2⟩ := h
  refine ⟨hr1, ?_⟩
  rcases hr2 with h | ⟨g, cap, cur, h1, h2, h3⟩
  · exact .inl h
  · exact .inr ⟨g, cap, cur, h1, by omega, h3⟩
theorem row_len {w : World} {base n size : Nat} {e : TypeId} {v : Value} {xs : List Value} (h : w.ownsRow base e size v n xs) : ∃ a cap, v = .slice a n cap := by
  rcases h.2 with ⟨hv, h0⟩ | ⟨g, cap, cur, hv, _⟩
  · exact ⟨none, 0, by rw [hv, h0]⟩
  · exact ⟨_, cap, hv⟩

theorem news3 (w : World) (a b c : Value) : ∀ j u, [a, b, c][j]? = some u → (w.alloc (.cells #[a, b, c] 43)).cell? ((⟨w.heap.size, 0, none⟩ : Addr).add j) = some u := by
  intro j u hj
  have hca := cells_of (heap_alloc_at w (.cells #[a, b, c] 43))
  rcases j with _ | _ | _ | j
  · exact (hca 0).trans hj
  · exact (hca 1).trans hj
  · exact (hca 2).trans hj
  · simp at hj

end Go.Proofs.Ytfbmjecikilghaa
