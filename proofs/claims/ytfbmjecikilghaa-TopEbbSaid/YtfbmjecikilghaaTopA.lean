/- TopEbb: the two grids in their boxes. -/
import Derived.Test.YtfbmjecikilghaaEbbL
import Derived.Test.YtfbmjecikilghaaTruth
import Derived.Laws.OwnMore
import Derived.Laws.CopyOwn
import Derived.Great.BuildSlice
namespace Go.Proofs.Ytfbmjecikilghaa
open Go.RowKit

/-- This block, whatever the world, reads as these spans. -/
def RowAt (g : Nat) (o : Obj) (l : List (Int × Int)) : Prop := ∀ W : World, W.heap[g]? = some o → Sl SpanE 2 (g + 1) W (some ⟨g, 0, none⟩) l
theorem rowAt_of {w : World} {g : Nat} {o : Obj} {l : List (Int × Int)} (hg : w.heap[g]? = some o) (h : Sl SpanE 2 w.heap.size w (some ⟨g, 0, none⟩) l) : RowAt g o l := by
  intro W hW
  refine ⟨h.1, fun k hk => ?_⟩
  obtain ⟨b, off, ha, hb, he⟩ := h.2 k hk
  simp only [Option.some.injEq, Addr.mk.injEq, and_true] at ha
  obtain ⟨rfl, rfl⟩ := ha
  refine ⟨g, 0, rfl, by omega, ?_⟩
  have e : W.heap[g]? = w.heap[g]? := hW.trans hg.symm
  unfold SpanE at he ⊢
  exact ⟨(World.cell?_of_block (a := ⟨g, _, none⟩) e).trans he.1, (World.cell?_of_block (a := ⟨g, _, none⟩) e).trans he.2⟩
theorem shore_row {w w' : World} {v : Value} {l : List (Int × Int)} {N : Nat} (hl : l.length = N) (h0 : 0 < N) (h1 : N ≤ 1000) (h : w'.ownsRow w.heap.size 46 2 v l.length (wcells l)) :
    ∃ g c o, v = .slice (some ⟨g, 0, none⟩) N c ∧ w.heap.size ≤ g ∧ w'.heap[g]? = some o ∧ RowAt g o l := by
  obtain ⟨a, cap, rfl, hS⟩ := sl_spans h (by omega)
  obtain ⟨g, cap', hv, hb, hg⟩ := row_form' h (by omega)
  simp only [Value.slice.injEq] at hv
  obtain ⟨rfl, _, rfl⟩ := hv
  obtain ⟨o, ho⟩ : ∃ o, w'.heap[g]? = some o := ⟨_, Array.getElem?_eq_getElem hg⟩
  rw [hl]
  exact ⟨g, cap, o, rfl, hb, ho, rowAt_of ho hS⟩

theorem known_row (B : Nat) (w : World) (s : ShoreL) (al am aw : Option Addr) (cl cm cw : Nat) (hs : s.ok) (hM : ShoreW B w s al am aw) (hB : B ≤ w.heap.size) (N : Nat) (hN : s.wd * s.ht = N) :
    Calls Try.prog 6 #[.agg #[.int .u8 s.wide, .int .u8 s.high, .slice al s.low.length cl, .slice am s.more.length cm, .slice aw s.where_.length cw]] w fun e w' => ∃ g c o, e = .returned (.agg #[.int .i64 s.wd, .int .i64 s.ht, .int .i64 500, .slice (some ⟨g, 0, none⟩) N c]) ∧ w.heap.size ≤ g ∧ w'.heap[g]? = some o ∧ RowAt g o s.known ∧ Below w.heap.size w w' := by
  obtain ⟨d1, d2, d3, d4⟩ := s.dims hs
  have hp : 0 < N := by rw [← hN]; exact Nat.mul_pos d1 d3
  have hq : N ≤ 16 := by rw [← hN]; exact Nat.mul_le_mul d2 d4
  refine Calls.mono (known_ok B w s al am aw cl cm cw hs hM hB) ?_
  rintro e w' ⟨v, rfl, hr, hb⟩
  obtain ⟨g, c, o, rfl, h1, h2, h3⟩ := shore_row (s.known_len.trans hN) hp (by omega) hr
  exact ⟨g, c, o, rfl, h1, h2, h3, hb⟩
theorem truth_row (B : Nat) (w : World) (s : ShoreL) (al am aw : Option Addr) (cl cm cw : Nat) (hs : s.ok) (hM : ShoreW B w s al am aw) (hB : B ≤ w.heap.size) (N : Nat) (hN : s.wd * s.ht = N) :
    Calls Try.prog 7 #[.agg #[.int .u8 s.wide, .int .u8 s.high, .slice al s.low.length cl, .slice am s.more.length cm, .slice aw s.where_.length cw]] w fun e w' => ∃ g c o, e = .returned (.agg #[.int .i64 s.wd, .int .i64 s.ht, .int .i64 500, .slice (some ⟨g, 0, none⟩) N c]) ∧ w.heap.size ≤ g ∧ w'.heap[g]? = some o ∧ RowAt g o s.truth ∧ Below w.heap.size w w' := by
  obtain ⟨d1, d2, d3, d4⟩ := s.dims hs
  have hp : 0 < N := by rw [← hN]; exact Nat.mul_pos d1 d3
  have hq : N ≤ 16 := by rw [← hN]; exact Nat.mul_le_mul d2 d4
  refine Calls.mono (truth_ok B w s al am aw cl cm cw hs hM hB) ?_
  rintro e w' ⟨v, rfl, hr, hb⟩
  obtain ⟨g, c, o, rfl, h1, h2, h3⟩ := shore_row (s.truth_len.trans hN) hp (by omega) hr
  exact ⟨g, c, o, rfl, h1, h2, h3, hb⟩

abbrev gridZ : Array Value := #[.int .i64 0, .int .i64 0, .int .i64 0, .slice none 0 0]
/-- Two boxes and two rows. -/
structure GS (wd W : World) (p q g3 g4 : Nat) (P Q : Array Value) (o3 o4 : Obj) : Prop where
  hp : W.heap[p]? = some (.cells P 36 (0, 0))
  hq : W.heap[q]? = some (.cells Q 36 (0, 0))
  hk : W.heap[g3]? = some o3
  ht : W.heap[g4]? = some o4
  pq : p ≠ q
  kp : g3 ≠ p
  kq : g3 ≠ q
  tp : g4 ≠ p
  tq : g4 ≠ q
  np : wd.heap.size ≤ p
  nq : wd.heap.size ≤ q
  below : Below wd.heap.size wd W
theorem GS.setP {wd W : World} {p q g3 g4 : Nat} {P P' Q : Array Value} {o3 o4 : Obj} (h : GS wd W p q g3 g4 P Q o3 o4) : GS wd (W.setRow p P') p q g3 g4 P' Q o3 o4 :=
  ⟨setRow_heap _ _ _ _ _ _ h.hp, (setRow_other _ _ _ _ h.pq.symm).trans h.hq, (setRow_other _ _ _ _ h.kp).trans h.hk, (setRow_other _ _ _ _ h.tp).trans h.ht, h.pq, h.kp, h.kq, h.tp, h.tq, h.np, h.nq, below_setRow h.below h.np _⟩
theorem GS.setQ {wd W : World} {p q g3 g4 : Nat} {P Q Q' : Array Value} {o3 o4 : Obj} (h : GS wd W p q g3 g4 P Q o3 o4) : GS wd (W.setRow q Q') p q g3 g4 P Q' o3 o4 :=
  ⟨(setRow_other _ _ _ _ h.pq).trans h.hp, setRow_heap _ _ _ _ _ _ h.hq, (setRow_other _ _ _ _ h.kq).trans h.hk, (setRow_other _ _ _ _ h.tq).trans h.ht, h.pq, h.kp, h.kq, h.tp, h.tq, h.np, h.nq, below_setRow h.below h.nq _⟩
abbrev gridV (s : ShoreL) (g N c : Nat) : Array Value := #[.int .i64 s.wd, .int .i64 s.ht, .int .i64 500, .slice (some ⟨g, 0, none⟩) N c]
def GridsB (s : ShoreL) (N : Nat) (wd : World) (v3 v4 : Value) (wx : World) : Prop :=
  ∃ p q g3 c3 g4 c4 o3 o4, v3 = .pointer (some ⟨p, 0, none⟩) ∧ v4 = .pointer (some ⟨q, 0, none⟩) ∧ RowAt g3 o3 s.known ∧ RowAt g4 o4 s.truth ∧ GS wd wx p q g3 g4 (gridV s g3 N c3) (gridV s g4 N c4) o3 o4
end Go.Proofs.Ytfbmjecikilghaa
