/- TopEbb: what is laid out ahead of the times; a flood on one of the two grids. -/
import Derived.Test.YtfbmjecikilghaaTopB
namespace Go.Proofs.Ytfbmjecikilghaa
open Go.RowKit

theorem Sl.mono {α : Type} {E : World → Nat → Nat → α → Prop} {sz B B' : Nat} {w : World} {a : Option Addr} {l : List α} (h : Sl E sz B w a l) (hB : B ≤ B') : Sl E sz B' w a l :=
  ⟨h.1, fun k hk => let ⟨b, off, ha, hb, he⟩ := h.2 k hk; ⟨b, off, ha, by omega, he⟩⟩

/-- The tide's model and the span of times, the sea's cells, beside the grids. -/
structure MB (w W : World) (bx P Q : Array Value) (p3 p4 g3 g4 : Nat) (o3 o4 : Obj) (p5 : Nat) (mean : Int) (pp : List Part) (ap : Option Addr) (np cp p11 : Nat) (lo hi : Int) (B : Nat) (sa : Option Addr) (sea : List Int) : Prop where
  tb : TB w W bx P Q p3 p4 g3 g4 o3 o4
  md : W.heap[p5]? = some (.cells #[.int .i64 mean, .slice ap np cp] 40 (0, 0))
  sp : W.heap[p11]? = some (.cells #[.int .i64 lo, .int .i64 hi] 46 (0, 0))
  mm : ModelM B W mean pp ap
  sea : Sl IntE 1 B W sa sea
  le : B ≤ W.heap.size
theorem MB.step {w W W' : World} {bx P Q : Array Value} {p3 p4 g3 g4 : Nat} {o3 o4 : Obj} {p5 : Nat} {mean : Int} {pp : List Part} {ap : Option Addr} {np cp p11 : Nat} {lo hi : Int} {B : Nat} {sa : Option Addr} {sea : List Int}
    (h : MB w W bx P Q p3 p4 g3 g4 o3 o4 p5 mean pp ap np cp p11 lo hi B sa sea) (hb : Below W.heap.size W W') : MB w W' bx P Q p3 p4 g3 g4 o3 o4 p5 mean pp ap np cp p11 lo hi B sa sea :=
  ⟨h.tb.step hb, heap_below hb h.md, heap_below hb h.sp, h.mm.below (hb.mono h.le), h.sea.below (ek_int B) (hb.mono h.le), Nat.le_trans h.le hb.size⟩

/-- A flood on a grid whose row is known by its block. -/
theorem flood_row {s : ShoreL} (hs : s.ok) {N : Nat} (hN : s.wd * s.ht = N) {gr : List (Int × Int)} (hgl : gr.length = N) (hok : ∀ u ∈ gr, gok u) {g : Nat} {o : Obj} (hR : RowAt g o gr) (k : Nat) {sea : List Int} {sa : Option Addr} (sc : Nat)
    (hsea : ∀ c ∈ sea, 0 ≤ c ∧ c < (N : Int)) (hne : 1 ≤ sea.length) (l0 l1 : Int) (h01 : l0 ≤ l1) (h0 : -20000 ≤ l0) (h1 : l1 ≤ 20000) (B : Nat) (W : World) (hg : W.heap[g]? = some o) (hB : B ≤ W.heap.size) (hS : Sl IntE 1 B W sa sea) :
    Calls Try.prog 10 #[.agg #[.int .i64 s.wd, .int .i64 s.ht, .int .i64 500, .slice (some ⟨g, 0, none⟩) N k], .slice sa sea.length sc, .agg #[.int .i64 l0, .int .i64 l1]] W fun e w' => ∃ lo hi a0 a1 c0 c1,
      e = .returned (.tuple #[.slice a0 N c0, .slice a1 N c1, .int .i64 0]) ∧ SillOk s.wd s.ht (sea.map Int.toNat) (loOf gr) lo ∧ SillOk s.wd s.ht (sea.map Int.toNat) (hiOf gr) hi ∧
      Sl BoolE 1 w'.heap.size w' a0 (sureOf l0 hi) ∧ Sl BoolE 1 w'.heap.size w' a1 (sureOf l1 lo) ∧ Below W.heap.size W w' := by
  obtain ⟨d1, d2, d3, d4⟩ := s.dims hs
  have hq : N ≤ 16 := by rw [← hN]; exact Nat.mul_le_mul d2 d4
  have hgl' := lt_of_heap hg
  have hM : SeaM W.heap.size W s.wd s.ht 500 gr (some ⟨g, 0, none⟩) sea sa :=
    ⟨⟨(hR W hg).mono (by omega), hok, by omega, by omega, by omega, by omega, by omega, by omega, by rw [hgl, ← hN]; exact_mod_cast rfl⟩, hS.mono hB, fun c hc => by have := hsea c hc; rw [hgl]; exact this, hne⟩
  have h := Flood_ok W.heap.size W s.wd s.ht 500 gr (some ⟨g, 0, none⟩) k sea sa sc l0 l1 hM (Nat.le_refl _) h01 h0 h1
  rw [hgl] at h
  refine Calls.mono h ?_
  rintro e w' ⟨a, m, lo, hi, rfl, hS1, hS2, hr1, hr2, hb⟩
  obtain ⟨a0, cs, rfl, q1⟩ := sl_bools hr1 (by rw [sureOf_len, hS2.len, hN]) (by omega)
  obtain ⟨am, cm, rfl, q2⟩ := sl_bools hr2 (by rw [sureOf_len, hS1.len, hN]) (by omega)
  exact ⟨lo, hi, a0, am, cs, cm, rfl, hS1, hS2, q1, q2, hb⟩

/-- An element of a row of truth values that says which cells lie below a level. -/
theorem bool_at {B : Nat} {w : World} {a : Option Addr} {l0 : Int} {hi : List Int} {N : Nat} (h : Sl BoolE 1 B w a (sureOf l0 hi)) (hl : hi.length = N) {c : Nat} (hc : c < N) :
    ∃ b off, a = some ⟨b, off, none⟩ ∧ b < B ∧ w.cell? ⟨b, off + c, none⟩ = some (.bool (decide (hi.getD c 0 < l0))) := by
  obtain ⟨b, off, ha, hb, he⟩ := h.2 c (by rw [sureOf_len, hl]; exact hc)
  rw [sureOf_at] at he
  unfold BoolE at he
  rw [Nat.mul_one] at he
  exact ⟨b, off, ha, hb, he⟩
theorem few_cut {step hi : Int} (hs : 1 ≤ step) : ∀ (xs : List Pc) (lo : Int), CutR step hi lo xs → lo ≤ hi → ((xs.length : Int) - 1) * step ≤ hi - lo
  | [], lo, h, _ => h.elim
  | [x], lo, h, h1 => by simp; omega
  | x :: y :: r, lo, h, h1 => by
    obtain ⟨h2, h3, h4⟩ := h
    have h5 : lo + step ≤ hi := by have := x.2; omega
    have := few_cut hs (y :: r) (lo + step) h4 h5
    have e : (((x :: y :: r).length : Nat) : Int) - 1 = (((y :: r).length : Nat) : Int) - 1 + 1 := by simp only [List.length_cons]; push_cast; omega
    rw [e, Int.add_mul]
    omega
theorem few_1000 {n : Nat} {st d : Int} (hs : 0 ≤ st) (hd : d ≤ 60 * (st + 1)) (h : ((n : Int) - 1) * (st + 1) ≤ d) : n ≤ 1000 := by
  refine Decidable.byContradiction fun hc => ?_
  have : (1000 : Int) * (st + 1) ≤ ((n : Int) - 1) * (st + 1) := Int.mul_le_mul_of_nonneg_right (by omega) (by omega)
  omega
theorem ModelM.mono {B B' : Nat} {w : World} {mean : Int} {l : List Part} {a : Option Addr} (h : ModelM B w mean l a) (hB : B ≤ B') : ModelM B' w mean l a := ⟨h.parts.mono hB, h.good, h.few, h.lo, h.hi⟩
end Go.Proofs.Ytfbmjecikilghaa
