/- TopEbb: the two grids in their boxes. -/
import Derived.Test.YtfbmjecikilghaaEbbL
import Derived.Test.YtfbmjecikilghaaTruth
import Derived.Laws.OwnMore
import Derived.Laws.CopyOwn
import Derived.Great.BuildSlice
namespace Go.Proofs.Ytfbmjecikilghaa
open Go.RowKit

/-- This block, whatever the world, reads as these spans. -/
def RowAt (g : Nat) (o : Obj) (l : List (Int × Int)) : Prop := ∀ W : World, W.heap[g]? = some o → Sl SpanE 2 (g + 1) W (some ⟨g, 0, none⟩) l
theorem rowAt_of {w : World} {g : Nat} {o : Obj} {l : List (Int × Int)} (hg : w.heap[g]? = some o) (h : Sl SpanE 2 w.heap.size w (some ⟨g, 0, none⟩) l) : RowAt g o l := by
  intro W hW
  refine ⟨h.1, fun k hk => ?_⟩
  obtain ⟨b, off, ha, hb, he⟩ := h.2 k hk
  simp only [Option.some.injEq, Addr.mk.injEq, and_true] at ha
  obtain ⟨rfl, rfl⟩ := ha
  refine ⟨g, 0, rfl, by omega, ?_⟩
  have e : W.heap[g]? = w.heap[g]? := hW.trans hg.symm
  unfold SpanE at he ⊢
  exact ⟨(World.cell?_of_block (a := ⟨g, _, none⟩) e).trans he.1, (World.cell?_of_block (a := ⟨g, _, none⟩) e).trans he.2⟩
theorem shore_row {w w' : World} {v : Value} {l : List (Int × Int)} {N : Nat} (hl : l.length = N) (h0 : 0 < N) (h1 : N ≤ 1000) (h : w'.ownsRow w.heap.size 46 2 v l.length (wcells l)) :
    ∃ g c o, v = .slice (some ⟨g, 0, none⟩) N c ∧ w.heap.size ≤ g ∧ w'.heap[g]? = some o ∧ RowAt g o l := by
  obtain ⟨a, cap, rfl, hS⟩ := sl_spans h (by omega)
  obtain ⟨g, cap', hv, hb, hg⟩ := row_form' h (by omega)
  simp only [Value.slice.injEq] at hv
  obtain ⟨rfl, _, rfl⟩ := hv
  obtain ⟨o, ho⟩ : ∃ o, w'.heap[g]? = some o := ⟨_, Array.getElem?_eq_getElem hg⟩
  rw [hl]
  exact ⟨g, cap, o, rfl, hb, ho, rowAt_of ho hS⟩

theorem known_row (B : Nat) (w : World) (s : ShoreL) (al am aw : Option Addr) (cl cm cw : Nat) (hs : s.ok) (hM : ShoreW B w s al am aw) (hB : B ≤ w.heap.size) (N : Nat) (hN : s.wd * s.ht = N) :
    Calls Try.prog 6 #[.agg #[.int .u8 s.wide, .int .u8 s.high, .slice al s.low.length cl, .slice am s.more.length cm, .slice aw s.where_.length cw]] w fun e w' => ∃ g c o, e = .returned (.agg #[.int .i64 s.wd, .int .i64 s.ht, .int .i64 500, .slice (some ⟨g, 0, none⟩) N c]) ∧ w.heap.size ≤ g ∧ w'.heap[g]? = some o ∧ RowAt g o s.known ∧ Below w.heap.size w w' := by
  obtain ⟨d1, d2, d3, d4⟩ := s.dims hs
  have hp : 0 < N := by rw [← hN]; exact Nat.mul_pos d1 d3
  have hq : N ≤ 16 := by rw [← hN]; exact Nat.mul_le_mul d2 d4
  refine Calls.mono (known_ok B w s al am aw cl cm cw hs hM hB) ?_
  rintro e w' ⟨v, rfl, hr, hb⟩
  obtain ⟨g, c, o, rfl, h1, h2, h3⟩ := shore_row (s.known_len.trans hN) hp (by omega) hr
  exact ⟨g, c, o, rfl, h1, h2, h3, hb⟩
theorem truth_row (B : Nat) (w : World) (s : ShoreL) (al am aw : Option Addr) (cl cm cw : Nat) (hs : s.ok) (hM : ShoreW B w s al am aw) (hB : B ≤ w.heap.size) (N : Nat) (hN : s.wd * s.ht = N) :
    Calls Try.prog 7 #[.agg #[.int .u8 s.wide, .int .u8 s.high, .slice al s.low.length cl, .slice am s.more.length cm, .slice aw s.where_.length cw]] w fun e w' => ∃ g c o, e = .returned (.agg #[.int .i64 s.wd, .int .i64 s.ht, .int .i64 500, .slice (some ⟨g, 0, none⟩) N c]) ∧ w.heap.size ≤ g ∧ w'.heap[g]? = some o ∧ RowAt g o s.truth ∧ Below w.heap.size w w' := by
  obtain ⟨d1, d2, d3, d4⟩ := s.dims hs
  have hp : 0 < N := by rw [← hN]; exact Nat.mul_pos d1 d3
  have hq : N ≤ 16 := by rw [← hN]; exact Nat.mul_le_mul d2 d4
  refine Calls.mono (truth_ok B w s al am aw cl cm cw hs hM hB) ?_
  rintro e w' ⟨v, rfl, hr, hb⟩
  obtain ⟨g, c, o, rfl, h1, h2, h3⟩ := shore_row (s.truth_len.trans hN) hp (by omega) hr
  exact ⟨g, c, o, rfl, h1, h2, h3, hb⟩

abbrev gridZ : Array Value := #[.int .i64 0, .int .i64 0, .int .i64 0, .slice none 0 0]
/-- Two boxes and two rows. -/
structure GS (wd W : World) (p q g3 g4 : Nat) (P Q : Array Value) (o3 o4 : Obj) : Prop where
  hp : W.heap[p]? = some (.cells P 36 (0, 0))
  hq : W.heap[q]? = some (.cells Q 36 (0, 0))
  hk : W.heap[g3]? = some o3
  ht : W.heap[g4]? = some o4
  pq : p ≠ q
  kp : g3 ≠ p
  kq : g3 ≠ q
  tp : g4 ≠ p
  tq : g4 ≠ q
  np : wd.heap.size ≤ p
  nq : wd.heap.size ≤ q
  below : Below wd.heap.size wd W
theorem GS.setP {wd W : World} {p q g3 g4 : Nat} {P P' Q : Array Value} {o3 o4 : Obj} (h : GS wd W p q g3 g4 P Q o3 o4) : GS wd (W.setRow p P') p q g3 g4 P' Q o3 o4 :=
  ⟨setRow_heap _ _ _ _ _ _ h.hp, (setRow_other _ _ _ _ h.pq.symm).trans h.hq, (setRow_other _ _ _ _ h.kp).trans h.hk, (setRow_other _ _ _ _ h.tp).trans h.ht, h.pq, h.kp, h.kq, h.tp, h.tq, h.np, h.nq, below_setRow h.below h.np _⟩
theorem GS.setQ {wd W : World} {p q g3 g4 : Nat} {P Q Q' : Array Value} {o3 o4 : Obj} (h : GS wd W p q g3 g4 P Q o3 o4) : GS wd (W.setRow q Q') p q g3 g4 P Q' o3 o4 :=
  ⟨(setRow_other _ _ _ _ h.pq).trans h.hp, setRow_heap _ _ _ _ _ _ h.hq, (setRow_other _ _ _ _ h.kq).trans h.hk, (setRow_other _ _ _ _ h.tq).trans h.ht, h.pq, h.kp, h.kq, h.tp, h.tq, h.np, h.nq, below_setRow h.below h.nq _⟩
abbrev gridV (s : ShoreL) (g N c : Nat) : Array Value := #[.int .i64 s.wd, .int .i64 s.ht, .int .i64 500, .slice (some ⟨g, 0, none⟩) N c]
def GridsB (s : ShoreL) (N : Nat) (wd : World) (v3 v4 : Value) (wx : World) : Prop :=
  ∃ p q g3 c3 g4 c4 o3 o4, v3 = .pointer (some ⟨p, 0, none⟩) ∧ v4 = .pointer (some ⟨q, 0, none⟩) ∧ RowAt g3 o3 s.known ∧ RowAt g4 o4 s.truth ∧ GS wd wx p q g3 g4 (gridV s g3 N c3) (gridV s g4 N c4) o3 o4
end Go.Proofs.Ytfbmjecikilghaa
namespace Go.Proofs.Ytfbmjecikilghaa
open Go.RowKit

/-- The input's box, and the two grids. -/
structure TB (w W : World) (bx P Q : Array Value) (p3 p4 g3 g4 : Nat) (o3 o4 : Obj) : Prop where
  box : W.heap[w.heap.size]? = some (.cells bx 32 (0, 0))
  hp : W.heap[p3]? = some (.cells P 36 (0, 0))
  hq : W.heap[p4]? = some (.cells Q 36 (0, 0))
  hk : W.heap[g3]? = some o3
  ht : W.heap[g4]? = some o4
  below : Below w.heap.size w W
theorem TB.step {w W W' : World} {bx P Q : Array Value} {p3 p4 g3 g4 : Nat} {o3 o4 : Obj} (h : TB w W bx P Q p3 p4 g3 g4 o3 o4) (hb : Below W.heap.size W W') : TB w W' bx P Q p3 p4 g3 g4 o3 o4 :=
  ⟨heap_below hb h.box, heap_below hb h.hp, heap_below hb h.hq, heap_below hb h.hk, heap_below hb h.ht, bl_step h.below hb⟩

/-- Between two parts of the tide. -/
def PartI (w1 : World) (mean : Int) (l : List U3) (i : Value) (wr : World) : Prop :=
  ∃ (k : Nat) (v : Value), k ≤ l.length ∧ i = .int .i64 k ∧ wr.heap[w1.heap.size]? = some (.cells #[.int .i64 mean, v] 40 (0, 0)) ∧
    wr.ownsRow (w1.heap.size + 1) 43 3 v k (pcells ((l.take k).map partOf)) ∧ Below w1.heap.size w1 wr ∧ w1.heap.size + 1 ≤ wr.heap.size

/-- The sea's cells. -/
def seaOf (N : Int) (l : List Int) : List Int := 0 :: l.map (· % N)
theorem seaOf_snoc (N : Int) (l : List Int) (k : Nat) (h : k < l.length) : seaOf N (l.take (k + 1)) = seaOf N (l.take k) ++ [l[k] % N] := by
  unfold seaOf
  rw [List.take_succ_eq_append_getElem h, List.map_append]
  rfl
def SeaJ (w2 : World) (N : Int) (l : List Int) (sl i : Value) (wr : World) : Prop :=
  ∃ (k : Nat) (v : Value), k ≤ l.length ∧ v = sl ∧ i = .int .i64 k ∧ wr.ownsRow w2.heap.size 3 1 v (k + 1) (ints (seaOf N (l.take k))) ∧ Below w2.heap.size w2 wr ∧ w2.heap.size + 1 ≤ wr.heap.size
theorem seaOf_bd {N : Int} (hN : 0 < N) (l : List Int) : ∀ c ∈ seaOf N l, 0 ≤ c ∧ c < N := by
  intro c hc
  simp only [seaOf, List.mem_cons, List.mem_map] at hc
  rcases hc with rfl | ⟨x, _, rfl⟩
  · omega
  · exact ⟨Int.emod_nonneg _ (by omega), Int.emod_lt_of_pos _ hN⟩

/-- Between two windows. -/
def TopI (lo hi : Int) (W0 : World) (tv i : Value) (n : Nat) (wr : World) : Prop :=
  ∃ (k : Nat) (top : Int), k ≤ n ∧ i = .int .i64 k ∧ tv = .int .i64 top ∧ lo ≤ top ∧ top ≤ hi ∧ Below W0.heap.size W0 wr
/-- An index, and nothing that was there is written. -/
def LoopB (n : Nat) (W0 : World) (i : Value) (wr : World) : Prop := ∃ k : Nat, k ≤ n ∧ i = .int .i64 k ∧ Below W0.heap.size W0 wr
end Go.Proofs.Ytfbmjecikilghaa
namespace Go.Proofs.Ytfbmjecikilghaa
open Go.RowKit

theorem Sl.mono {α : Type} {E : World → Nat → Nat → α → Prop} {sz B B' : Nat} {w : World} {a : Option Addr} {l : List α} (h : Sl E sz B w a l) (hB : B ≤ B') : Sl E sz B' w a l :=
  ⟨h.1, fun k hk => let ⟨b, off, ha, hb, he⟩ := h.2 k hk; ⟨b, off, ha, by omega, he⟩⟩

/-- The tide's model and the span of times, the sea's cells, beside the grids. -/
structure MB (w W : World) (bx P Q : Array Value) (p3 p4 g3 g4 : Nat) (o3 o4 : Obj) (p5 : Nat) (mean : Int) (pp : List Part) (ap : Option Addr) (np cp p11 : Nat) (lo hi : Int) (B : Nat) (sa : Option Addr) (sea : List Int) : Prop where
  tb : TB w W bx P Q p3 p4 g3 g4 o3 o4
  md : W.heap[p5]? = some (.cells #[.int .i64 mean, .slice ap np cp] 40 (0, 0))
  sp : W.heap[p11]? = some (.cells #[.int .i64 lo, .int .i64 hi] 46 (0, 0))
  mm : ModelM B W mean pp ap
  sea : Sl IntE 1 B W sa sea
  le : B ≤ W.heap.size
theorem MB.step {w W W' : World} {bx P Q : Array Value} {p3 p4 g3 g4 : Nat} {o3 o4 : Obj} {p5 : Nat} {mean : Int} {pp : List Part} {ap : Option Addr} {np cp p11 : Nat} {lo hi : Int} {B : Nat} {sa : Option Addr} {sea : List Int}
    (h : MB w W bx P Q p3 p4 g3 g4 o3 o4 p5 mean pp ap np cp p11 lo hi B sa sea) (hb : Below W.heap.size W W') : MB w W' bx P Q p3 p4 g3 g4 o3 o4 p5 mean pp ap np cp p11 lo hi B sa sea :=
  ⟨h.tb.step hb, heap_below hb h.md, heap_below hb h.sp, h.mm.below (hb.mono h.le), h.sea.below (ek_int B) (hb.mono h.le), Nat.le_trans h.le hb.size⟩

/-- A flood on a grid whose row is known by its block. -/
theorem flood_row {s : ShoreL} (hs : s.ok) {N : Nat} (hN : s.wd * s.ht = N) {gr : List (Int × Int)} (hgl : gr.length = N) (hok : ∀ u ∈ gr, gok u) {g : Nat} {o : Obj} (hR : RowAt g o gr) (k : Nat) {sea : List Int} {sa : Option Addr} (sc : Nat)
    (hsea : ∀ c ∈ sea, 0 ≤ c ∧ c < (N : Int)) (hne : 1 ≤ sea.length) (l0 l1 : Int) (h01 : l0 ≤ l1) (h0 : -20000 ≤ l0) (h1 : l1 ≤ 20000) (B : Nat) (W : World) (hg : W.heap[g]? = some o) (hB : B ≤ W.heap.size) (hS : Sl IntE 1 B W sa sea) :
    Calls Try.prog 10 #[.agg #[.int .i64 s.wd, .int .i64 s.ht, .int .i64 500, .slice (some ⟨g, 0, none⟩) N k], .slice sa sea.length sc, .agg #[.int .i64 l0, .int .i64 l1]] W fun e w' => ∃ lo hi a0 a1 c0 c1,
      e = .returned (.tuple #[.slice a0 N c0, .slice a1 N c1, .int .i64 0]) ∧ SillOk s.wd s.ht (sea.map Int.toNat) (loOf gr) lo ∧ SillOk s.wd s.ht (sea.map Int.toNat) (hiOf gr) hi ∧
      Sl BoolE 1 w'.heap.size w' a0 (sureOf l0 hi) ∧ Sl BoolE 1 w'.heap.size w' a1 (sureOf l1 lo) ∧ Below W.heap.size W w' := by
  obtain ⟨d1, d2, d3, d4⟩ := s.dims hs
  have hq : N ≤ 16 := by rw [← hN]; exact Nat.mul_le_mul d2 d4
  have hgl' := lt_of_heap hg
  have hM : SeaM W.heap.size W s.wd s.ht 500 gr (some ⟨g, 0, none⟩) sea sa :=
    ⟨⟨(hR W hg).mono (by omega), hok, by omega, by omega, by omega, by omega, by omega, by omega, by rw [hgl, ← hN]; exact_mod_cast rfl⟩, hS.mono hB, fun c hc => by have := hsea c hc; rw [hgl]; exact this, hne⟩
  have h := Flood_ok W.heap.size W s.wd s.ht 500 gr (some ⟨g, 0, none⟩) k sea sa sc l0 l1 hM (Nat.le_refl _) h01 h0 h1
  rw [hgl] at h
  refine Calls.mono h ?_
  rintro e w' ⟨a, m, lo, hi, rfl, hS1, hS2, hr1, hr2, hb⟩
  obtain ⟨a0, cs, rfl, q1⟩ := sl_bools hr1 (by rw [sureOf_len, hS2.len, hN]) (by omega)
  obtain ⟨am, cm, rfl, q2⟩ := sl_bools hr2 (by rw [sureOf_len, hS1.len, hN]) (by omega)
  exact ⟨lo, hi, a0, am, cs, cm, rfl, hS1, hS2, q1, q2, hb⟩

/-- An element of a row of truth values that says which cells lie below a level. -/
theorem bool_at {B : Nat} {w : World} {a : Option Addr} {l0 : Int} {hi : List Int} {N : Nat} (h : Sl BoolE 1 B w a (sureOf l0 hi)) (hl : hi.length = N) {c : Nat} (hc : c < N) :
    ∃ b off, a = some ⟨b, off, none⟩ ∧ b < B ∧ w.cell? ⟨b, off + c, none⟩ = some (.bool (decide (hi.getD c 0 < l0))) := by
  obtain ⟨b, off, ha, hb, he⟩ := h.2 c (by rw [sureOf_len, hl]; exact hc)
  rw [sureOf_at] at he
  unfold BoolE at he
  rw [Nat.mul_one] at he
  exact ⟨b, off, ha, hb, he⟩
theorem few_cut {step hi : Int} (hs : 1 ≤ step) : ∀ (xs : List Pc) (lo : Int), CutR step hi lo xs → lo ≤ hi → ((xs.length : Int) - 1) * step ≤ hi - lo
  | [], lo, h, _ => h.elim
  | [x], lo, h, h1 => by simp; omega
  | x :: y :: r, lo, h, h1 => by
    obtain ⟨h2, h3, h4⟩ := h
    have h5 : lo + step ≤ hi := by have := x.2; omega
    have := few_cut hs (y :: r) (lo + step) h4 h5
    have e : (((x :: y :: r).length : Nat) : Int) - 1 = (((y :: r).length : Nat) : Int) - 1 + 1 := by simp only [List.length_cons]; push_cast; omega
    rw [e, Int.add_mul]
    omega
theorem few_1000 {n : Nat} {st d : Int} (hs : 0 ≤ st) (hd : d ≤ 60 * (st + 1)) (h : ((n : Int) - 1) * (st + 1) ≤ d) : n ≤ 1000 := by
  refine Decidable.byContradiction fun hc => ?_
  have : (1000 : Int) * (st + 1) ≤ ((n : Int) - 1) * (st + 1) := Int.mul_le_mul_of_nonneg_right (by omega) (by omega)
  omega
theorem ModelM.mono {B B' : Nat} {w : World} {mean : Int} {l : List Part} {a : Option Addr} (h : ModelM B w mean l a) (hB : B ≤ B') : ModelM B' w mean l a := ⟨h.parts.mono hB, h.good, h.few, h.lo, h.hi⟩
end Go.Proofs.Ytfbmjecikilghaa
