/- dike: the checks of a section, and its walls. -/
import Derived.Test.YtfbmjecikilghaaA
import Derived.Test.YtfbmjecikilghaaSurC
import Derived.Test.YtfbmjecikilghaaCheckS
import Derived.Maps.AppendAt
import Derived.Test.YtfbmjecikilghaaTruth
namespace Go.Proofs.Ytfbmjecikilghaa
open Go.RowKit

set_option maxHeartbeats 2000000 in
set_option maxRecDepth 100000 in
theorem klevel_any (a b : Int) (w : World) :
    Calls Try.prog 30 #[.agg #[.int .i64 a, .int .i64 b]] w fun e w' => e = .returned (.bool (vldB a b (-20000) 20000)) ∧ Below w.heap.size w w' := by
  go_enter Try.func30, Try.ntmps30
  go_wp2_with fail
  refine (dvalid_any a b (-20000) 20000 _).mono ?_
  rintro x w1 ⟨rfl, hb1⟩
  have hb : Below w.heap.size w w1 := (by repeat (first | exact Below.refl _ _ | (refine bl_setCell ?_ _ _ ?_; rotate_left; focus (first | omega | (simp; done) | (simp; omega))) | refine bl_alloc ?_ _ | refine bl_step ?_ (by assumption) | refine bl_drew ?_ | refine bl_drewN ?_ _))
  go_wp2_with fail
  go_ret
  exact ⟨rfl, hb⟩

set_option maxHeartbeats 2000000 in
set_option maxRecDepth 100000 in
theorem hold1_any (a b : Int) (w : World) :
    Calls Try.prog 29 #[.agg #[.int .i64 a, .int .i64 b]] w fun e w' => e = .returned (.bool (!vldB a b (-20000) 20000)) ∧ Below w.heap.size w w' := by
  go_enter Try.func29, Try.ntmps29
  go_wp2_with fail
  refine (klevel_any a b _).mono ?_
  rintro x w1 ⟨rfl, hb1⟩
  have hb : Below w.heap.size w w1 := (by repeat (first | exact Below.refl _ _ | (refine bl_setCell ?_ _ _ ?_; rotate_left; focus (first | omega | (simp; done) | (simp; omega))) | refine bl_alloc ?_ _ | refine bl_step ?_ (by assumption) | refine bl_drew ?_ | refine bl_drewN ?_ _))
  go_wp2_with fail
  go_ret
  exact ⟨rfl, hb⟩

set_option maxHeartbeats 2000000 in
set_option maxRecDepth 100000 in
theorem fails_any (c s y : Int) (w : World) :
    Calls Try.prog 32 #[.agg #[.int .i64 c, .int .i64 s], .int .i64 y] w fun e w' => e = .returned (.bool (decide (min c s < y))) ∧ Below w.heap.size w w' := by
  go_enter Try.func32, Try.ntmps32
  go_wp2
  all_goals go_ret
  all_goals exact ⟨by first | rfl | (simp; omega), (by repeat (first | exact Below.refl _ _ | (refine bl_setCell ?_ _ _ ?_; rotate_left; focus (first | omega | (simp; done) | (simp; omega))) | refine bl_alloc ?_ _ | refine bl_step ?_ (by assumption) | refine bl_drew ?_ | refine bl_drewN ?_ _))⟩

set_option maxHeartbeats 2000000 in
set_option maxRecDepth 100000 in
theorem worn_any (c s y : Int) (hc : -1000000 ≤ c ∧ c ≤ 1000000) (hs : -1000000 ≤ s ∧ s ≤ 1000000) (hy : -1000000 ≤ y ∧ y ≤ 1000000) (w : World) :
    Calls Try.prog 33 #[.agg #[.int .i64 c, .int .i64 s], .int .i64 y] w fun e w' => e = .returned (.agg #[.int .i64 (c - y), .int .i64 (s - y)]) ∧ Below w.heap.size w w' := by
  obtain ⟨c0, c1⟩ := hc
  obtain ⟨s0, s1⟩ := hs
  obtain ⟨y0, y1⟩ := hy
  go_enter Try.func33, Try.ntmps33
  go_wp2
  ((try simp only [Exit.inBlock, Exit.then]); refine bodyPost_ret (v := .agg #[.int .i64 (c - y), .int .i64 (s - y)]) (by simp [results, Try.results33, go_sem, *]) rfl ?_)
  exact ⟨rfl, (by repeat (first | exact Below.refl _ _ | (refine bl_setCell ?_ _ _ ?_; rotate_left; focus (first | omega | (simp; done) | (simp; omega))) | refine bl_alloc ?_ _ | refine bl_step ?_ (by assumption) | refine bl_drew ?_ | refine bl_drewN ?_ _))⟩

set_option maxHeartbeats 2000000 in
set_option maxRecDepth 100000 in
theorem section_any (cell a b c d t e f : Int) (h1 : vldB a b (-20000) 20000 = true) (h2 : vldB c d (-20000) 20000 = true) (h3 : vldB t t (-20000) 20000 = true) (h4 : vldB e f 0 1000 = true) (w : World) :
    Calls Try.prog 27 #[.agg #[.int .i64 cell, .int .i64 a, .int .i64 b, .int .i64 c, .int .i64 d, .int .i64 t, .int .i64 e, .int .i64 f]] w fun x w' => x = .returned (.bool true) ∧ Below w.heap.size w w' := by
  have k1 := klevel_any a b
  have k2 := klevel_any c d
  have k3 := klevel_any t t
  have k4 := dvalid_any e f 0 1000
  rw [h1] at k1
  rw [h2] at k2
  rw [h3] at k3
  rw [h4] at k4
  go_enter Try.func27, Try.ntmps27
  go_wp2_with fail
  refine (k1 _).mono ?_
  rintro x w1 ⟨rfl, hb1⟩
  have y := heap_below hb1 (heap_alloc_at w (.cells #[.int .i64 cell, .int .i64 a, .int .i64 b, .int .i64 c, .int .i64 d, .int .i64 t, .int .i64 e, .int .i64 f] 71))
  have hbw : Below w.heap.size w w1 := (by repeat (first | exact Below.refl _ _ | (refine bl_setCell ?_ _ _ ?_; rotate_left; focus (first | omega | (simp; done) | (simp; omega))) | refine bl_alloc ?_ _ | refine bl_step ?_ (by assumption) | refine bl_drew ?_ | refine bl_drewN ?_ _))
  have yc := cells_of y
  have yl := lt_of_heap y
  have HY := Lib.hid y
  clear hb1 y k1
  have Hhbw := Lib.hid hbw; clear hbw
  go_wp2_with fail
  refine (k2 _).mono ?_
  rintro x w2 ⟨rfl, hb2⟩
  have y2 := heap_below hb2 HY.out
  have hbw2 := bl_step Hhbw.out hb2
  clear yc yl HY hb2 k2
  have yc := cells_of y2
  have yl := lt_of_heap y2
  have Hhbw2 := Lib.hid hbw2; clear hbw2; have Hy2 := Lib.hid y2; clear y2
  go_wp2_with fail
  refine (k3 _).mono ?_
  rintro x w3 ⟨rfl, hb3⟩
  have y3 := heap_below hb3 Hy2.out
  have hbw3 := bl_step Hhbw2.out hb3
  clear yc yl hb3 k3
  have yc := cells_of y3
  have yl := lt_of_heap y3
  have Hhbw3 := Lib.hid hbw3; clear hbw3; have Hy3 := Lib.hid y3; clear y3
  go_wp2_with fail
  refine (k4 _).mono ?_
  rintro x w4 ⟨rfl, hb4⟩
  have hbw4 := bl_step Hhbw3.out hb4
  go_wp2_with fail
  go_ret
  exact ⟨rfl, hbw4⟩
end Go.Proofs.Ytfbmjecikilghaa
namespace Go.Proofs.Ytfbmjecikilghaa

structure SecS where
  crest : Sp
  strength : Sp
  toe : Int
  wear : Sp
structure SecS.ok (z : SecS) : Prop where
  c : z.crest.1 ≤ z.crest.2
  c0 : -20000 ≤ z.crest.1
  c1 : z.crest.2 ≤ 20000
  s : z.strength.1 ≤ z.strength.2
  s0 : -20000 ≤ z.strength.1
  s1 : z.strength.2 ≤ 20000
  t0 : -20000 ≤ z.toe
  t1 : z.toe ≤ 20000
  w : z.wear.1 ≤ z.wear.2
  w0 : 0 ≤ z.wear.1
  w1 : z.wear.2 ≤ 1000
/-- The weaker wall and the stronger one, and the first steps in which they fail. -/
structure HoldS where
  weak : Sp
  strong : Sp
  may : Int
  must : Int
def wornS (w : Sp) (y : Int) : Sp := (w.1 - y, w.2 - y)
def holdStep (s : SecS) (k : Nat) (h : HoldS) (l : Sp) : HoldS :=
  ⟨if s.toe < l.2 then wornS h.weak s.wear.2 else h.weak, if s.toe < l.1 then wornS h.strong s.wear.1 else h.strong,
   if h.may < 0 ∧ min h.weak.1 h.weak.2 < l.2 then k else h.may, if h.must < 0 ∧ min h.strong.1 h.strong.2 < l.1 then k else h.must⟩
def holdAt (s : SecS) (l : List Sp) : Nat → HoldS
  | 0 => ⟨(s.crest.1, s.strength.1), (s.crest.2, s.strength.2), -1, -1⟩
  | k + 1 => holdStep s k (holdAt s l k) (l.getD k (0, 0))

theorem holdAt_first (s : SecS) (l : List Sp) : ∀ k : Nat, ((holdAt s l k).may = -1 ∨ 0 ≤ (holdAt s l k).may ∧ (holdAt s l k).may < k) ∧ ((holdAt s l k).must = -1 ∨ 0 ≤ (holdAt s l k).must ∧ (holdAt s l k).must < k)
  | 0 => ⟨.inl rfl, .inl rfl⟩
  | k + 1 => by
    have ih := holdAt_first s l k
    simp only [holdAt, holdStep]
    constructor
    · split <;> omega
    · split <;> omega
theorem holdAt_keep (s : SecS) (l : List Sp) (a : Nat) : ∀ d : Nat,
    ((0 ≤ (holdAt s l a).may ∧ (holdAt s l (a + d)).may = (holdAt s l a).may) ∨ ((holdAt s l a).may < 0 ∧ ((holdAt s l (a + d)).may = -1 ∨ (a : Int) ≤ (holdAt s l (a + d)).may))) ∧
    ((0 ≤ (holdAt s l a).must ∧ (holdAt s l (a + d)).must = (holdAt s l a).must) ∨ ((holdAt s l a).must < 0 ∧ ((holdAt s l (a + d)).must = -1 ∨ (a : Int) ≤ (holdAt s l (a + d)).must)))
  | 0 => by
    have h := holdAt_first s l a
    rw [Nat.add_zero]
    omega
  | d + 1 => by
    have ih := holdAt_keep s l a d
    rw [← Nat.add_assoc]
    simp only [holdAt, holdStep]
    constructor
    · split <;> omega
    · split <;> omega
theorem holdAt_bd {s : SecS} (h : s.ok) {l : List Sp} (hl : ∀ j, (l.getD j (0, 0)).1 ≤ (l.getD j (0, 0)).2) : ∀ k : Nat,
    (-20000 - 1000 * (k : Int) ≤ (holdAt s l k).weak.1 ∧ (holdAt s l k).weak.1 ≤ (holdAt s l k).strong.1 ∧ (holdAt s l k).strong.1 ≤ 20000) ∧
    (-20000 - 1000 * (k : Int) ≤ (holdAt s l k).weak.2 ∧ (holdAt s l k).weak.2 ≤ 20000 ∧ -20000 - 1000 * (k : Int) ≤ (holdAt s l k).strong.2 ∧ (holdAt s l k).strong.2 ≤ 20000)
  | 0 => by
    obtain ⟨c, c0, c1, s', s0, s1, t0, t1, w, w0, w1⟩ := h
    simp only [holdAt]
    omega
  | k + 1 => by
    have ih := holdAt_bd h hl k
    obtain ⟨c, c0, c1, s', s0, s1, t0, t1, w, w0, w1⟩ := h
    have hn := hl k
    simp only [holdAt, holdStep, wornS]
    push_cast
    split <;> split <;> (try simp only) <;> omega

/-- The wall's truth, ahead of a step. -/
structure WallI (s : SecS) (l : List Sp) (k : Nat) (c t : Int) (f : Bool) : Prop where
  c0 : (holdAt s l k).weak.1 ≤ c
  c1 : c ≤ (holdAt s l k).strong.1
  t0 : (holdAt s l k).weak.2 ≤ t
  t1 : t ≤ (holdAt s l k).strong.2
  may : f = true → 0 ≤ (holdAt s l k).may
  must : f = false → (holdAt s l k).must < 0
theorem WallI.start {s : SecS} {l : List Sp} {c t : Int} (h0 : s.crest.1 ≤ c) (h1 : c ≤ s.crest.2) (h2 : s.strength.1 ≤ t) (h3 : t ≤ s.strength.2) : WallI s l 0 c t false :=
  ⟨h0, h1, h2, h3, fun h => (by cases h), fun _ => by simp [holdAt]⟩
theorem WallI.step {s : SecS} (hs : s.ok) {l : List Sp} {k : Nat} {c t : Int} {f : Bool} (h : WallI s l k c t f) {y v : Int} (y0 : (l.getD k (0, 0)).1 ≤ y) (y1 : y ≤ (l.getD k (0, 0)).2) (hv : s.toe < y → s.wear.1 ≤ v ∧ v ≤ s.wear.2) :
    WallI s l (k + 1) (if s.toe < y then c - v else c) (if s.toe < y then t - v else t) (f || decide (c < y) || decide (t < y)) := by
  obtain ⟨_, _, _, _, _, _, _, _, w, w0, w1⟩ := hs
  obtain ⟨a0, a1, b0, b1, m, n⟩ := h
  refine ⟨?_, ?_, ?_, ?_, fun hf => ?_, fun hf => ?_⟩
  · simp only [holdAt, holdStep, wornS]
    split <;> split <;> (try simp only) <;> omega
  · simp only [holdAt, holdStep, wornS]
    split <;> split <;> (try simp only) <;> omega
  · simp only [holdAt, holdStep, wornS]
    split <;> split <;> (try simp only) <;> omega
  · simp only [holdAt, holdStep, wornS]
    split <;> split <;> (try simp only) <;> omega
  · simp only [holdAt, holdStep]
    have hm := (holdAt_first s l k).1
    split
    · omega
    · rename_i hc
      rcases Bool.eq_false_or_eq_true f with hf0 | hf0
      · exact m hf0
      · have h2 : c < y ∨ t < y := by simpa [hf0] using hf
        omega
  · simp only [holdAt, holdStep]
    simp only [Bool.or_eq_false_iff, decide_eq_false_iff_not] at hf
    have h1 := n hf.1.1
    split
    · omega
    · exact h1

/-- The ground of the section's cell, ahead of a step. -/
def raiseS (k : Int) (may must : Int) (c x : Sp) : Sp :=
  (if may = -1 ∨ k ≤ may then max x.1 c.1 else x.1, if (may = -1 ∨ k ≤ may) ∨ ¬ (0 ≤ must ∧ must < k) then max x.2 c.2 else x.2)
theorem raise_in {s : SecS} {l : List Sp} {k n : Nat} (hk : k ≤ n) {c t : Int} {f : Bool} (h : WallI s l k c t f) {x : Sp} {y : Int} (hx0 : x.1 ≤ y) (hx1 : y ≤ x.2) :
    (raiseS k (holdAt s l n).may (holdAt s l n).must ((holdAt s l k).weak.1, (holdAt s l k).strong.1) x).1 ≤ (if f = true then y else max y c) ∧
    (if f = true then y else max y c) ≤ (raiseS k (holdAt s l n).may (holdAt s l n).must ((holdAt s l k).weak.1, (holdAt s l k).strong.1) x).2 := by
  obtain ⟨d, rfl⟩ : ∃ d, n = k + d := ⟨n - k, by omega⟩
  have hk := holdAt_keep s l k d
  have hf := holdAt_first s l k
  obtain ⟨a0, a1, b0, b1, m, n⟩ := h
  simp only [raiseS]
  cases f with
  | true =>
    have := m rfl
    simp only [if_true]
    constructor
    · split <;> omega
    · split <;> omega
  | false =>
    have := n rfl
    simp only [Bool.false_eq_true, if_false]
    constructor
    · split <;> omega
    · split <;> omega
theorem raise_ok {k : Int} {may must : Int} {c x : Sp} (h0 : c.1 ≤ c.2) (h1 : x.1 ≤ x.2) : (raiseS k may must c x).1 ≤ (raiseS k may must c x).2 ∧
    x.1 ≤ (raiseS k may must c x).1 ∧ (raiseS k may must c x).2 ≤ max x.2 c.2 := by
  simp only [raiseS]
  split <;> split <;> omega
end Go.Proofs.Ytfbmjecikilghaa
namespace Go.Proofs.Ytfbmjecikilghaa
open Go.RowKit

theorem enters_hold1 : ∀ (args : Array Value) (w : World), (callFunc 29 args).run Try.prog w = .ok (.enter 29 args) w := by
  intro args w
  go_simp

set_option maxHeartbeats 2000000 in
set_option maxRecDepth 100000 in
theorem indexHold_none (l : List (Int × Int)) (a : Option Addr) (cap B : Nat) (w : World) (hB : B ≤ w.heap.size) (hs : Sl SpanE 2 B w a l) (hl : ∀ p ∈ l, vldB p.1 p.2 (-20000) 20000 = true) :
    Calls Try.prog 57 #[.slice a l.length cap, .func (.func 29) #[] #[]] w
      fun e w' => e = .returned (.int .i64 (-1)) ∧ Below w.heap.size w w' := by
  have hll := hs.1
  have heg := enters_hold1
  have HS := Lib.hid hs
  have HL := Lib.hid hl
  clear hs hl
  go_enter Try.func57, Try.ntmps57
  go_wp2_with (fail)
  go_loopw [8] (fun i wr => ∃ k : Nat, k ≤ l.length ∧ i = .int .i64 k ∧ Below w.heap.size w wr) (fun i _ => l.length - (intOf i).toNat)
  case atStart => exact ⟨0, Nat.zero_le _, rfl, Below.refl _ _⟩
  case round =>
    obtain ⟨k, hk, rfl, hb⟩ := hrel
    by_cases hlt : k < l.length
    · obtain ⟨b, off, rfl, hbb, he⟩ := (HS.out.below (ek_span B) (hb.mono hB)).2 k hlt
      obtain ⟨p, hp⟩ : ∃ x, l[k] = x := ⟨_, rfl⟩
      have hv := HL.out _ (List.getElem_mem hlt)
      rw [hp] at he hv
      have hc := hold1_any p.1 p.2
      rw [hv] at hc
      obtain ⟨e0, e1⟩ := he
      obtain ⟨p1, p2⟩ := p
      simp only at e0 e1 hc
      have Hhp := Lib.hid hp; clear hp; have Hhv := Lib.hid hv; clear hv
      go_wp2_with (fail)
      refine (hc wr).mono ?_
      rintro e w' ⟨rfl, hb2⟩
      have hb3 := hb.trans (hb2.mono hb.size)
      go_wp2_with (fail)
      go_roundw
      case rel => exact ⟨k + 1, by omega, by go_num, hb3⟩
      case measure => simp [intOf]; omega
    · go_wp2_with (fail)
      go_ret
      exact ⟨rfl, hb⟩

set_option maxHeartbeats 2000000 in
set_option maxRecDepth 100000 in
theorem containsHold_none (l : List (Int × Int)) (a : Option Addr) (cap B : Nat) (w : World) (hB : B ≤ w.heap.size) (hs : Sl SpanE 2 B w a l) (hl : ∀ p ∈ l, vldB p.1 p.2 (-20000) 20000 = true) :
    Calls Try.prog 28 #[.slice a l.length cap, .func (.func 29) #[] #[]] w
      fun e w' => e = .returned (.bool false) ∧ Below w.heap.size w w' := by
  have hi := indexHold_none l a cap B w hB hs hl
  clear hs hl
  go_enter Try.func28, Try.ntmps28
  go_wp2_with (fail)
  refine hi.mono ?_
  rintro e w1 ⟨rfl, hb1⟩
  go_wp2_with (fail)
  go_ret
  exact ⟨rfl, hb1⟩

theorem Keeps.grown {S : List Nat} {a b c : World} (h : Keeps S a b) {row : Option Nat} (hg : b.grownBy c row) (hr : ∀ r, row = some r → r ∈ S ∨ a.heap.size ≤ r) : Keeps S a c :=
  ⟨hg.os.trans h.os, hg.tape.trans h.tape, hg.output.trans h.output, Nat.le_trans h.size hg.size, fun k hk hS => (hg.block k (Nat.lt_of_lt_of_le hk h.size) (fun e => by
    rcases hr k e.symm with h1 | h1
    · exact hS h1
    · omega)).trans (h.block k hk hS)⟩

theorem sep_l {vc vs : Value} (h : ∀ g, vc.ownBlock = some g → vs.ownBlock ≠ some g) : vs.ownBlock = none ∨ vs.ownBlock ≠ vc.ownBlock := by
  cases h' : vs.ownBlock with
  | none => exact .inl rfl
  | some g => exact .inr fun e => h g e.symm h'
theorem sep_r {vc vs : Value} (h : ∀ g, vc.ownBlock = some g → vs.ownBlock ≠ some g) : vc.ownBlock = none ∨ vc.ownBlock ≠ vs.ownBlock := by
  cases h' : vc.ownBlock with
  | none => exact .inl rfl
  | some g => exact .inr fun e => h g h' e.symm

set_option maxHeartbeats 4000000 in
set_option maxRecDepth 100000 in
theorem note_any (base bf bp n : Nat) (vc vs : Value) (cs ss : List (Int × Int)) (may must a b c d : Int) (S : List Nat) (w : World)
    (hf : w.heap[bf]? = some (.cells #[vc, vs, .int .i64 may, .int .i64 must] 73 (0, 0))) (hp : w.heap[bp]? = some (.cells #[.int .i64 a, .int .i64 b, .int .i64 c, .int .i64 d] 98 (0, 0)))
    (hc : w.ownsRow base 46 2 vc n (wcells cs)) (hs : w.ownsRow base 46 2 vs n (wcells ss)) (sep : ∀ g, vc.ownBlock = some g → vs.ownBlock ≠ some g) (hbf : bf < base) (hbp : bp < base) (hne : bf ≠ bp) (hbw : base ≤ w.heap.size) (hn : n ≤ 1000)
    (hS0 : bf ∈ S) (hSc : ∀ g, vc.ownBlock = some g → g ∈ S) (hSs : ∀ g, vs.ownBlock = some g → g ∈ S) :
    Calls Try.prog 31 #[.pointer (some ⟨bf, 0, none⟩), .pointer (some ⟨bp, 0, none⟩)] w fun e w' => ∃ vc' vs', (∃ u, e = .returned u) ∧ w'.heap[bf]? = some (.cells #[vc', vs', .int .i64 may, .int .i64 must] 73 (0, 0)) ∧ w'.heap[bp]? = some (.cells #[.int .i64 a, .int .i64 b, .int .i64 c, .int .i64 d] 98 (0, 0)) ∧
      w'.ownsRow base 46 2 vc' (n + 1) (wcells (cs ++ [(a, c)])) ∧ w'.ownsRow base 46 2 vs' (n + 1) (wcells (ss ++ [(b, d)])) ∧ (∀ g, vc'.ownBlock = some g → vs'.ownBlock ≠ some g) ∧ Keeps S w w' := by
  have hlc := fun g (hg : vc.ownBlock = some g) => hc.lt g hg
  have hls := fun g (hg : vs.ownBlock = some g) => hs.lt g hg
  have hfc := cells_of hf
  have hfl := lt_of_heap hf
  have hpc := cells_of hp
  have hpl := lt_of_heap hp
  obtain ⟨i0, hinf, hz0, hz1, hz2⟩ := info_parts info36
  have hmax : n + 1 ≤ maxLen := by unfold maxLen; omega
  have hnews := news2 w (.int .i64 a) (.int .i64 c) 46
  have Hhf := Lib.hid hf; clear hf; have Hhp := Lib.hid hp; clear hp; have Hhs := Lib.hid hs; clear hs; have Hsep := Lib.hid sep; clear sep; have HhSc := Lib.hid hSc; clear hSc; have HhSs := Lib.hid hSs; clear hSs; have HhS0 := Lib.hid hS0; clear hS0
  go_enter Try.func31, Try.ntmps31
  go_upto_region 1 with (at_builtin; refine wpList_append_own_at _ rfl _ _ 34 rfl base 46 i0 (.agg #[.int .i64 0, .int .i64 0]) 2 16 Try.underlying34 hinf hz0 hz1 hz2 rfl (by decide) _ _ _ rfl (hc.alloc _) ⟨w.heap.size, 0, none⟩ 1 1 [.int .i64 a, .int .i64 c] rfl rfl hnews (by simp [Value.oneCell']) (by omega) (by omega) (by simp; omega) ?_; intro v1 w1 hown hgrow _ hloc; obtain ⟨g1, cap1, rfl⟩ := ownsRow_succ hown; replace hgrow : (w.alloc (.cells #[.int .i64 a, .int .i64 c] 46)).grownBy w1 vc.ownBlock := hgrow; replace hloc : (Value.slice (some ⟨g1, 0, none⟩) (n + 1) cap1).ownBlock = vc.ownBlock ∨ (Value.slice (some ⟨g1, 0, none⟩) (n + 1) cap1).ownBlock = some (w.alloc (.cells #[.int .i64 a, .int .i64 c] 46)).heap.size := hloc; have k0 := (hgrow.block bf (by simp; omega) (fun e => by have := hlc bf e.symm; omega)).trans (heap_alloc_off Hhf.out _); have k1 := (hgrow.block bp (by simp; omega) (fun e => by have := hlc bp e.symm; omega)).trans (heap_alloc_off Hhp.out _); have k2 := (Hhs.out.alloc (.cells #[.int .i64 a, .int .i64 c] 46)).kept hgrow (sep_l Hsep.out); have k3 := ((Keeps.refl S w).alloc (.cells #[.int .i64 a, .int .i64 c] 46)).grown hgrow (fun r hr => .inl (HhSc.out r hr)); have hzk := k3.size; have hsep : ∀ g, (Value.slice (some ⟨g1, 0, none⟩) (n + 1) cap1).ownBlock = some g → vs.ownBlock ≠ some g := (fun g hg hg' => by rcases hloc with e | e; exact Hsep.out g (e ▸ hg) hg'; have := hls g hg'; rw [e] at hg; simp at hg; omega); clear hc hlc hfc hfl hpc hpl hnews hgrow hloc; have hfc := cells_of k0; have hff := frozen_of k0; have hfl := lt_of_heap k0; have hpc := cells_of k1; have hpl := lt_of_heap k1; have Hk0 := Lib.hid k0; clear k0; have Hk1 := Lib.hid k1; clear k1; have Hk2 := Lib.hid k2; clear k2; have Hk3 := Lib.hid k3; clear k3; have Hhsep := Lib.hid hsep; clear hsep; have Hhown := Lib.hid hown; clear hown)
  have m0 : (w1.setCell ⟨bf, 0, none⟩ (Value.slice (some ⟨g1, 0, none⟩) (n + 1) cap1)).heap[bf]? = some (.cells #[(Value.slice (some ⟨g1, 0, none⟩) (n + 1) cap1), vs, .int .i64 may, .int .i64 must] 73 (0, 0)) := (heap_setCell_at Hk0.out _).trans rfl
  have m1 := heap_setCell_off (o := 0) Hk1.out (Value.slice (some ⟨g1, 0, none⟩) (n + 1) cap1) hne
  have m2 := ownsRow_setCell_below Hk2.out (a := ⟨bf, 0, none⟩) hbf (Value.slice (some ⟨g1, 0, none⟩) (n + 1) cap1)
  have m3 := ownsRow_setCell_below Hhown.out (a := ⟨bf, 0, none⟩) hbf (Value.slice (some ⟨g1, 0, none⟩) (n + 1) cap1)
  have m4 : Keeps S w (w1.setCell ⟨bf, 0, none⟩ (Value.slice (some ⟨g1, 0, none⟩) (n + 1) cap1)) := Hk3.out.setCell _ _ (.inl HhS0.out)
  have hsz2 : base ≤ (w1.setCell ⟨bf, 0, none⟩ (Value.slice (some ⟨g1, 0, none⟩) (n + 1) cap1)).heap.size := by have := m4.size; omega
  have hsp := Hhsep.out
  clear hfc hff hfl hpc hpl Hk0 Hk1 Hk2 Hk3 Hhown Hhsep hzk hls
  generalize (w1.setCell ⟨bf, 0, none⟩ (Value.slice (some ⟨g1, 0, none⟩) (n + 1) cap1)) = w2 at m0 m1 m2 m3 m4 hsz2 ⊢
  have hl1 := fun g (hg : (Value.slice (some ⟨g1, 0, none⟩) (n + 1) cap1).ownBlock = some g) => m3.lt g hg
  have hls := fun g (hg : vs.ownBlock = some g) => m2.lt g hg
  have hfc := cells_of m0
  have hfl := lt_of_heap m0
  have hpc := cells_of m1
  have hpl := lt_of_heap m1
  have hnews := news2 w2 (.int .i64 b) (.int .i64 d) 46
  have Hm0 := Lib.hid m0; clear m0; have Hm1 := Lib.hid m1; clear m1; have Hm3 := Lib.hid m3; clear m3; have Hm4 := Lib.hid m4; clear m4; have Hhsp := Lib.hid hsp; clear hsp
  go_wp2_with (at_builtin; refine wpList_append_own_at _ rfl _ _ 34 rfl base 46 i0 (.agg #[.int .i64 0, .int .i64 0]) 2 16 Try.underlying34 hinf hz0 hz1 hz2 rfl (by decide) _ _ _ rfl (m2.alloc _) ⟨w2.heap.size, 0, none⟩ 1 1 [.int .i64 b, .int .i64 d] rfl rfl hnews (by simp [Value.oneCell']) (by omega) (by omega) (by simp; omega) ?_; intro v2 w3 hown hgrow _ hloc; obtain ⟨g2, cap2, rfl⟩ := ownsRow_succ hown; replace hgrow : (w2.alloc (.cells #[.int .i64 b, .int .i64 d] 46)).grownBy w3 vs.ownBlock := hgrow; replace hloc : (Value.slice (some ⟨g2, 0, none⟩) (n + 1) cap2).ownBlock = vs.ownBlock ∨ (Value.slice (some ⟨g2, 0, none⟩) (n + 1) cap2).ownBlock = some (w2.alloc (.cells #[.int .i64 b, .int .i64 d] 46)).heap.size := hloc; have k0 := (hgrow.block bf (by simp; omega) (fun e => by have := hls bf e.symm; omega)).trans (heap_alloc_off Hm0.out _); have k1 := (hgrow.block bp (by simp; omega) (fun e => by have := hls bp e.symm; omega)).trans (heap_alloc_off Hm1.out _); have k2 := (Hm3.out.alloc (.cells #[.int .i64 b, .int .i64 d] 46)).kept hgrow (sep_r Hhsp.out); have k3 := (Hm4.out.alloc (.cells #[.int .i64 b, .int .i64 d] 46)).grown hgrow (fun r hr => .inl (HhSs.out r hr)); have hsep : ∀ g, (Value.slice (some ⟨g1, 0, none⟩) (n + 1) cap1).ownBlock = some g → (Value.slice (some ⟨g2, 0, none⟩) (n + 1) cap2).ownBlock ≠ some g := (fun g hg hg' => by rcases hloc with e | e; exact Hhsp.out g hg (e ▸ hg'); have := hl1 g hg; rw [e] at hg'; simp at hg'; omega); clear m2 hls hl1 hfc hfl hpc hpl hnews hgrow hloc; have hfc := cells_of k0; have hff := frozen_of k0; have hfl := lt_of_heap k0; have Hk0 := Lib.hid k0; clear k0; have Hk1 := Lib.hid k1; clear k1; have Hk2 := Lib.hid k2; clear k2; have Hk3 := Lib.hid k3; clear k3; have Hhsep := Lib.hid hsep; clear hsep; have Hhown := Lib.hid hown; clear hown)
  refine bodyPost_end (results_none rfl _ _ _) rfl ?_
  refine ⟨_, _, ⟨_, rfl⟩, (heap_setCell_at Hk0.out _).trans rfl, heap_setCell_off Hk1.out _ hne, ?_, ?_, Hhsep.out, Hk3.out.setCell _ _ (.inl HhS0.out)⟩
  · rw [wcells_snoc]; exact ownsRow_setCell_below Hk2.out hbf _
  · rw [wcells_snoc]; exact ownsRow_setCell_below Hhown.out hbf _
end Go.Proofs.Ytfbmjecikilghaa
namespace Go.Proofs.Ytfbmjecikilghaa
open Go.RowKit

abbrev breachC (s : ShoreL) (al am aw : Option Addr) (cl cm cw : Nat) (cell cr st wr : Int) (a5 : Option Addr) (n5 c5 : Nat) (sp : Int) (ah : Option Addr) (nh ch : Nat) : Array Value :=
  #[.int .u8 s.wide, .int .u8 s.high, .slice al s.low.length cl, .slice am s.more.length cm, .slice aw s.where_.length cw, .int .u8 cell, .int .u8 cr, .int .u8 st, .int .u8 wr, .slice a5 n5 c5, .int .u8 sp, .slice ah nh ch]

set_option maxHeartbeats 8000000 in
set_option maxRecDepth 100000 in
theorem choose_any (B : Nat) (v0 v1 v2 v3 v4 v5 v6 v7 v8 v9 v10 : Value) (wh : List Int) (ah : Option Addr) (ch : Nat) (lo hi n : Int) (bn bx : Nat) (w : World)
    (hx : w.heap[bx]? = some (.cells #[v0, v1, v2, v3, v4, v5, v6, v7, v8, v9, v10, .slice ah wh.length ch] 60 (0, 0))) (hn : w.heap[bn]? = some (.cells #[.int .i64 n] 3 (0, 0))) (n0 : 0 ≤ n) (n1 : n ≤ 1000)
    (hW : SlW .u8 B w ah wh) (hw : ∀ x ∈ wh, 0 ≤ x ∧ x ≤ 255) (hB : B ≤ bn) (hlh : lo ≤ hi) (b0 : -1000000000 ≤ lo) (b1 : hi ≤ 1000000000) :
    Calls Try.prog 14 #[.agg #[.int .i64 lo, .int .i64 hi], .pointer (some ⟨bn, 0, none⟩), .pointer (some ⟨bx, 0, none⟩)] w fun e w' => ∃ v, e = .returned (.int .i64 v) ∧ lo ≤ v ∧ v ≤ hi ∧ w'.heap[bn]? = some (.cells #[.int .i64 (n + 1)] 3 (0, 0)) ∧ Keeps [bn] w w' := by
  have hnb : bn ≠ bx := fun e => by rw [e, hx] at hn; cases hn
  have hxc := cells_of hx
  have hxl := lt_of_heap hx
  have hnc := cells_of hn
  have hnf := frozen_of hn
  have hnl := lt_of_heap hn
  have hL0 : wh.length ≤ 9223372036854775807 := hW.1
  by_cases hemp : wh = []
  · have hl0 : wh.length = 0 := by rw [hemp]; rfl
    rw [hl0] at hx hxc
    have Hhx := Lib.hid hx; clear hx; have Hhn := Lib.hid hn; clear hn; have HhW := Lib.hid hW; clear hW; have Hhw := Lib.hid hw; clear hw
    go_enter Try.func14, Try.ntmps14
    go_wp2_with fail
    go_ret
    exact ⟨lo, rfl, Int.le_refl _, hlh, heap_alloc_off ((heap_setCell_at Hhn.out _).trans rfl) _, ((Keeps.refl [bn] w).setCell ⟨bn, 0, none⟩ _ (.inl (List.mem_singleton_self bn))).alloc _⟩
  · have hll : 0 < wh.length := List.length_pos_iff.2 hemp
    obtain ⟨m, hm⟩ : ∃ m : Int, n + 1 = m := ⟨_, rfl⟩
    obtain ⟨L, hL⟩ : ∃ L : Int, (wh.length : Int) = L := ⟨_, rfl⟩
    have m0 : 0 ≤ m := by omega
    have m1 : m ≤ 1001 := by omega
    have L0 : 0 < L := by omega
    have L1 : ¬ L = 0 := by omega
    have L2 : L ≤ 9223372036854775807 := by omega
    obtain ⟨J, hJ⟩ : ∃ J : Int, m % L = J := ⟨_, rfl⟩
    have J0 : 0 ≤ J := by rw [← hJ]; exact Int.emod_nonneg _ L1
    have J1 : J < L := by rw [← hJ]; exact Int.emod_lt_of_pos _ L0
    obtain ⟨mn, hmn⟩ : ∃ mn : Nat, (mn : Int) = m := ⟨m.toNat, by omega⟩
    obtain ⟨b, off, ha, hbB, hc⟩ := hW.rest hemp mn
    have hJn : mn % wh.length = J.toNat := by rw [← hJ, ← hmn, ← hL]; omega
    obtain ⟨x, hxx⟩ : ∃ x, wh.getD (mn % wh.length) 0 = x := ⟨_, rfl⟩
    have hxb : 0 ≤ x ∧ x ≤ 255 := by rw [← hxx]; exact hw _ (getD_mem hemp _)
    rw [hxx, hJn] at hc
    obtain ⟨x0, x1⟩ := hxb
    have hbl := World.block_lt_of_cell? w _ hc
    subst ha
    obtain ⟨E, hE⟩ : ∃ E, hi - lo = E := ⟨_, rfl⟩
    obtain ⟨D, hD⟩ : ∃ D, E + 1 = D := ⟨_, rfl⟩
    have D0 : 0 < D := by omega
    have D1 : ¬ D = 0 := by omega
    have D2 : D ≤ 2000000001 := by omega
    obtain ⟨R, hR⟩ : ∃ R, x % D = R := ⟨_, rfl⟩
    have R0 : 0 ≤ R := by rw [← hR]; exact Int.emod_nonneg _ D1
    have R1 : R < D := by rw [← hR]; exact Int.emod_lt_of_pos _ D0
    have R2 : R < hi - lo + 1 := by omega
    have hbn : b ≠ bn := by omega
    have hnb' : bn ≠ b := by omega
    clear hxx hJn hll hL0 hmn
    have Hhx := Lib.hid hx; clear hx; have Hhn := Lib.hid hn; clear hn; have HhW := Lib.hid hW; clear hW; have Hhw := Lib.hid hw; clear hw
    go_enter Try.func14, Try.ntmps14
    go_upto_region 4 with fail
    have kW : Keeps [bn] w ((w.setCell ⟨bn, 0, none⟩ (.int .i64 m)).alloc (.cells #[.int .i64 lo, .int .i64 hi] 46)) := ((Keeps.refl [bn] w).setCell ⟨bn, 0, none⟩ _ (.inl (List.mem_singleton_self bn))).alloc _
    have q0 : ((w.setCell ⟨bn, 0, none⟩ (.int .i64 m)).alloc (.cells #[.int .i64 lo, .int .i64 hi] 46)).heap[w.heap.size]? = some (.cells #[.int .i64 lo, .int .i64 hi] 46 (0, 0)) := heap_alloc_at' _ _ (by simp)
    have q1 : ((w.setCell ⟨bn, 0, none⟩ (.int .i64 m)).alloc (.cells #[.int .i64 lo, .int .i64 hi] 46)).heap[bn]? = some (.cells #[.int .i64 m] 3 (0, 0)) := heap_alloc_off ((heap_setCell_at Hhn.out _).trans rfl) _
    have q2 := heap_alloc_off (heap_setCell_off (o := 0) Hhx.out (.int .i64 m) hnb) (.cells #[.int .i64 lo, .int .i64 hi] 46)
    have q3 := (kW.cell b hbl (by simpa using hbn) _).trans hc
    generalize ((w.setCell ⟨bn, 0, none⟩ (.int .i64 m)).alloc (.cells #[.int .i64 lo, .int .i64 hi] 46)) = wz at kW q0 q1 q2 q3 ⊢
    have q0c := cells_of q0
    have q0l := lt_of_heap q0
    have q1c := cells_of q1
    have q1l := lt_of_heap q1
    have q2c := cells_of q2
    have q2l := lt_of_heap q2
    have q3l := World.block_lt_of_cell? wz _ q3
    have hI : Below wz.heap.size wz wz.drew := (Below.refl _ _).drew
    clear hxc hnc hnf hc hxl hnl hbl
    have Hq0 := Lib.hid q0; clear q0; have Hq1 := Lib.hid q1; clear q1; have Hq2 := Lib.hid q2; clear q2; have HkW := Lib.hid kW; clear kW
    refine wp_region_ord (fun W => Below wz.heap.size wz W) [] [0, 1, 2, 3, 4, 5, 6, 7, 8, 9, 10, 11, 12, 13, 14, 15, 16, 17, 18, 19, 20] none (by kernel_rfl) (by kernel_rfl) hI ?_
    refine OrdI_fin ?_
    (apply StI_plain (w0 := wz.drew) hI rfl rfl rfl rfl; (focus (intro W hW K hK; obtain ⟨_, _⟩ := bk w.heap.size hW q0l; obtain ⟨_, _⟩ := bk bn hW q1l; obtain ⟨_, _⟩ := bk bx hW q2l; obtain ⟨_, _⟩ := bk b hW q3l; go_step; exact hK)); (focus rfl)); (apply StI_plain (w0 := wz.drew) hI rfl rfl rfl rfl; (focus (intro W hW K hK; obtain ⟨_, _⟩ := bk w.heap.size hW q0l; obtain ⟨_, _⟩ := bk bn hW q1l; obtain ⟨_, _⟩ := bk bx hW q2l; obtain ⟨_, _⟩ := bk b hW q3l; go_step; exact hK)); (focus rfl)); (apply StI_plain (w0 := wz.drew) hI rfl rfl rfl rfl; (focus (intro W hW K hK; obtain ⟨_, _⟩ := bk w.heap.size hW q0l; obtain ⟨_, _⟩ := bk bn hW q1l; obtain ⟨_, _⟩ := bk bx hW q2l; obtain ⟨_, _⟩ := bk b hW q3l; go_step; exact hK)); (focus rfl)); (apply StI_plain (w0 := wz.drew) hI rfl rfl rfl rfl; (focus (intro W hW K hK; obtain ⟨_, _⟩ := bk w.heap.size hW q0l; obtain ⟨_, _⟩ := bk bn hW q1l; obtain ⟨_, _⟩ := bk bx hW q2l; obtain ⟨_, _⟩ := bk b hW q3l; go_step; exact hK)); (focus rfl)); (apply StI_plain (w0 := wz.drew) hI rfl rfl rfl rfl; (focus (intro W hW K hK; obtain ⟨_, _⟩ := bk w.heap.size hW q0l; obtain ⟨_, _⟩ := bk bn hW q1l; obtain ⟨_, _⟩ := bk bx hW q2l; obtain ⟨_, _⟩ := bk b hW q3l; go_step; exact hK)); (focus rfl)); (apply StI_plain (w0 := wz.drew) hI rfl rfl rfl rfl; (focus (intro W hW K hK; obtain ⟨_, _⟩ := bk w.heap.size hW q0l; obtain ⟨_, _⟩ := bk bn hW q1l; obtain ⟨_, _⟩ := bk bx hW q2l; obtain ⟨_, _⟩ := bk b hW q3l; go_step; exact hK)); (focus rfl)); (apply StI_plain (w0 := wz.drew) hI rfl rfl rfl rfl; (focus (intro W hW K hK; obtain ⟨_, _⟩ := bk w.heap.size hW q0l; obtain ⟨_, _⟩ := bk bn hW q1l; obtain ⟨_, _⟩ := bk bx hW q2l; obtain ⟨_, _⟩ := bk b hW q3l; go_step; exact hK)); (focus rfl)); (apply StI_plain (w0 := wz.drew) hI rfl rfl rfl rfl; (focus (intro W hW K hK; obtain ⟨_, _⟩ := bk w.heap.size hW q0l; obtain ⟨_, _⟩ := bk bn hW q1l; obtain ⟨_, _⟩ := bk bx hW q2l; obtain ⟨_, _⟩ := bk b hW q3l; go_step; exact hK)); (focus rfl)); (apply StI_plain (w0 := wz.drew) hI rfl rfl rfl rfl; (focus (intro W hW K hK; obtain ⟨_, _⟩ := bk w.heap.size hW q0l; obtain ⟨_, _⟩ := bk bn hW q1l; obtain ⟨_, _⟩ := bk bx hW q2l; obtain ⟨_, _⟩ := bk b hW q3l; go_step; exact hK)); (focus rfl)); (apply StI_plain (w0 := wz.drew) hI rfl rfl rfl rfl; (focus (intro W hW K hK; obtain ⟨_, _⟩ := bk w.heap.size hW q0l; obtain ⟨_, _⟩ := bk bn hW q1l; obtain ⟨_, _⟩ := bk bx hW q2l; obtain ⟨_, _⟩ := bk b hW q3l; go_step; exact hK)); (focus rfl)); (apply StI_plain (w0 := wz.drew) hI rfl rfl rfl rfl; (focus (intro W hW K hK; obtain ⟨_, _⟩ := bk w.heap.size hW q0l; obtain ⟨_, _⟩ := bk bn hW q1l; obtain ⟨_, _⟩ := bk bx hW q2l; obtain ⟨_, _⟩ := bk b hW q3l; go_step; exact hK)); (focus rfl)); (apply StI_plain (w0 := wz.drew) hI rfl rfl rfl rfl; (focus (intro W hW K hK; obtain ⟨_, _⟩ := bk w.heap.size hW q0l; obtain ⟨_, _⟩ := bk bn hW q1l; obtain ⟨_, _⟩ := bk bx hW q2l; obtain ⟨_, _⟩ := bk b hW q3l; go_step; exact hK)); (focus rfl)); (apply StI_plain (w0 := wz.drew) hI rfl rfl rfl rfl; (focus (intro W hW K hK; obtain ⟨_, _⟩ := bk w.heap.size hW q0l; obtain ⟨_, _⟩ := bk bn hW q1l; obtain ⟨_, _⟩ := bk bx hW q2l; obtain ⟨_, _⟩ := bk b hW q3l; go_step; exact hK)); (focus rfl)); (apply StI_plain (w0 := wz.drew) hI rfl rfl rfl rfl; (focus (intro W hW K hK; obtain ⟨_, _⟩ := bk w.heap.size hW q0l; obtain ⟨_, _⟩ := bk bn hW q1l; obtain ⟨_, _⟩ := bk bx hW q2l; obtain ⟨_, _⟩ := bk b hW q3l; go_step; exact hK)); (focus rfl)); (apply StI_plain (w0 := wz.drew) hI rfl rfl rfl rfl; (focus (intro W hW K hK; obtain ⟨_, _⟩ := bk w.heap.size hW q0l; obtain ⟨_, _⟩ := bk bn hW q1l; obtain ⟨_, _⟩ := bk bx hW q2l; obtain ⟨_, _⟩ := bk b hW q3l; go_step; exact hK)); (focus rfl)); (apply StI_plain (w0 := wz.drew) hI rfl rfl rfl rfl; (focus (intro W hW K hK; obtain ⟨_, _⟩ := bk w.heap.size hW q0l; obtain ⟨_, _⟩ := bk bn hW q1l; obtain ⟨_, _⟩ := bk bx hW q2l; obtain ⟨_, _⟩ := bk b hW q3l; go_step; exact hK)); (focus rfl)); (apply StI_plain (w0 := wz.drew) hI rfl rfl rfl rfl; (focus (intro W hW K hK; obtain ⟨_, _⟩ := bk w.heap.size hW q0l; obtain ⟨_, _⟩ := bk bn hW q1l; obtain ⟨_, _⟩ := bk bx hW q2l; obtain ⟨_, _⟩ := bk b hW q3l; go_step; exact hK)); (focus rfl)); (apply StI_plain (w0 := wz.drew) hI rfl rfl rfl rfl; (focus (intro W hW K hK; obtain ⟨_, _⟩ := bk w.heap.size hW q0l; obtain ⟨_, _⟩ := bk bn hW q1l; obtain ⟨_, _⟩ := bk bx hW q2l; obtain ⟨_, _⟩ := bk b hW q3l; go_step; exact hK)); (focus rfl)); (apply StI_plain (w0 := wz.drew) hI rfl rfl rfl rfl; (focus (intro W hW K hK; obtain ⟨_, _⟩ := bk w.heap.size hW q0l; obtain ⟨_, _⟩ := bk bn hW q1l; obtain ⟨_, _⟩ := bk bx hW q2l; obtain ⟨_, _⟩ := bk b hW q3l; go_step; exact hK)); (focus rfl)); (apply StI_plain (w0 := wz.drew) hI rfl rfl rfl rfl; (focus (intro W hW K hK; obtain ⟨_, _⟩ := bk w.heap.size hW q0l; obtain ⟨_, _⟩ := bk bn hW q1l; obtain ⟨_, _⟩ := bk bx hW q2l; obtain ⟨_, _⟩ := bk b hW q3l; go_step; exact hK)); (focus rfl)); (apply StI_plain (w0 := wz.drew) hI rfl rfl rfl rfl; (focus (intro W hW K hK; obtain ⟨_, _⟩ := bk w.heap.size hW q0l; obtain ⟨_, _⟩ := bk bn hW q1l; obtain ⟨_, _⟩ := bk bx hW q2l; obtain ⟨_, _⟩ := bk b hW q3l; go_step; exact hK)); (focus rfl))
    refine StI_nil ?_
    go_wp2_with fail
    go_ret
    refine ⟨lo + R, rfl, by omega, by omega, ?_, HkW.out.drew⟩
    exact heap_drew' Hq1.out
end Go.Proofs.Ytfbmjecikilghaa
