/- A range over a function that writes blocks of its own: what the consumer keeps lies in blocks apart from these. No program is named here. -/
import Derived.Test.YtjoihijlcpnhoaaRowM
import Derived.RangeFuncNested
import Derived.RangeFuncBound
import Derived.RangeFuncCalls
import Derived.RangeFuncLeaves
import Derived.Shelf.Abstract
import Derived.Shelf.RegionOpen
import Derived.OwnWalkIn
import Derived.TacticsInMore
import Derived.LoopNIn
import Derived.LoopIn
namespace Go.Proofs.Ytjoihijlcpnhoaa
open Go.RowKit Go.Shelf

theorem anyDepthR {F : Fence} (hd : F.depth = none) {m m' : Nat} {P : Program} {l : Nat} {f : FuncId} {tmps : Array Value} {assign body : Code} {w : World} {R : Ending → World → Prop} (h : RoundIn F m P l f tmps assign body w R) : RoundIn F m' P l f tmps assign body w R :=
  ⟨h.1, fun c cs _ => h.2 c cs fun d e => by rw [hd] at e; cases e⟩
theorem anyDepthY {F : Fence} (hd : F.depth = none) {m : Nat} (m' : Nat) {P : Program} {l : Nat} {args : Array Value} {W : World} {R : Ending → World → Prop} (h : YieldAt F m P l args W R) : YieldAt F m' P l args W R := by
  obtain ⟨fn, tmps, assign, body, hy, hR⟩ := h
  exact ⟨fn, tmps, assign, body, hy, anyDepthR hd hR⟩

/-- Of the blocks that were there only those of O may have been written. -/
structure KeepsP (O : Nat → Prop) (w w' : World) : Prop where
  os : w'.os = w.os
  tape : w'.tape = w.tape
  output : w'.output = w.output
  size : w.heap.size ≤ w'.heap.size
  block : ∀ q, q < w.heap.size → ¬ O q → w'.heap[q]? = w.heap[q]?

theorem KeepsP.refl (O : Nat → Prop) (w : World) : KeepsP O w w := ⟨rfl, rfl, rfl, Nat.le_refl _, fun _ _ _ => rfl⟩
theorem KeepsP.trans {O O' O'' : Nat → Prop} {w w' w'' : World} (h : KeepsP O w w') (k : KeepsP O' w' w'') (h1 : ∀ q, q < w.heap.size → O q → O'' q) (h2 : ∀ q, q < w.heap.size → O' q → O'' q) : KeepsP O'' w w'' :=
  ⟨k.os.trans h.os, k.tape.trans h.tape, k.output.trans h.output, Nat.le_trans h.size k.size, fun q hq hn => (k.block q (Nat.lt_of_lt_of_le hq h.size) (fun e => hn (h2 q hq e))).trans (h.block q hq (fun e => hn (h1 q hq e)))⟩
theorem KeepsP.of_below {w w' : World} (h : Below w.heap.size w w') (O : Nat → Prop) : KeepsP O w w' := ⟨h.os, h.tape, h.output, h.size, fun q hq _ => h.block q hq⟩
theorem KeepsP.putObj {O : Nat → Prop} (W : World) {l : Nat} (o : Obj) (hl : O l) : KeepsP O W (W.putObj l o) :=
  ⟨rfl, rfl, rfl, by simp, fun q _ hn => World.putObj_heap_other (fun e => hn (by rw [e]; exact hl))⟩

/-- What a consumer keeps, in blocks of its own (Q). -/
structure NoteY {α : Type} (N : Nat) (P : Program) (l : Nat) (encs : α → Array Value) (J Jx : World → (Nat → Prop) → List α → Prop) : Prop where
  stable : ∀ w w' Q s, J w Q s → (∀ q, Q q → w'.heap[q]? = w.heap[q]?) → (∀ q, q < N → w'.heap[q]? = w.heap[q]?) → w.heap.size ≤ w'.heap.size → J w' Q s
  stablex : ∀ w w' Q s, Jx w Q s → (∀ q, Q q → w'.heap[q]? = w.heap[q]?) → (∀ q, q < N → w'.heap[q]? = w.heap[q]?) → w.heap.size ≤ w'.heap.size → Jx w' Q s
  lt : ∀ w Q s q, J w Q s → Q q → q < w.heap.size
  ltx : ∀ w Q s q, Jx w Q s → Q q → q < w.heap.size
  lone : ∀ w Q s q, J w Q s → Q q → N ≤ q ∨ Lone w q
  lonex : ∀ w Q s q, Jx w Q s → Q q → N ≤ q ∨ Lone w q
  call : ∀ W Q pre x, J W Q pre → pre.length ≤ 1000000000 → YieldAt Fence.wide 1 P l (encs x) W fun e W' => KeepsP Q W W' ∧ ∃ Q', (∀ q, Q' q → Q q ∨ W.heap.size ≤ q) ∧ ((e = .returned (.bool true) ∧ J W' Q' (pre ++ [x])) ∨ (e = .returned (.bool false) ∧ Jx W' Q' (pre ++ [x])))

/-- An iterator that yields xs, uses the blocks O1 and writes those of O2. -/
def IterW {α : Type} (N : Nat) (P : Program) (g : Nat) (lb : Array Value) (encs : α → Array Value) (O1 O2 : Nat → Prop) (xs : List α) (w0 : World) : Prop :=
  ∀ (l : Nat) (J Jx : World → (Nat → Prop) → List α → Prop) (W : World) (Q : Nat → Prop), NoteY N P l encs J Jx → Below w0.heap.size w0 W → J W Q [] → (∀ q, Q q → ¬ O1 q) →
    Calls P g (#[.func (.yield l) #[] #[]] ++ lb) W fun e W' => (∃ v, e = .returned v) ∧ KeepsP (fun q => O2 q ∨ Q q) W W' ∧ ∃ Q', (∀ q, Q' q → Q q ∨ W.heap.size ≤ q) ∧ (J W' Q' xs ∨ ∃ pre, pre <+: xs ∧ Jx W' Q' pre)

/-- How the body of a round may be left. -/
def notePost {α : Type} (_l : Nat) (_lo : Obj) (W0 W : World) (R : Nat → Prop) (I : List α → (Nat → Prop) → World → Prop) (Ix : Code → List α → (Nat → Prop) → World → Prop) (s : List α) : Exit → Act → World → Prop
  | .normal, _, W' => KeepsP R W W' ∧ ∃ R', (∀ q, R' q → R q ∨ W0.heap.size ≤ q) ∧ I s R' W'
  | .ret, _, W' => KeepsP R W W' ∧ ∃ R', (∀ q, R' q → R q ∨ W0.heap.size ≤ q) ∧ Ix .ret s R' W'
  | .exit id, _, W' => KeepsP R W W' ∧ ∃ R', (∀ q, R' q → R q ∨ W0.heap.size ≤ q) ∧ Ix (.exit id) s R' W'
  | .goto t, _, W' => KeepsP R W W' ∧ ∃ R', (∀ q, R' q → R q ∨ W0.heap.size ≤ q) ∧ Ix (.goto t) s R' W'
  | .panic _, _, _ => False
  | .outgrown, _, _ => False

theorem rangeNote {α : Type} {n N : Nat} {P : Program} {g : Operand} {ps : Array Tmp} {assign body : Code} {Q : Exit → Act → World → Prop} {a : Act} {w : World}
    (h1 : 1 ≤ n) {gf : Nat} {lb : Array Value} (hg : a.eval g = .func (.func gf) #[] lb) (eg : ∀ args w, (callFunc gf args).run P w = .ok (.enter gf args) w)
    {encs : α → Array Value} (hps : ∀ x, (encs x).size = ps.size) {O1 O2 : Nat → Prop} {xs : List α} (hit : IterW N P gf lb encs O1 O2 xs w) (hNw : N ≤ w.heap.size) (hO1 : ∀ q, O1 q → q < w.heap.size)
    (I : List α → (Nat → Prop) → World → Prop) (Ix : Code → List α → (Nat → Prop) → World → Prop)
    (hI : ∀ s R W W', I s R W → (∀ q, R q → W'.heap[q]? = W.heap[q]?) → (∀ q, q < N → W'.heap[q]? = W.heap[q]?) → W.heap.size ≤ W'.heap.size → I s R W') (hIl : ∀ s R W q, I s R W → R q → q < W.heap.size) (hIo : ∀ s R W q, I s R W → R q → N ≤ q ∨ Lone W q)
    (hX : ∀ c s R W W', Ix c s R W → (∀ q, R q → W'.heap[q]? = W.heap[q]?) → (∀ q, q < N → W'.heap[q]? = W.heap[q]?) → W.heap.size ≤ W'.heap.size → Ix c s R W') (hXl : ∀ c s R W q, Ix c s R W → R q → q < W.heap.size) (hXo : ∀ c s R W q, Ix c s R W → R q → N ≤ q ∨ Lone W q)
    (R0 : Nat → Prop) (h0 : I [] R0 w) (hR0 : ∀ q, R0 q → ¬ O1 q)
    (hround : ∀ (l : Nat) (pre : List α) (x : α) (R : Nat → Prop) (W : World) (K : Act → World → Prop) (o : Obj), pre.length ≤ 1000000000 → w.heap.size < l → W.heap[l]? = some o → ¬ R l → I pre R W →
      (∀ a' W', KeepsP R W W' → (∀ lo : Obj, lo.isCells = false → body.wpIn (Fence.wide.inRound l) (n - 1 - 1) P (notePost l lo W (W'.putObj l lo) R I Ix (pre ++ [x])) a' (W'.putObj l lo)) → K a' W') →
      assign.wpIn (Fence.wide.inRound l) (n - 1 - 1) P (Exit.then K (fun _ _ _ => False)) { tmps := (ps.zip (encs x)).foldl (fun t (p, v) => t.setIfInBounds p v) a.tmps, defers := [] } W)
    (hdone : ∀ (D : Nat) (R : Nat → Prop) (W : World), w.heap.size ≤ D → KeepsP (fun q => O2 q ∨ R0 q) w W → ¬ R D → I xs R W → W.heap[D]? = some (.deferred (some [])) → Q .normal { a with defers := { target := .collected D, args := #[] } :: a.defers } W)
    (hstop : ∀ (D : Nat) (R : Nat → Prop) (c : Code) (pre : List α) (W : World), w.heap.size ≤ D → KeepsP (fun q => O2 q ∨ R0 q) w W → ¬ R D → pre <+: xs → Ix c pre R W → W.heap[D]? = some (.deferred (some [])) → c.wpIn Fence.wide n P Q { a with defers := { target := .collected D, args := #[] } :: a.defers } W) :
    (Code.rangeFunc g ps assign body).wpIn Fence.wide n P Q a w := by
  refine wpIn_rangeFunc fun fn hfn => ?_
  have hro : Fence.wide.round = none := rfl
  rw [hro]
  obtain ⟨rc, hrc⟩ : ∃ rc : LoopState → Option Code → Loop, rc = fun st pe => { state := st, pending := pe, fn, tmps := a.tmps, params := ps, assign, body, defers := w.heap.size } := ⟨_, rfl⟩
  have hent := run_enterLoop_outer (P := P) (w := w) fn a.tmps ps assign body
  obtain ⟨D, hD⟩ : ∃ D, w.heap.size = D := ⟨_, rfl⟩
  obtain ⟨l, hl0⟩ : ∃ l, w.heap.size + 1 = l := ⟨_, rfl⟩
  obtain ⟨V, hV⟩ : ∃ V, (w.alloc (.deferred (some []))).alloc (.loop { state := .ready, pending := none, fn, tmps := a.tmps, params := ps, assign, body, defers := w.heap.size }) = V := ⟨_, rfl⟩
  rw [hV] at hent
  have hVs : V.heap.size = w.heap.size + 2 := by rw [← hV]; simp
  have hVl : V.heap[l]? = some (.loop (rc .ready none)) := by rw [← hV, hrc]; exact heap_alloc_at' _ _ (by simp; exact hl0.symm)
  have hVd : V.heap[D]? = some (.deferred (some [])) := by rw [← hV]; exact heap_alloc_off (heap_alloc_at' _ _ hD.symm) _
  have hVb : Below w.heap.size w V := by rw [← hV]; exact bl_alloc (bl_alloc (Below.refl _ _) _) _
  have hVi : I [] R0 V := hI _ _ _ _ h0 (fun q hq => hVb.block q (hIl _ _ _ _ h0 hq)) (fun q hq => hVb.block q (by omega)) hVb.size
  refine ⟨l, _, V, { target := .fn (.func gf) lb, args := #[.func (.yield l) #[] #[]] }, V, gf, #[.func (.yield l) #[] #[]] ++ lb, V, by rw [← hl0]; exact hent, ?_, ?_, ?_, fun _ => h1, ?_⟩
  · simp only [resolve, hg]
    simp [go_sem]
  · intro f' hf'
    simp [Target.leads] at hf'
    subst hf'
    exact trivial
  · simp [invoke, go_sem, eg]
  · have hJ : NoteY N P l encs (fun W Qs s => ∃ R : Nat → Prop, (∀ q, Qs q ↔ R q ∨ q = l ∨ q = D) ∧ ¬ R l ∧ ¬ R D ∧ I s R W ∧ W.heap[l]? = some (.loop (rc .ready none)) ∧ W.heap[D]? = some (.deferred (some [])))
        (fun W Qs s => ∃ (c : Code) (R : Nat → Prop), (∀ q, Qs q ↔ R q ∨ q = l ∨ q = D) ∧ ¬ R l ∧ ¬ R D ∧ Ix c s R W ∧ W.heap[l]? = some (.loop (rc .done (some c))) ∧ W.heap[D]? = some (.deferred (some []))) := by
      refine ⟨?_, ?_, ?_, ?_, ?_, ?_, ?_⟩
      · rintro W W' Qs s ⟨R, hQ, n1, n2, hi, hl, hd⟩ hq hqN hs
        exact ⟨R, hQ, n1, n2, hI _ _ _ _ hi (fun q hr => hq q ((hQ q).2 (.inl hr))) hqN hs, (hq l ((hQ l).2 (.inr (.inl rfl)))).trans hl, (hq D ((hQ D).2 (.inr (.inr rfl)))).trans hd⟩
      · rintro W W' Qs s ⟨c, R, hQ, n1, n2, hi, hl, hd⟩ hq hqN hs
        exact ⟨c, R, hQ, n1, n2, hX _ _ _ _ _ hi (fun q hr => hq q ((hQ q).2 (.inl hr))) hqN hs, (hq l ((hQ l).2 (.inr (.inl rfl)))).trans hl, (hq D ((hQ D).2 (.inr (.inr rfl)))).trans hd⟩
      · rintro W Qs s q ⟨R, hQ, n1, n2, hi, hl, hd⟩ hq
        rcases (hQ q).1 hq with h | rfl | rfl
        · exact hIl _ _ _ _ hi h
        · exact lt_of_heap hl
        · exact lt_of_heap hd
      · rintro W Qs s q ⟨c, R, hQ, n1, n2, hi, hl, hd⟩ hq
        rcases (hQ q).1 hq with h | rfl | rfl
        · exact hXl _ _ _ _ _ hi h
        · exact lt_of_heap hl
        · exact lt_of_heap hd
      · rintro W Qs s q ⟨R, hQ, n1, n2, hi, hl, hd⟩ hq
        rcases (hQ q).1 hq with h | rfl | rfl
        · exact hIo _ _ _ _ hi h
        · exact .inl (by omega)
        · exact .inl (by omega)
      · rintro W Qs s q ⟨c, R, hQ, n1, n2, hi, hl, hd⟩ hq
        rcases (hQ q).1 hq with h | rfl | rfl
        · exact hXo _ _ _ _ _ hi h
        · exact .inl (by omega)
        · exact .inl (by omega)
      · rintro W Qs pre x ⟨R, hQ, n1, n2, hi, hl, hd⟩ hlen
        have hy := run_yield (P := P) (args := encs x) hl (by rw [hrc]; exact hps x)
        rw [hrc] at hy
        refine anyDepthY rfl 1 (m := n - 1 - 1) ⟨fn, _, assign, body, hy, roundIn_of_wpIn hfn (hround l pre x R W _ _ hlen (by omega) hl n1 hi fun a' W' hk hb => ?_)⟩
        have hl' := (hk.block l (lt_of_heap hl) n1).trans hl
        have hd' := (hk.block D (lt_of_heap hd) n2).trans hd
        have hll := lt_of_heap hl'
        refine ⟨_, run_beginRound hl' (by rw [hrc]), wpIn_mono (hb (.loop { rc .ready none with state := .busy }) rfl) ?_⟩
        have fin : ∀ (jump : Option Code) (W3 : World), KeepsP R (W'.putObj l (.loop { rc .ready none with state := .busy })) W3 →
            (Instr.endRound l jump).run P W3 = .ok (.bool jump.isNone) (W3.putObj l (.loop (rc (if jump.isNone then .ready else .done) jump))) ∧
            (W3.putObj l (.loop (rc (if jump.isNone then .ready else .done) jump))).heap[l]? = some (.loop (rc (if jump.isNone then .ready else .done) jump)) ∧
            (W3.putObj l (.loop (rc (if jump.isNone then .ready else .done) jump))).heap[D]? = some (.deferred (some [])) ∧
            KeepsP Qs W (W3.putObj l (.loop (rc (if jump.isNone then .ready else .done) jump))) := fun jump W3 hk3 => by
          have hl3 := (hk3.block l (by simpa using hll) n1).trans (World.putObj_heap_same hll)
          have := run_endRound (P := P) jump hl3
          rw [hrc] at this ⊢
          refine ⟨this, World.putObj_heap_same (lt_of_heap hl3), (World.putObj_heap_other (by omega)).trans ((hk3.block D (by simpa using lt_of_heap hd') n2).trans ((World.putObj_heap_other (by omega)).trans hd')), ?_⟩
          have e1 : KeepsP Qs W W' := ⟨hk.os, hk.tape, hk.output, hk.size, fun q hq hn => hk.block q hq (fun e => hn ((hQ q).2 (.inl e)))⟩
          have hQl : Qs l := (hQ l).2 (.inr (.inl rfl))
          have e2 := e1.trans (KeepsP.putObj (O := Qs) W' (.loop { rc .ready none with state := .busy }) hQl) (fun _ _ h => h) (fun _ _ h => h) (O'' := Qs)
          rw [hrc] at e2 hk3
          have e3 := e2.trans hk3 (fun _ _ h => h) (fun q _ h => (hQ q).2 (.inl h)) (O'' := Qs)
          exact e3.trans (KeepsP.putObj (O := Qs) W3 _ hQl) (fun _ _ h => h) (fun _ _ h => h)
        have grow : ∀ (R' : Nat → Prop), (∀ q, R' q → R q ∨ W.heap.size ≤ q) → ¬ R' l ∧ ¬ R' D ∧ ∀ q, (R' q ∨ q = l ∨ q = D) → Qs q ∨ W.heap.size ≤ q := fun R' hg => by
          have q1 := lt_of_heap hl
          have q2 := lt_of_heap hd
          refine ⟨fun e => ?_, fun e => ?_, fun q hq => ?_⟩
          · rcases hg l e with h | h
            · exact n1 h
            · omega
          · rcases hg D e with h | h
            · exact n2 h
            · omega
          · rcases hq with h | h
            · rcases hg q h with h | h
              · exact .inl ((hQ q).2 (.inl h))
              · exact .inr h
            · exact .inl ((hQ q).2 (.inr h))
        have stay : ∀ (o : Obj) (R' : Nat → Prop) (W3 : World), ¬ R' l → ∀ q, R' q → (W3.putObj l o).heap[q]? = W3.heap[q]? := fun o R' W3 hn q hq => World.putObj_heap_other (fun e => hn (by rw [← e]; exact hq))
        rintro e a3 W3 hp
        cases e with
        | normal =>
          obtain ⟨hk3, R', hg, hi3⟩ := hp
          obtain ⟨hr, hl4, hd4, hk4⟩ := fin none W3 hk3
          obtain ⟨m1, m2, m3⟩ := grow R' hg
          exact ⟨_, _, hr, hk4, fun q => R' q ∨ q = l ∨ q = D, m3, .inl ⟨rfl, R', fun _ => Iff.rfl, m1, m2, hI _ _ _ _ hi3 (stay _ _ _ m1) (fun q hq => World.putObj_heap_other (by omega)) (by simp), hl4, hd4⟩⟩
        | ret =>
          obtain ⟨hk3, R', hg, hi3⟩ := hp
          obtain ⟨hr, hl4, hd4, hk4⟩ := fin (some .ret) W3 hk3
          obtain ⟨m1, m2, m3⟩ := grow R' hg
          exact ⟨_, _, hr, hk4, fun q => R' q ∨ q = l ∨ q = D, m3, .inr ⟨rfl, .ret, R', fun _ => Iff.rfl, m1, m2, hX _ _ _ _ _ hi3 (stay _ _ _ m1) (fun q hq => World.putObj_heap_other (by omega)) (by simp), hl4, hd4⟩⟩
        | exit id =>
          obtain ⟨hk3, R', hg, hi3⟩ := hp
          obtain ⟨hr, hl4, hd4, hk4⟩ := fin (some (.exit id)) W3 hk3
          obtain ⟨m1, m2, m3⟩ := grow R' hg
          exact ⟨_, _, hr, hk4, fun q => R' q ∨ q = l ∨ q = D, m3, .inr ⟨rfl, .exit id, R', fun _ => Iff.rfl, m1, m2, hX _ _ _ _ _ hi3 (stay _ _ _ m1) (fun q hq => World.putObj_heap_other (by omega)) (by simp), hl4, hd4⟩⟩
        | goto t =>
          obtain ⟨hk3, R', hg, hi3⟩ := hp
          obtain ⟨hr, hl4, hd4, hk4⟩ := fin (some (.goto t)) W3 hk3
          obtain ⟨m1, m2, m3⟩ := grow R' hg
          exact ⟨_, _, hr, hk4, fun q => R' q ∨ q = l ∨ q = D, m3, .inr ⟨rfl, .goto t, R', fun _ => Iff.rfl, m1, m2, hX _ _ _ _ _ hi3 (stay _ _ _ m1) (fun q hq => World.putObj_heap_other (by omega)) (by simp), hl4, hd4⟩⟩
        | panic ch => exact hp.elim
        | outgrown => exact hp.elim
    have nR : ¬ R0 l ∧ ¬ R0 D := ⟨fun e => by have := hIl _ _ _ _ h0 e; omega, fun e => by have := hIl _ _ _ _ h0 e; omega⟩
    refine (callsIn_wide (n := n - 1)).2 ?_
    refine (hit l _ _ V (fun q => R0 q ∨ q = l ∨ q = D) hJ hVb ⟨R0, fun _ => Iff.rfl, nR.1, nR.2, hVi, hVl, hVd⟩ (fun q hq => ?_)).mono ?_
    · rcases hq with h | rfl | rfl
      · exact hR0 q h
      · exact fun e => by have := hO1 _ e; omega
      · exact fun e => by have := hO1 _ e; omega
    · rintro e W2 ⟨⟨v, rfl⟩, hk2, Q', hgr, hfin⟩
      have hkw : ∀ o, KeepsP (fun q => O2 q ∨ R0 q) w (W2.putObj l o) := fun o =>
        ⟨(hk2.os.trans hVb.os), hk2.tape.trans hVb.tape, hk2.output.trans hVb.output, by have := hVb.size; have := hk2.size; simp; omega, fun q hq hn => (World.putObj_heap_other (by omega)).trans ((hk2.block q (by omega) (fun h => by
          rcases h with h | h | h | h
          · exact hn (.inl h)
          · exact hn (.inr h)
          · omega
          · omega)).trans (hVb.block q hq))⟩
      subst hD
      rcases hfin with ⟨R, hQ, n1, n2, hi, hl, hd⟩ | ⟨pre, hpre, c, R, hQ, n1, n2, hi, hl, hd⟩
      · refine ⟨none, _, by have := run_endLoop (P := P) hl (by rw [hrc]; simp); rw [hrc] at this; exact this, ?_⟩
        exact hdone w.heap.size R _ (by omega) (hkw _) n2 (hI _ _ _ _ hi (fun q hq => World.putObj_heap_other (fun e => n1 (by rw [← e]; exact hq))) (fun q hq => World.putObj_heap_other (by omega)) (by simp)) ((World.putObj_heap_other (by omega)).trans hd)
      · refine ⟨some c, _, by have := run_endLoop (P := P) hl (by rw [hrc]; simp); rw [hrc] at this; exact this, ?_⟩
        exact hstop w.heap.size R c pre _ (by omega) (hkw _) n2 hpre (hX _ _ _ _ _ hi (fun q hq => World.putObj_heap_other (fun e => n1 (by rw [← e]; exact hq))) (fun q hq => World.putObj_heap_other (by omega)) (by simp)) ((World.putObj_heap_other (by omega)).trans hd)

end Go.Proofs.Ytjoihijlcpnhoaa
