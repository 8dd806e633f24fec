/- A region that draws its order, three operations side by side. No program is named here. -/
import Derived.Test.YtfbmjecikilghaaOrd
namespace Go.Proofs.Ytfbmjecikilghaa
open Go

section
variable {P : Program} {ops : Array Oper} {md : Region.Mode}

/-- An order in which two operations may stand side by side. -/
inductive OT3 where
  | fin (S : List Nat) (s : Option Nat)
  | one (S : List Nat) (e : Nat) (r : OT3)
  | two (S : List Nat) (e1 : Nat) (r1 : OT3) (e2 : Nat) (r2 : OT3)
  | three (S : List Nat) (e1 : Nat) (r1 : OT3) (e2 : Nat) (r2 : OT3) (e3 : Nat) (r3 : OT3)

def OrdT3 (P : Program) (ops : Array Oper) (Q : Act → World → Prop) : OT3 → (World → Prop) → Act → World → Prop
  | .fin S none, I, a, w => StI P ops I S a (fun a1 => Q a1 w)
  | .fin S (some e), I, a, w => StI P ops I S a (fun a1 => wpOp P ops NoExit e Q a1 w)
  | .one S e r, I, a, w => StI P ops I S a (fun a1 => wpOp P ops NoExit e (fun a' w' => ∃ I' : World → Prop, (∀ W, I' W → I W) ∧ I' w' ∧ OrdT3 P ops Q r I' a' w') a1 w)
  | .two S e1 r1 e2 r2, I, a, w => StI P ops I S a (fun a1 =>
      wpOp P ops NoExit e1 (fun a' w' => ∃ I' : World → Prop, (∀ W, I' W → I W) ∧ I' w' ∧ OrdT3 P ops Q r1 I' a' w') a1 w ∧
      wpOp P ops NoExit e2 (fun a' w' => ∃ I' : World → Prop, (∀ W, I' W → I W) ∧ I' w' ∧ OrdT3 P ops Q r2 I' a' w') a1 w)
  | .three S e1 r1 e2 r2 e3 r3, I, a, w => StI P ops I S a (fun a1 =>
      wpOp P ops NoExit e1 (fun a' w' => ∃ I' : World → Prop, (∀ W, I' W → I W) ∧ I' w' ∧ OrdT3 P ops Q r1 I' a' w') a1 w ∧
      wpOp P ops NoExit e2 (fun a' w' => ∃ I' : World → Prop, (∀ W, I' W → I W) ∧ I' w' ∧ OrdT3 P ops Q r2 I' a' w') a1 w ∧
      wpOp P ops NoExit e3 (fun a' w' => ∃ I' : World → Prop, (∀ W, I' W → I W) ∧ I' w' ∧ OrdT3 P ops Q r3 I' a' w') a1 w)

def ot3Chk (md : Region.Mode) (ops : Array Oper) (snk : Nat) : OT3 → Array Bool → Bool
  | .fin S none, l => match stChk md ops snk S l with
      | none => false
      | some l' => (Region.ready md ops l').isEmpty
  | .fin S (some e), l => match stChk md ops snk S l with
      | none => false
      | some l' => e == snk && Region.ready md ops l' == [e] && (Region.ready md ops (l'.setIfInBounds e true)).isEmpty
  | .one S e r, l => match stChk md ops snk S l with
      | none => false
      | some l' => Region.ready md ops l' == [e] && e != snk && ot3Chk md ops snk r (l'.setIfInBounds e true)
  | .two S e1 r1 e2 r2, l => match stChk md ops snk S l with
      | none => false
      | some l' => Region.ready md ops l' == [e1, e2] && e1 != snk && e2 != snk && ot3Chk md ops snk r1 (l'.setIfInBounds e1 true) && ot3Chk md ops snk r2 (l'.setIfInBounds e2 true)
  | .three S e1 r1 e2 r2 e3 r3, l => match stChk md ops snk S l with
      | none => false
      | some l' => Region.ready md ops l' == [e1, e2, e3] && e1 != snk && e2 != snk && e3 != snk && ot3Chk md ops snk r1 (l'.setIfInBounds e1 true) && ot3Chk md ops snk r2 (l'.setIfInBounds e2 true) && ot3Chk md ops snk r3 (l'.setIfInBounds e3 true)

/-- The number of operations; both ways are as long. -/
def ot3Len : OT3 → Option Nat
  | .fin S none => some S.length
  | .fin S (some _) => some (S.length + 1)
  | .one S _ r => (ot3Len r).map fun n => S.length + (1 + n)
  | .two S _ r1 _ r2 => match ot3Len r1, ot3Len r2 with
      | some n, some m => if n = m then some (S.length + (1 + n)) else none
      | _, _ => none
  | .three S _ r1 _ r2 _ r3 => match ot3Len r1, ot3Len r2, ot3Len r3 with
      | some n, some m, some o => if n = m ∧ n = o then some (S.length + (1 + n)) else none
      | _, _, _ => none

theorem OrdT3_sound {snk : Nat} {Q : Act → World → Prop} (hsel : Region.noSelect ops = true) (hsnk : snkB md ops snk = true) :
    ∀ (t : OT3) (n : Nat) (I : World → Prop) (l : Array Bool) (a : Act) (w : World), Closed md ops l → I w → ot3Len t = some n → ot3Chk md ops snk t l = true → OrdT3 P ops Q t I a w → AnyI P md ops I snk Q n l a w
  | .fin S none, n, I, l, a, w, hcl, hI, hn, hc, h => by
    simp only [ot3Len, Option.some.injEq] at hn
    subst hn
    simp only [ot3Chk] at hc
    split at hc
    · cases hc
    · rename_i l' hst
      have := StI_sound (Q := Q) hsel hsnk w hI 0 l' (fun a1 => Q a1 w) (fun a1 _ h1 => ⟨by simpa using hc, h1⟩) S l a hcl hst h
      simpa using this
  | .fin S (some e), n, I, l, a, w, hcl, hI, hn, hc, h => by
    simp only [ot3Len, Option.some.injEq] at hn
    subst hn
    simp only [ot3Chk] at hc
    split at hc
    · cases hc
    · rename_i l' hst
      simp only [Bool.and_eq_true, beq_iff_eq, List.isEmpty_iff] at hc
      obtain ⟨⟨rfl, hr⟩, he⟩ := hc
      refine StI_sound (Q := Q) hsel hsnk w hI 1 l' _ (fun a1 _ h1 => ⟨fun h0 => (by rw [hr] at h0; cases h0), fun i hi => ?_⟩) S l a hcl hst h
      rw [hr, List.mem_singleton] at hi
      subst hi
      exact wpOp_mono (fun a' w' hq => ⟨fun hn => (hn rfl).elim, he, hq⟩) h1
  | .one S e r, n, I, l, a, w, hcl, hI, hn, hc, h => by
    simp only [ot3Len, Option.map_eq_some_iff] at hn
    obtain ⟨m, hm, rfl⟩ := hn
    simp only [ot3Chk] at hc
    split at hc
    · cases hc
    · rename_i l' hst
      simp only [Bool.and_eq_true, beq_iff_eq, bne_iff_ne, ne_eq] at hc
      obtain ⟨⟨hr, hne⟩, hrest⟩ := hc
      refine StI_sound (Q := Q) hsel hsnk w hI (1 + m) l' _ (fun a1 hcl' h1 => ?_) S l a hcl hst h
      rw [Nat.add_comm 1]
      refine ⟨fun h0 => (by rw [hr] at h0; cases h0), fun i hi => ?_⟩
      rw [hr, List.mem_singleton] at hi
      subst hi
      exact wpOp_mono (fun a' w' ⟨I', hII, hI', hq⟩ => ⟨fun _ => hII _ hI', AnyI.mono hII _ _ _ _ (OrdT3_sound hsel hsnk r m I' _ a' w' (hcl'.step (by rw [hr]; exact List.mem_singleton.2 rfl)) hI' hm hrest hq)⟩) h1
  | .two S e1 r1 e2 r2, n, I, l, a, w, hcl, hI, hn, hc, h => by
    simp only [ot3Len] at hn
    split at hn
    case h_2 => cases hn
    rename_i n1 n2 hn1 hn2
    split at hn
    case isFalse => cases hn
    rename_i heq
    subst heq
    simp only [Option.some.injEq] at hn
    subst hn
    simp only [ot3Chk] at hc
    split at hc
    · cases hc
    · rename_i l' hst
      simp only [Bool.and_eq_true, beq_iff_eq, bne_iff_ne, ne_eq] at hc
      obtain ⟨⟨⟨⟨hr, hne1⟩, hne2⟩, hrest1⟩, hrest2⟩ := hc
      refine StI_sound (Q := Q) hsel hsnk w hI (1 + n1) l' _ (fun a1 hcl' h1 => ?_) S l a hcl hst h
      rw [Nat.add_comm 1]
      refine ⟨fun h0 => (by rw [hr] at h0; cases h0), fun i hi => ?_⟩
      rw [hr] at hi
      simp only [List.mem_cons, List.not_mem_nil, or_false] at hi
      rcases hi with rfl | rfl
      · exact wpOp_mono (fun a' w' ⟨I', hII, hI', hq⟩ => ⟨fun _ => hII _ hI', AnyI.mono hII _ _ _ _ (OrdT3_sound hsel hsnk r1 n1 I' _ a' w' (hcl'.step (by rw [hr]; simp)) hI' hn1 hrest1 hq)⟩) h1.1
      · exact wpOp_mono (fun a' w' ⟨I', hII, hI', hq⟩ => ⟨fun _ => hII _ hI', AnyI.mono hII _ _ _ _ (OrdT3_sound hsel hsnk r2 n1 I' _ a' w' (hcl'.step (by rw [hr]; simp)) hI' hn2 hrest2 hq)⟩) h1.2
  | .three S e1 r1 e2 r2 e3 r3, n, I, l, a, w, hcl, hI, hn, hc, h => by
    simp only [ot3Len] at hn
    split at hn
    case h_2 => cases hn
    rename_i n1 n2 n3 hn1 hn2 hn3
    split at hn
    case isFalse => cases hn
    rename_i heq
    obtain ⟨heq1, heq2⟩ := heq
    subst heq1 heq2
    simp only [Option.some.injEq] at hn
    subst hn
    simp only [ot3Chk] at hc
    split at hc
    · cases hc
    · rename_i l' hst
      simp only [Bool.and_eq_true, beq_iff_eq, bne_iff_ne, ne_eq] at hc
      obtain ⟨⟨⟨⟨⟨⟨hr, hne1⟩, hne2⟩, hne3⟩, hrest1⟩, hrest2⟩, hrest3⟩ := hc
      refine StI_sound (Q := Q) hsel hsnk w hI (1 + n1) l' _ (fun a1 hcl' h1 => ?_) S l a hcl hst h
      rw [Nat.add_comm 1]
      refine ⟨fun h0 => (by rw [hr] at h0; cases h0), fun i hi => ?_⟩
      rw [hr] at hi
      simp only [List.mem_cons, List.not_mem_nil, or_false] at hi
      rcases hi with rfl | rfl | rfl
      · exact wpOp_mono (fun a' w' ⟨I', hII, hI', hq⟩ => ⟨fun _ => hII _ hI', AnyI.mono hII _ _ _ _ (OrdT3_sound hsel hsnk r1 n1 I' _ a' w' (hcl'.step (by rw [hr]; simp)) hI' hn1 hrest1 hq)⟩) h1.1
      · exact wpOp_mono (fun a' w' ⟨I', hII, hI', hq⟩ => ⟨fun _ => hII _ hI', AnyI.mono hII _ _ _ _ (OrdT3_sound hsel hsnk r2 n1 I' _ a' w' (hcl'.step (by rw [hr]; simp)) hI' hn2 hrest2 hq)⟩) h1.2.1
      · exact wpOp_mono (fun a' w' ⟨I', hII, hI', hq⟩ => ⟨fun _ => hII _ hI', AnyI.mono hII _ _ _ _ (OrdT3_sound hsel hsnk r3 n1 I' _ a' w' (hcl'.step (by rw [hr]; simp)) hI' hn3 hrest3 hq)⟩) h1.2.2

def ot3Snk : OT3 → Option Nat
  | .fin _ s => s
  | .one _ _ r => ot3Snk r
  | .two _ _ r _ _ => ot3Snk r
  | .three _ _ r _ _ _ _ => ot3Snk r

/-- THE LAW, where two operations may stand side by side. -/
theorem wp_region_ordT3 {id : Nat} {Q : Exit → Act → World → Prop} {a : Act} {w : World} {l : List Oper} (I : World → Prop) (t : OT3) (hm : P.follows .mixedOrders = true)
    (hB : (Region.noSelect l.toArray && snkB .any l.toArray ((ot3Snk t).getD l.length) && ot3Chk .any l.toArray ((ot3Snk t).getD l.length) t (Array.replicate l.toArray.size false) && (ot3Len t == some l.toArray.size)) = true)
    (hI : I w.drew) (h : OrdT3 P l.toArray (fun a' w' => Q .normal a' w') t I a w.drew) : (Code.region id l.toArray true).wp P Q a w := by
  simp only [Bool.and_eq_true, beq_iff_eq] at hB
  obtain ⟨⟨⟨h1, h2⟩, h3⟩, h4⟩ := hB
  refine wp_region_any hm (wpAny_of_AnyI (I := I) (snk := (ot3Snk t).getD l.length) (Q := fun a' w' => Q .normal a' w') (fun _ _ h => h) _ _ _ _ ?_)
  exact OrdT3_sound (P := P) (Q := fun a' w' => Q .normal a' w') h1 h2 t _ I _ a _ (closed_none _) hI h4 h3 h

theorem ot3N {I : World → Prop} {Q : Act → World → Prop} {r : OT3} {a : Act} {w : World} (h1 : I w) (h2 : OrdT3 P ops Q r I a w) : OnNormal (fun a' w' => ∃ I' : World → Prop, (∀ W, I' W → I W) ∧ I' w' ∧ OrdT3 P ops Q r I' a' w') .normal a w := ⟨I, fun _ h => h, h1, h2⟩
theorem ot3To {I : World → Prop} (I' : World → Prop) {Q : Act → World → Prop} {r : OT3} {a : Act} {w : World} (h0 : ∀ W, I' W → I W) (h1 : I' w) (h2 : OrdT3 P ops Q r I' a w) : OnNormal (fun a' w' => ∃ I' : World → Prop, (∀ W, I' W → I W) ∧ I' w' ∧ OrdT3 P ops Q r I' a' w') .normal a w := ⟨I', h0, h1, h2⟩
theorem ot3SnkI {I : World → Prop} {Q : Act → World → Prop} {S : List Nat} {e : Nat} {a : Act} {w : World} (h : StI P ops I S a (fun a1 => wpOp P ops NoExit e Q a1 w)) : OrdT3 P ops Q (.fin S (some e)) I a w := h
theorem ot3Fin {I : World → Prop} {Q : Act → World → Prop} {S : List Nat} {a : Act} {w : World} (h : StI P ops I S a (fun a1 => Q a1 w)) : OrdT3 P ops Q (.fin S none) I a w := h
theorem ot3One {I : World → Prop} {Q : Act → World → Prop} {S : List Nat} {e : Nat} {r : OT3} {a : Act} {w : World}
    (h : StI P ops I S a (fun a1 => wpOp P ops NoExit e (fun a' w' => ∃ I' : World → Prop, (∀ W, I' W → I W) ∧ I' w' ∧ OrdT3 P ops Q r I' a' w') a1 w)) : OrdT3 P ops Q (.one S e r) I a w := h
theorem ot3Two {I : World → Prop} {Q : Act → World → Prop} {S : List Nat} {e1 e2 : Nat} {r1 r2 : OT3} {a : Act} {w : World}
    (h : StI P ops I S a (fun a1 => wpOp P ops NoExit e1 (fun a' w' => ∃ I' : World → Prop, (∀ W, I' W → I W) ∧ I' w' ∧ OrdT3 P ops Q r1 I' a' w') a1 w ∧
      wpOp P ops NoExit e2 (fun a' w' => ∃ I' : World → Prop, (∀ W, I' W → I W) ∧ I' w' ∧ OrdT3 P ops Q r2 I' a' w') a1 w)) : OrdT3 P ops Q (.two S e1 r1 e2 r2) I a w := h
theorem ot3Three {I : World → Prop} {Q : Act → World → Prop} {S : List Nat} {e1 e2 e3 : Nat} {r1 r2 r3 : OT3} {a : Act} {w : World}
    (h : StI P ops I S a (fun a1 => wpOp P ops NoExit e1 (fun a' w' => ∃ I' : World → Prop, (∀ W, I' W → I W) ∧ I' w' ∧ OrdT3 P ops Q r1 I' a' w') a1 w ∧
      wpOp P ops NoExit e2 (fun a' w' => ∃ I' : World → Prop, (∀ W, I' W → I W) ∧ I' w' ∧ OrdT3 P ops Q r2 I' a' w') a1 w ∧
      wpOp P ops NoExit e3 (fun a' w' => ∃ I' : World → Prop, (∀ W, I' W → I W) ∧ I' w' ∧ OrdT3 P ops Q r3 I' a' w') a1 w)) : OrdT3 P ops Q (.three S e1 r1 e2 r2 e3 r3) I a w := h

end
end Go.Proofs.Ytfbmjecikilghaa
