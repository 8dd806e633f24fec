/- A region that draws its order, walked in one order: reads that hold in every world of a kind may go ahead of calls that keep that kind. No program is named here. -/
import Derived.StillTail
import Derived.WalkKit
namespace Go.Proofs.Ytjoihijlcpnhoaa
open Go

section
variable {P : Program} {ops : Array Oper} {md : Region.Mode}

def NoExit : Exit → Act → World → Prop := fun _ _ _ => False

theorem Oper.wp_exit {o : Oper} {a : Act} {w : World} {K : Act → World → Prop} {Q : Exit → Act → World → Prop} (hh : o.wp P a w K NoExit) : o.wp P a w K Q := by
  unfold Oper.wp at *
  generalize (execOp a.eval o).run P w = r at *
  cases r with
  | ok n w' =>
    cases n <;> simp only [Oper.upon] at hh ⊢ <;>
      first
        | exact hh
        | exact Calls.mono hh (fun e w'' he => by
            cases e with
            | returned v => exact he
            | panicked c => exact he.elim
            | outgrown => obtain ⟨_, _, h⟩ := he; exact h.elim)
        | exact Rows.mono hh (fun _ _ he => he)
  | halt x w' => cases x <;> simp only [Oper.upon] at hh ⊢ <;> first | exact hh | exact hh.elim

theorem wpOp_exit {i : Nat} {K : Act → World → Prop} {Q : Exit → Act → World → Prop} {a : Act} {w : World} (hh : wpOp P ops NoExit i K a w) : wpOp P ops Q i K a w := by
  unfold wpOp at *
  split
  · rename_i ho; simp only [ho] at hh; exact hh
  · rename_i o ho
    simp only [ho] at hh
    split
    · rename_i hw
      simp only [hw, if_true] at hh
      rcases hh with hh | ⟨_, _, _, h⟩
      · exact .inl (Oper.wp_exit hh)
      · exact h.elim
    · rename_i hw; simp only [hw] at hh; exact hh

/-- All orders; each world between two operations is of the kind I (behind the last one, 'snk', it need not be). -/
def AnyI (P : Program) (md : Region.Mode) (ops : Array Oper) (I : World → Prop) (snk : Nat) (Q : Act → World → Prop) : Nat → Array Bool → Act → World → Prop
  | 0, listed, a, w => Region.ready md ops listed = [] ∧ Q a w
  | n + 1, listed, a, w => (Region.ready md ops listed = [] → Q a w) ∧
    ∀ i ∈ Region.ready md ops listed, wpOp P ops NoExit i (fun a' w' => (i ≠ snk → I w') ∧ AnyI P md ops I snk Q n (listed.setIfInBounds i true) a' w') a w

theorem wpAny_of_AnyI {I : World → Prop} {snk : Nat} {Q : Act → World → Prop} {Q' : Exit → Act → World → Prop} (hQ : ∀ a w, Q a w → Q' .normal a w) :
    ∀ (n : Nat) (listed : Array Bool) (a : Act) (w : World), AnyI P md ops I snk Q n listed a w → wpAny P md ops Q' n listed a w
  | 0, _, _, _, h => ⟨h.1, hQ _ _ h.2⟩
  | n + 1, _, _, _, h => ⟨fun h0 => hQ _ _ (h.1 h0), fun i hi => wpOp_mono (fun a' w' h' => wpAny_of_AnyI hQ n _ a' w' h'.2) (wpOp_exit (h.2 i hi))⟩

/-- What an operation yields, by its value alone. -/
def valUpon (P : Program) (K : Value → World → Prop) : Result Next → Prop
  | .ok (.value u) w' => K u w'
  | .ok .skip w' => K undef w'
  | .ok (.enter f args) w' => Calls P f args w' fun
      | .returned u, w'' => K u w''
      | _, _ => False
  | .ok (.row r args) w' => Rows P r args w' K
  | _ => False

def Yld (P : Program) (ops : Array Oper) (W : World) (o : Oper) (v : Value) (a : Act) : Prop :=
  (Region.wanted o (yielded ops a.tmps) = true ∧ valUpon P (fun u w' => u = v ∧ w' = W) ((execOp a.eval o).run P W)) ∨ (Region.wanted o (yielded ops a.tmps) = false ∧ v = undef)

theorem Yld.of_same {W : World} {o : Oper} {v : Value} {a a' : Act} (hy : Yld P ops W o v a) (he : execOp a'.eval o = execOp a.eval o)
    (hw : Region.wanted o (yielded ops a'.tmps) = Region.wanted o (yielded ops a.tmps)) : Yld P ops W o v a' := by
  unfold Yld at *
  rw [he, hw]
  exact hy

/-- What an operation does from a frame with one slot written it does from the frame without, the slot written later. -/
theorem wpOp_put {I : World → Prop} {j : Nat} {oi oj : Oper} {v : Value} (hj : ops[j]? = some oj) (hap : oi.apart ops oj = true)
    (hsi : ∀ cs b, oi.op ≠ .select cs b) (hsj : ∀ cs b, oj.op ≠ .select cs b) {K K' : Act → World → Prop} {a : Act} {w : World}
    (hy : ∀ W, I W → Yld P ops W oi v a)
    (hK : ∀ a' w', (∀ W, I W → Yld P ops W oi v a') → K (a'.put oi.dst v) w' → K' a' w')
    (h : wpOp P ops NoExit j K (a.put oi.dst v) w) : wpOp P ops NoExit j K' a w := by
  obtain ⟨h1, h2, h3⟩ := Oper.apart_spec hap
  have keep : ∀ u, ∀ W, I W → Yld P ops W oi v (a.put oj.dst u) := fun u W hW =>
    (hy W hW).of_same (execOp_put oi hsi a oj.dst u h3) (wanted_put oi a oj.dst u h3)
  have keepD : ∀ (d : Deferred) u, ∀ W, I W → Yld P ops W oi v ({ a with defers := d :: a.defers }.put oj.dst u) := fun d u W hW =>
    (keep u W hW).of_same (by rw [show (({ a with defers := d :: a.defers } : Act).put oj.dst u).eval = (a.put oj.dst u).eval from by cases oj.dst <;> (funext x; cases x <;> rfl)])
      (by rw [show (({ a with defers := d :: a.defers } : Act).put oj.dst u).tmps = (a.put oj.dst u).tmps from by cases oj.dst <;> rfl])
  unfold wpOp at *
  simp only [hj] at *
  rw [wanted_put oj a oi.dst v h1] at h
  split
  · rename_i hw
    simp only [hw, if_true] at h
    rcases h with h | ⟨_, _, _, hf⟩
    case inr => exact hf.elim
    refine .inl ?_
    unfold Oper.wp at *
    rw [execOp_put oj hsj a oi.dst v h1] at h
    generalize (execOp a.eval oj).run P w = r at *
    cases r with
    | ok n w' =>
      cases n <;> simp only [Oper.upon] at h ⊢
      case value u => exact hK _ _ (keep u) (by rw [← Act.put_comm a v u h2]; exact h)
      case skip => exact hK _ _ (keep undef) (by rw [← Act.put_comm a v undef h2]; exact h)
      case defer d =>
        refine hK _ _ (keepD d undef) ?_
        rw [← Act.put_comm _ v undef h2]
        have e : ({ (a.put oi.dst v) with defers := d :: (a.put oi.dst v).defers } : Act) = ({ a with defers := d :: a.defers } : Act).put oi.dst v := by cases oi.dst <;> rfl
        rw [← e]; exact h
      case enter f args =>
        refine Calls.mono h (fun e w'' he => ?_)
        cases e with
        | returned u => exact hK _ _ (keep u) (by rw [← Act.put_comm a v u h2]; exact he)
        | panicked c => exact he
        | outgrown => exact he
      case row r args => exact Rows.mono h (fun u _ he => hK _ _ (keep u) (by rw [← Act.put_comm a v u h2]; exact he))
      all_goals exact h
    | halt x w' => cases x <;> simp only [Oper.upon] at h ⊢ <;> first | exact h | exact h.elim
  · rename_i hw
    simp only [hw] at h
    exact hK _ _ (keep undef) (by rw [← Act.put_comm a v undef h2]; exact h)

/-- With an operation all are listed for which it waits. -/
def Closed (md : Region.Mode) (ops : Array Oper) (listed : Array Bool) : Prop :=
  ∀ (j : Nat) (o : Oper), ops[j]? = some o → listed.getD j false = true → ∀ e ∈ o.after, Region.binds md e = true → listed.getD e.on false = true

theorem Closed.step {listed : Array Bool} (h : Closed md ops listed) {i : Nat} (hi : i ∈ Region.ready md ops listed) : Closed md ops (listed.setIfInBounds i true) := by
  intro j o ho hl e he hb
  refine getD_set_true ?_
  by_cases hji : j = i
  · subst hji
    obtain ⟨_, o', ho', hall⟩ := mem_ready.1 hi
    rw [ho] at ho'
    cases ho'
    exact hall e he hb
  · rw [getD_set_ne false (Ne.symm hji)] at hl
    exact h j o ho hl e he hb

theorem closed_none (n : Nat) : Closed md ops (Array.replicate n false) := by
  intro j o _ hl
  exfalso
  by_cases hj : j < n
  · simp [hj] at hl
  · simp [hj] at hl

/-- An operation that yields one value in every world of the kind may go first. -/
theorem AnyI_first {I : World → Prop} {snk : Nat} {Q : Act → World → Prop} {i : Nat} {oi : Oper} {v : Value} (hi : ops[i]? = some oi) (hne : i ≠ snk)
    (hsel : ∀ (j : Nat) (o : Oper) cs b, ops[j]? = some o → o.op ≠ .select cs b)
    (hsnk : ∀ listed : Array Bool, Closed md ops listed → snk ∈ Region.ready md ops listed → ∀ j, j < ops.size → j ≠ snk → listed.getD j false = true) :
    ∀ (n : Nat) (listed : Array Bool) (a : Act) (w : World), Closed md ops listed →
      (∀ j oj, ops[j]? = some oj → j ≠ i → listed.getD j true = false → (∀ e ∈ oj.after, Region.binds md e = true → e.on ≠ i) → oi.apart ops oj = true) →
      i ∈ Region.ready md ops listed → (∀ W, I W → Yld P ops W oi v a) → I w →
      AnyI P md ops I snk Q n (listed.setIfInBounds i true) (a.put oi.dst v) w → AnyI P md ops I snk Q (n + 1) listed a w := by
  intro n
  have hlt : i < ops.size := (Array.getElem?_eq_some_iff.1 hi).1
  have own : ∀ (n : Nat) (listed : Array Bool) (a : Act) (w : World), (∀ W, I W → Yld P ops W oi v a) → I w →
      AnyI P md ops I snk Q n (listed.setIfInBounds i true) (a.put oi.dst v) w →
      wpOp P ops NoExit i (fun a' w' => (i ≠ snk → I w') ∧ AnyI P md ops I snk Q n (listed.setIfInBounds i true) a' w') a w := by
    intro n listed a w hy hI H
    unfold wpOp
    simp only [hi]
    rcases hy w hI with ⟨hw, hv⟩ | ⟨hw, rfl⟩
    · simp only [hw, if_true]; left; unfold Oper.wp
      generalize (execOp a.eval oi).run P w = r at hv
      cases r with
      | ok nx w' =>
        cases nx <;> simp only [valUpon, Oper.upon] at hv ⊢
        case value u => obtain ⟨rfl, rfl⟩ := hv; exact ⟨fun _ => hI, H⟩
        case skip => obtain ⟨rfl, rfl⟩ := hv; exact ⟨fun _ => hI, H⟩
        case enter f args =>
          refine Calls.mono hv (fun e w'' he => ?_)
          cases e with
          | returned u => obtain ⟨rfl, rfl⟩ := he; exact ⟨fun _ => hI, H⟩
          | panicked c => exact he.elim
          | outgrown => exact he.elim
        case row r args =>
          refine Rows.mono hv (fun u w'' he => ?_)
          obtain ⟨rfl, rfl⟩ := he; exact ⟨fun _ => hI, H⟩
      | halt x w' => cases x <;> exact hv.elim
    · simp only [hw, Bool.false_eq_true, if_false]; exact ⟨fun _ => hI, H⟩
  induction n with
  | zero =>
    intro listed a w hcl hfree hr hy hI H
    refine ⟨fun h => (by rw [h] at hr; cases hr), fun j hj => ?_⟩
    by_cases hji : j = i
    · subst hji; exact own 0 listed a w hy hI H
    · have := ready_mono hj hji
      rw [H.1] at this
      cases this
  | succ n ih =>
    intro listed a w hcl hfree hr hy hI H
    refine ⟨fun h => (by rw [h] at hr; cases hr), fun j hj => ?_⟩
    by_cases hji : j = i
    · subst hji; exact own (n + 1) listed a w hy hI H
    · have h1 := H.2 j (ready_mono hj hji)
      obtain ⟨hjun, oj, hoj, hall⟩ := mem_ready.1 hj
      have hjs : j ≠ snk := fun e => by
        subst e
        have := hsnk listed hcl hj i hlt hne
        have h0 := (mem_ready.1 hr).1
        rcases Nat.lt_or_ge i listed.size with h' | h'
        · simp [h'] at h0 this; rw [h0] at this; cases this
        · simp [Array.getElem?_eq_none h'] at this
      have hnot : ∀ e ∈ oj.after, Region.binds md e = true → e.on ≠ i := fun e he hb heq => by
        have h1 := hall e he hb
        have h0 := (mem_ready.1 hr).1
        rw [heq] at h1
        rcases Nat.lt_or_ge i listed.size with h' | h'
        · simp [h'] at h0 h1; rw [h0] at h1; cases h1
        · simp [Array.getElem?_eq_none h'] at h1
      have hfree' : ∀ k ok, ops[k]? = some ok → k ≠ i → (listed.setIfInBounds j true).getD k true = false →
          (∀ e ∈ ok.after, Region.binds md e = true → e.on ≠ i) → oi.apart ops ok = true := fun k ok hk hki hun hno => by
        refine hfree k ok hk hki ?_ hno
        by_cases hjk : j = k
        · subst hjk; exact hjun
        · rw [getD_set_ne true hjk] at hun; exact hun
      refine wpOp_put (I := I) hoj (hfree j oj hoj hji hjun hnot) (fun cs b => hsel i oi cs b hi) (fun cs b => hsel j oj cs b hoj) hy (fun a' w' hy' hk => ?_) h1
      refine ⟨hk.1, ih (listed.setIfInBounds j true) a' w' (hcl.step hj) hfree' (ready_mono hr (Ne.symm hji)) hy' (hk.1 hjs) ?_⟩
      rw [Array.setIfInBounds_comm _ _ hji]
      exact hk.2

/-- A batch of operations each of which yields one value in every world of the kind. -/
def StI (P : Program) (ops : Array Oper) (I : World → Prop) : List Nat → Act → (Act → Prop) → Prop
  | [], a, F => F a
  | i :: r, a, F => ∃ o v, ops[i]? = some o ∧ (∀ W, I W → Yld P ops W o v a) ∧ StI P ops I r (a.put o.dst v) F

def OnNormal (K : Act → World → Prop) : Exit → Act → World → Prop
  | .normal, a, w => K a w
  | _, _, _ => False

/-- The order of the walk: batches, each with an operation behind it that keeps the kind; the last batch; the last operation of all, which need not keep it. -/
def OrdI (P : Program) (ops : Array Oper) (Q : Act → World → Prop) : (World → Prop) → List (List Nat × Nat) → List Nat → Option Nat → Act → World → Prop
  | I, [], fin, none, a, w => StI P ops I fin a (fun a1 => Q a1 w)
  | I, [], fin, some e, a, w => StI P ops I fin a (fun a1 => wpOp P ops NoExit e Q a1 w)
  | I, (S, e) :: r, fin, s, a, w => StI P ops I S a (fun a1 => wpOp P ops NoExit e (fun a' w' => ∃ I' : World → Prop, (∀ W, I' W → I W) ∧ I' w' ∧ OrdI P ops Q I' r fin s a' w') a1 w)

theorem AnyI.mono {I I' : World → Prop} {snk : Nat} {Q : Act → World → Prop} (hI : ∀ W, I' W → I W) : ∀ (n : Nat) (listed : Array Bool) (a : Act) (w : World), AnyI P md ops I' snk Q n listed a w → AnyI P md ops I snk Q n listed a w
  | 0, _, _, _, h => h
  | n + 1, _, _, _, h => ⟨h.1, fun i hi => wpOp_mono (fun a' w' h' => ⟨fun hn => hI _ (h'.1 hn), AnyI.mono hI n _ a' w' h'.2⟩) (h.2 i hi)⟩

def stChk (md : Region.Mode) (ops : Array Oper) (snk : Nat) : List Nat → Array Bool → Option (Array Bool)
  | [], l => some l
  | i :: r, l => if (Region.ready md ops l).contains i && Region.free md ops l i && i != snk then stChk md ops snk r (l.setIfInBounds i true) else none

def ordChk (md : Region.Mode) (ops : Array Oper) (snk : Nat) : List (List Nat × Nat) → List Nat → Option Nat → Array Bool → Bool
  | [], fin, none, l => match stChk md ops snk fin l with
      | none => false
      | some l' => (Region.ready md ops l').isEmpty
  | [], fin, some e, l => match stChk md ops snk fin l with
      | none => false
      | some l' => Region.ready md ops l' == [e] && (Region.ready md ops (l'.setIfInBounds e true)).isEmpty
  | (S, e) :: r, fin, s, l => match stChk md ops snk S l with
      | none => false
      | some l' => Region.ready md ops l' == [e] && e != snk && ordChk md ops snk r fin s (l'.setIfInBounds e true)

def ordLen : List (List Nat × Nat) → List Nat → Option Nat → Nat
  | [], fin, none => fin.length
  | [], fin, some _ => fin.length + 1
  | (S, _) :: r, fin, s => S.length + (1 + ordLen r fin s)

def markOne (md : Region.Mode) (ops : Array Oper) (i : Nat) (m : Array Bool) : Array Bool :=
  if m.getD i false then
    match ops[i]? with
    | some o => o.after.toList.foldl (fun m e => if Region.binds md e then m.setIfInBounds e.on true else m) m
    | none => m
  else m
def markGo (md : Region.Mode) (ops : Array Oper) : List Nat → Array Bool → Array Bool
  | [], m => m
  | i :: r, m => markGo md ops r (markOne md ops i m)
/-- The last operation waits for all others. -/
def snkB (md : Region.Mode) (ops : Array Oper) (snk : Nat) : Bool :=
  match ops[snk]? with
  | none => true
  | some _ =>
    let m := markGo md ops (List.range ops.size).reverse ((Array.replicate ops.size false).setIfInBounds snk true)
    (List.range ops.size).all fun j => m.getD j false

theorem snkB_spec {snk : Nat} (h : snkB md ops snk = true) (listed : Array Bool) (hcl : Closed md ops listed) (hr : snk ∈ Region.ready md ops listed) (j : Nat) (hj : j < ops.size) (hne : j ≠ snk) : listed.getD j false = true := by
  obtain ⟨_, o, ho, hall⟩ := mem_ready.1 hr
  have hgood : ∀ (l : List Nat) (m : Array Bool), (∀ k, m.getD k false = true → k = snk ∨ listed.getD k false = true) → ∀ k, (markGo md ops l m).getD k false = true → k = snk ∨ listed.getD k false = true := by
    intro l
    induction l with
    | nil => exact fun m hm => hm
    | cons i r ih =>
      intro m hm
      refine ih _ ?_
      unfold markOne
      split
      case isFalse => exact hm
      rename_i hmi
      split
      case h_2 => exact hm
      rename_i oi hoi
      have hon : ∀ e ∈ oi.after.toList, Region.binds md e = true → listed.getD e.on false = true := by
        intro e he hb
        rcases hm i hmi with rfl | hli
        · rw [ho] at hoi; cases hoi
          exact hall e (by simpa using he) hb
        · exact hcl i oi hoi hli e (by simpa using he) hb
      have : ∀ (es : List Edge) (m : Array Bool), (∀ e ∈ es, Region.binds md e = true → listed.getD e.on false = true) → (∀ k, m.getD k false = true → k = snk ∨ listed.getD k false = true) →
          ∀ k, (es.foldl (fun m e => if Region.binds md e then m.setIfInBounds e.on true else m) m).getD k false = true → k = snk ∨ listed.getD k false = true := by
        intro es
        induction es with
        | nil => exact fun m _ hm => hm
        | cons e es ihe =>
          intro m he hm
          rw [List.foldl_cons]
          refine ihe _ (fun e' he' => he e' (List.mem_cons_of_mem _ he')) ?_
          split
          case isFalse => exact hm
          rename_i hb
          intro k hk
          by_cases hke : k = e.on
          · subst hke; exact .inr (he e (List.mem_cons_self) hb)
          · rw [getD_set_ne false (Ne.symm hke)] at hk; exact hm k hk
      exact this _ m hon hm
  simp only [snkB, ho, List.all_eq_true, List.mem_range] at h
  have hstart : ∀ k, ((Array.replicate ops.size false).setIfInBounds snk true).getD k false = true → k = snk ∨ listed.getD k false = true := by
    intro k hk
    by_cases hks : k = snk
    · exact .inl hks
    · rw [getD_set_ne false (Ne.symm hks)] at hk
      exfalso
      by_cases hk' : k < ops.size
      · simp [hk'] at hk
      · simp [hk'] at hk
  rcases hgood _ _ hstart j (h j hj) with h1 | h1
  · exact (hne h1).elim
  · exact h1

theorem StI_sound {I : World → Prop} {snk : Nat} {Q : Act → World → Prop} (hsel : Region.noSelect ops = true) (hsnk : snkB md ops snk = true) (w : World) (hI : I w) (n : Nat) (l' : Array Bool) (F : Act → Prop)
    (hF : ∀ a, Closed md ops l' → F a → AnyI P md ops I snk Q n l' a w) :
    ∀ (S : List Nat) (l : Array Bool) (a : Act), Closed md ops l → stChk md ops snk S l = some l' → StI P ops I S a F → AnyI P md ops I snk Q (S.length + n) l a w
  | [], l, a, hcl, hc, h => by
    simp only [stChk, Option.some.injEq] at hc
    subst hc
    simpa using hF a hcl h
  | i :: r, l, a, hcl, hc, h => by
    simp only [stChk] at hc
    split at hc
    case isFalse => cases hc
    rename_i hb
    simp only [Bool.and_eq_true, List.contains_iff_mem, bne_iff_ne, ne_eq] at hb
    obtain ⟨⟨hr, hfr⟩, hne⟩ := hb
    obtain ⟨o, v, ho, hy, hrest⟩ := h
    have ih := StI_sound hsel hsnk w hI n l' F hF r _ _ (hcl.step hr) hc hrest
    have := AnyI_first (P := P) (md := md) (I := I) (snk := snk) (Q := Q) ho hne (Region.noSelect_spec hsel) (snkB_spec hsnk) (r.length + n) l a w hcl (Region.free_spec ho hfr) hr hy hI ih
    rw [List.length_cons, show r.length + 1 + n = r.length + n + 1 from by omega]
    exact this

theorem OrdI_sound {snk : Nat} {Q : Act → World → Prop} (hsel : Region.noSelect ops = true) (hsnk : snkB md ops snk = true) (fin : List Nat) (s : Option Nat) (hs : ∀ e, s = some e → e = snk) :
    ∀ (segs : List (List Nat × Nat)) (I : World → Prop) (l : Array Bool) (a : Act) (w : World), Closed md ops l → I w → ordChk md ops snk segs fin s l = true → OrdI P ops Q I segs fin s a w → AnyI P md ops I snk Q (ordLen segs fin s) l a w
  | [], I, l, a, w, hcl, hI, hc, h => by
    cases s with
    | none =>
      simp only [ordChk] at hc
      split at hc
      · cases hc
      · rename_i l' hst
        have := StI_sound (Q := Q) hsel hsnk w hI 0 l' (fun a1 => Q a1 w) (fun a1 _ h1 => ⟨by simpa using hc, h1⟩) fin l a hcl hst h
        simpa [ordLen] using this
    | some e =>
      obtain rfl := hs e rfl
      simp only [ordChk] at hc
      split at hc
      · cases hc
      · rename_i l' hst
        simp only [Bool.and_eq_true, beq_iff_eq, List.isEmpty_iff] at hc
        obtain ⟨hr, he⟩ := hc
        refine StI_sound (Q := Q) hsel hsnk w hI 1 l' _ (fun a1 _ h1 => ⟨fun h0 => (by rw [hr] at h0; cases h0), fun i hi => ?_⟩) fin l a hcl hst h
        rw [hr, List.mem_singleton] at hi
        subst hi
        exact wpOp_mono (fun a' w' hq => ⟨fun hn => (hn rfl).elim, he, hq⟩) h1
  | (S, e) :: r, I, l, a, w, hcl, hI, hc, h => by
    simp only [ordChk] at hc
    split at hc
    · cases hc
    · rename_i l' hst
      simp only [Bool.and_eq_true, beq_iff_eq, bne_iff_ne, ne_eq] at hc
      obtain ⟨⟨hr, hne⟩, hrest⟩ := hc
      refine StI_sound (Q := Q) hsel hsnk w hI (1 + ordLen r fin s) l' _ (fun a1 hcl' h1 => ?_) S l a hcl hst h
      rw [Nat.add_comm 1]
      refine ⟨fun h0 => (by rw [hr] at h0; cases h0), fun i hi => ?_⟩
      rw [hr, List.mem_singleton] at hi
      subst hi
      exact wpOp_mono (fun a' w' ⟨I', hII, hI', hq⟩ => ⟨fun _ => hII _ hI', AnyI.mono hII _ _ _ _ (OrdI_sound hsel hsnk fin s hs r I' _ a' w' (hcl'.step (by rw [hr]; exact List.mem_singleton.2 rfl)) hI' hrest hq)⟩) h1

/-- THE LAW. -/
theorem wp_region_ord {id : Nat} {Q : Exit → Act → World → Prop} {a : Act} {w : World} {l : List Oper} (I : World → Prop) (segs : List (List Nat × Nat)) (fin : List Nat) (s : Option Nat) (hm : P.follows .mixedOrders = true)
    (hB : (Region.noSelect l.toArray && snkB .any l.toArray (s.getD l.length) && ordChk .any l.toArray (s.getD l.length) segs fin s (Array.replicate l.toArray.size false) && (ordLen segs fin s == l.toArray.size)) = true)
    (hI : I w.drew) (h : OrdI P l.toArray (fun a' w' => Q .normal a' w') I segs fin s a w.drew) : (Code.region id l.toArray true).wp P Q a w := by
  simp only [Bool.and_eq_true, beq_iff_eq] at hB
  obtain ⟨⟨⟨h1, h2⟩, h3⟩, h4⟩ := hB
  refine wp_region_any hm (wpAny_of_AnyI (I := I) (snk := s.getD l.length) (Q := fun a' w' => Q .normal a' w') (fun _ _ h => h) _ _ _ _ ?_)
  have := OrdI_sound (P := P) (Q := fun a' w' => Q .normal a' w') h1 h2 fin s (fun e he => by subst he; rfl) segs I _ a _ (closed_none _) hI h3 h
  rw [h4] at this
  exact this

theorem upon_val {o : Oper} {a a2 : Act} {W : World} {d : Tmp} (hd : o.dst = some d) (hs : Nat.ble (d + 1) a.tmps.size = true) (hdf : a2.defers = a.defers) (h : ∀ K : Act → World → Prop, K a2 W → o.wp P a W K NoExit) :
    a2 = a.put o.dst (a2.tmps.getD d undef) ∧ valUpon P (fun u w' => u = a2.tmps.getD d undef ∧ w' = W) ((execOp a.eval o).run P W) := by
  have hlt : d < a.tmps.size := Nat.le_of_ble_eq_true hs
  have h1 := h (fun x y => x = a2 ∧ y = W) ⟨rfl, rfl⟩
  have key : ∀ u, a.put o.dst u = a2 → u = a2.tmps.getD d undef := by
    rintro u rfl
    simp [Act.put, hd, hlt]
  unfold Oper.wp at h1
  generalize (execOp a.eval o).run P W = r at *
  cases r with
  | ok nx w' =>
    cases nx <;> simp only [valUpon, Oper.upon] at h1 ⊢
    case value u => obtain ⟨h1, rfl⟩ := h1; exact ⟨by rw [← key u h1]; exact h1.symm, key u h1, rfl⟩
    case skip => obtain ⟨h1, rfl⟩ := h1; exact ⟨by rw [← key _ h1]; exact h1.symm, key _ h1, rfl⟩
    case defer x =>
      obtain ⟨h1, rfl⟩ := h1
      rw [← h1] at hdf
      have := congrArg List.length hdf
      simp [Act.put, hd] at this
    case enter f args =>
      refine ⟨?_, Calls.mono h1 (fun e w'' he => ?_)⟩
      · obtain ⟨e, w'', _, hR, _⟩ := h1 []
        cases e with
        | returned u => obtain ⟨hR, _⟩ := hR; rw [← key u hR]; exact hR.symm
        | panicked c => exact hR.elim
        | outgrown => obtain ⟨_, _, hf⟩ := hR; exact hf.elim
      · cases e with
        | returned u => obtain ⟨he, rfl⟩ := he; exact ⟨key u he, rfl⟩
        | panicked c => exact he.elim
        | outgrown => obtain ⟨_, _, hf⟩ := he; exact hf.elim
    case row r args =>
      refine ⟨?_, Rows.mono h1 (fun u w'' he => ⟨key u he.1, he.2⟩)⟩
      obtain ⟨u, w'', hR, _⟩ := h1 default []
      rw [← key u hR.1]; exact hR.1.symm
    all_goals exact h1.elim
  | halt x w' => cases x <;> simp only [Oper.upon] at h1 <;> exact h1.elim

theorem StI_plain {I : World → Prop} {i : Nat} {r : List Nat} {a a2 : Act} {F : Act → Prop} {o : Oper} {d : Tmp} {w0 : World} (hI : I w0) (ho : ops[i]? = some o) (hg : o.guard = none) (hd : o.dst = some d) (hs : Nat.ble (d + 1) a.tmps.size = true)
    (h : ∀ W, I W → ∀ K : Act → World → Prop, K a2 W → o.wp P a W K NoExit) (hdf : a2.defers = a.defers) (hr : StI P ops I r a2 F) : StI P ops I (i :: r) a F := by
  obtain ⟨e, _⟩ := upon_val hd hs hdf (h w0 hI)
  refine ⟨o, a2.tmps.getD d undef, ho, fun W hW => .inl ⟨by simp [Region.wanted, hg], (upon_val hd hs hdf (h W hW)).2⟩, ?_⟩
  rw [← e]; exact hr

theorem StI_want {I : World → Prop} {i : Nat} {r : List Nat} {a a2 : Act} {F : Act → Prop} {o : Oper} {d : Tmp} {w0 : World} (hI : I w0) (ho : ops[i]? = some o) (hg : Region.wanted o (yielded ops a.tmps) = true) (hd : o.dst = some d) (hs : Nat.ble (d + 1) a.tmps.size = true)
    (h : ∀ W, I W → ∀ K : Act → World → Prop, K a2 W → o.wp P a W K NoExit) (hdf : a2.defers = a.defers) (hr : StI P ops I r a2 F) : StI P ops I (i :: r) a F := by
  obtain ⟨e, _⟩ := upon_val hd hs hdf (h w0 hI)
  refine ⟨o, a2.tmps.getD d undef, ho, fun W hW => .inl ⟨hg, (upon_val hd hs hdf (h W hW)).2⟩, ?_⟩
  rw [← e]; exact hr

theorem StI_skip {I : World → Prop} {i : Nat} {r : List Nat} {a a2 : Act} {F : Act → Prop} {o : Oper} (ho : ops[i]? = some o) (hg : Region.wanted o (yielded ops a.tmps) = false) (ha : a.put o.dst undef = a2)
    (hr : StI P ops I r a2 F) : StI P ops I (i :: r) a F :=
  ⟨o, undef, ho, fun _ _ => .inr ⟨hg, rfl⟩, by rw [ha]; exact hr⟩

theorem wpOp_run {e : Nat} {o : Oper} {a : Act} {w : World} {K : Act → World → Prop} (ho : ops[e]? = some o) (h : wpList P ops (OnNormal K) [o] a w) : wpOp P ops NoExit e K a w := by
  unfold wpOp
  simp only [ho]
  simp only [wpList] at h
  split
  · rename_i hw
    simp only [hw, if_true] at h
    rcases h with h | ⟨_, _, _, hf⟩
    · left
      have : o.wp P a w K (OnNormal K) := h
      unfold Oper.wp at *
      generalize (execOp a.eval o).run P w = r at *
      cases r with
      | ok n w' =>
        cases n <;> simp only [Oper.upon] at this ⊢ <;>
          first
            | exact this
            | exact Calls.mono this (fun e w'' he => by
                cases e with
                | returned v => exact he
                | panicked c => exact he.elim
                | outgrown => obtain ⟨_, _, h⟩ := he; exact h.elim)
            | exact Rows.mono this (fun _ _ he => he)
      | halt x w' => cases x <;> simp only [Oper.upon] at this ⊢ <;> first | exact this | exact this.elim
    · exact hf.elim
  · rename_i hw; simp only [hw] at h; exact h

theorem StI_nil {I : World → Prop} {a : Act} {F : Act → Prop} (h : F a) : StI P ops I [] a F := h
/-- Behind a batch: the operation that keeps the kind. -/
theorem StI_eff {I : World → Prop} {e : Nat} {o : Oper} {a : Act} {w : World} {K : Act → World → Prop} (ho : ops[e]? = some o) (h : wpList P ops (OnNormal K) [o] a w) : StI P ops I [] a (fun a1 => wpOp P ops NoExit e K a1 w) := wpOp_run ho h
theorem OrdI_cons {I : World → Prop} {Q : Act → World → Prop} {S : List Nat} {e : Nat} {r : List (List Nat × Nat)} {fin : List Nat} {s : Option Nat} {a : Act} {w : World}
    (h : StI P ops I S a (fun a1 => wpOp P ops NoExit e (fun a' w' => ∃ I' : World → Prop, (∀ W, I' W → I W) ∧ I' w' ∧ OrdI P ops Q I' r fin s a' w') a1 w)) : OrdI P ops Q I ((S, e) :: r) fin s a w := h
theorem OrdI_fin {I : World → Prop} {Q : Act → World → Prop} {fin : List Nat} {a : Act} {w : World} (h : StI P ops I fin a (fun a1 => Q a1 w)) : OrdI P ops Q I [] fin none a w := h
theorem OrdI_snk {I : World → Prop} {Q : Act → World → Prop} {fin : List Nat} {e : Nat} {a : Act} {w : World} (h : StI P ops I fin a (fun a1 => wpOp P ops NoExit e Q a1 w)) : OrdI P ops Q I [] fin (some e) a w := h
theorem nxt_keep {I : World → Prop} {Q : Act → World → Prop} {r : List (List Nat × Nat)} {fin : List Nat} {s : Option Nat} {a : Act} {w : World} (h1 : I w) (h2 : OrdI P ops Q I r fin s a w) : ∃ I' : World → Prop, (∀ W, I' W → I W) ∧ I' w ∧ OrdI P ops Q I' r fin s a w := ⟨I, fun _ h => h, h1, h2⟩
/-- Behind an operation the kind may become narrower. -/
theorem nxt_to {I : World → Prop} (I' : World → Prop) {Q : Act → World → Prop} {r : List (List Nat × Nat)} {fin : List Nat} {s : Option Nat} {a : Act} {w : World} (h0 : ∀ W, I' W → I W) (h1 : I' w) (h2 : OrdI P ops Q I' r fin s a w) : ∃ I' : World → Prop, (∀ W, I' W → I W) ∧ I' w ∧ OrdI P ops Q I' r fin s a w := ⟨I', h0, h1, h2⟩
theorem onNormal_mk {I : World → Prop} {Q : Act → World → Prop} {r : List (List Nat × Nat)} {fin : List Nat} {s : Option Nat} {a : Act} {w : World} (h1 : I w) (h2 : OrdI P ops Q I r fin s a w) : OnNormal (fun a' w' => ∃ I' : World → Prop, (∀ W, I' W → I W) ∧ I' w' ∧ OrdI P ops Q I' r fin s a' w') .normal a w := nxt_keep h1 h2
theorem onNormal_to {I : World → Prop} (I' : World → Prop) {Q : Act → World → Prop} {r : List (List Nat × Nat)} {fin : List Nat} {s : Option Nat} {a : Act} {w : World} (h0 : ∀ W, I' W → I W) (h1 : I' w) (h2 : OrdI P ops Q I' r fin s a w) : OnNormal (fun a' w' => ∃ I' : World → Prop, (∀ W, I' W → I W) ∧ I' w' ∧ OrdI P ops Q I' r fin s a' w') .normal a w := nxt_to I' h0 h1 h2
theorem onNormal_last {R : Act → World → Prop} {a : Act} {w : World} (h2 : R a w) : OnNormal R .normal a w := h2

theorem wanted_yes {o oj : Oper} {j : Nat} {g : Bool} {d : Tmp} {a : Act} (hg : o.guard = some (j, g)) (hj : ops[j]? = some oj) (hd : oj.dst = some d) (hv : a.tmps[d]? = some (.bool g)) : Region.wanted o (yielded ops a.tmps) = true := by
  simp [Region.wanted, hg, yielded, hj, hd, hv]
theorem wanted_no {o oj : Oper} {j : Nat} {g : Bool} {d : Tmp} {a : Act} (hg : o.guard = some (j, g)) (hj : ops[j]? = some oj) (hd : oj.dst = some d) (hv : a.tmps[d]? = some (.bool (!g))) : Region.wanted o (yielded ops a.tmps) = false := by
  cases g <;> simp [Region.wanted, hg, yielded, hj, hd, hv]
theorem StI_yes {I : World → Prop} {i j : Nat} {r : List Nat} {a a2 : Act} {F : Act → Prop} {o oj : Oper} {d dj : Tmp} {g : Bool} {w0 : World} (hI : I w0) (ho : ops[i]? = some o) (hg : o.guard = some (j, g)) (hj : ops[j]? = some oj) (hdj : oj.dst = some dj) (hv : a.tmps[dj]? = some (.bool g))
    (hd : o.dst = some d) (hs : Nat.ble (d + 1) a.tmps.size = true) (h : ∀ W, I W → ∀ K : Act → World → Prop, K a2 W → o.wp P a W K NoExit) (hdf : a2.defers = a.defers) (hr : StI P ops I r a2 F) : StI P ops I (i :: r) a F :=
  StI_want hI ho (wanted_yes hg hj hdj hv) hd hs h hdf hr
theorem StI_no {I : World → Prop} {i j : Nat} {r : List Nat} {a a2 : Act} {F : Act → Prop} {o oj : Oper} {dj : Tmp} {g : Bool} (ho : ops[i]? = some o) (hg : o.guard = some (j, g)) (hj : ops[j]? = some oj) (hdj : oj.dst = some dj) (hv : a.tmps[dj]? = some (.bool (!g)))
    (ha : a.put o.dst undef = a2) (hr : StI P ops I r a2 F) : StI P ops I (i :: r) a F :=
  StI_skip ho (wanted_no hg hj hdj hv) ha hr
theorem StI_no2 {I : World → Prop} {i j : Nat} {r : List Nat} {a a2 : Act} {F : Act → Prop} {o oj : Oper} {d dj : Tmp} {g : Bool} (ho : ops[i]? = some o) (hg : o.guard = some (j, g)) (hj : ops[j]? = some oj) (hdj : oj.dst = some dj) (hv : a.tmps[dj]? = some (.bool (!g)))
    (hd : o.dst = some d) (ha : a.put (some d) undef = a2) (hr : StI P ops I r a2 F) : StI P ops I (i :: r) a F :=
  StI_no ho hg hj hdj hv (by rw [hd]; exact ha) hr
/-- An operation behind a batch that is not carried out. -/
theorem StI_effno {I : World → Prop} {e j : Nat} {a a2 : Act} {w : World} {K : Act → World → Prop} {o oj : Oper} {dj : Tmp} {g : Bool} (ho : ops[e]? = some o) (hg : o.guard = some (j, g)) (hj : ops[j]? = some oj) (hdj : oj.dst = some dj) (hv : a.tmps[dj]? = some (.bool (!g)))
    (ha : a.put o.dst undef = a2) (h : K a2 w) : StI P ops I [] a (fun a1 => wpOp P ops NoExit e K a1 w) := by
  show wpOp P ops NoExit e K a w
  unfold wpOp
  simp only [ho]
  rw [wanted_no hg hj hdj hv, if_neg (by simp), ha]
  exact h
theorem StI_effno2 {I : World → Prop} {e j : Nat} {a a2 : Act} {w : World} {K : Act → World → Prop} {o oj : Oper} {d dj : Tmp} {g : Bool} (ho : ops[e]? = some o) (hg : o.guard = some (j, g)) (hj : ops[j]? = some oj) (hdj : oj.dst = some dj) (hv : a.tmps[dj]? = some (.bool (!g)))
    (hd : o.dst = some d) (ha : a.put (some d) undef = a2) (h : K a2 w) : StI P ops I [] a (fun a1 => wpOp P ops NoExit e K a1 w) :=
  StI_effno ho hg hj hdj hv (by rw [hd]; exact ha) h
end
end Go.Proofs.Ytjoihijlcpnhoaa
namespace Go.Proofs.Ytjoihijlcpnhoaa
open Go

section
variable {P : Program} {ops : Array Oper} {md : Region.Mode}

/-- An order in which two operations may stand side by side. -/
inductive OT where
  | fin (S : List Nat) (s : Option Nat)
  | one (S : List Nat) (e : Nat) (r : OT)
  | two (S : List Nat) (e1 : Nat) (r1 : OT) (e2 : Nat) (r2 : OT)

def OrdT (P : Program) (ops : Array Oper) (Q : Act → World → Prop) : OT → (World → Prop) → Act → World → Prop
  | .fin S none, I, a, w => StI P ops I S a (fun a1 => Q a1 w)
  | .fin S (some e), I, a, w => StI P ops I S a (fun a1 => wpOp P ops NoExit e Q a1 w)
  | .one S e r, I, a, w => StI P ops I S a (fun a1 => wpOp P ops NoExit e (fun a' w' => ∃ I' : World → Prop, (∀ W, I' W → I W) ∧ I' w' ∧ OrdT P ops Q r I' a' w') a1 w)
  | .two S e1 r1 e2 r2, I, a, w => StI P ops I S a (fun a1 =>
      wpOp P ops NoExit e1 (fun a' w' => ∃ I' : World → Prop, (∀ W, I' W → I W) ∧ I' w' ∧ OrdT P ops Q r1 I' a' w') a1 w ∧
      wpOp P ops NoExit e2 (fun a' w' => ∃ I' : World → Prop, (∀ W, I' W → I W) ∧ I' w' ∧ OrdT P ops Q r2 I' a' w') a1 w)

def otChk (md : Region.Mode) (ops : Array Oper) (snk : Nat) : OT → Array Bool → Bool
  | .fin S none, l => match stChk md ops snk S l with
      | none => false
      | some l' => (Region.ready md ops l').isEmpty
  | .fin S (some e), l => match stChk md ops snk S l with
      | none => false
      | some l' => e == snk && Region.ready md ops l' == [e] && (Region.ready md ops (l'.setIfInBounds e true)).isEmpty
  | .one S e r, l => match stChk md ops snk S l with
      | none => false
      | some l' => Region.ready md ops l' == [e] && e != snk && otChk md ops snk r (l'.setIfInBounds e true)
  | .two S e1 r1 e2 r2, l => match stChk md ops snk S l with
      | none => false
      | some l' => Region.ready md ops l' == [e1, e2] && e1 != snk && e2 != snk && otChk md ops snk r1 (l'.setIfInBounds e1 true) && otChk md ops snk r2 (l'.setIfInBounds e2 true)

/-- The number of operations; both ways are as long. -/
def otLen : OT → Option Nat
  | .fin S none => some S.length
  | .fin S (some _) => some (S.length + 1)
  | .one S _ r => (otLen r).map fun n => S.length + (1 + n)
  | .two S _ r1 _ r2 => match otLen r1, otLen r2 with
      | some n, some m => if n = m then some (S.length + (1 + n)) else none
      | _, _ => none

theorem OrdT_sound {snk : Nat} {Q : Act → World → Prop} (hsel : Region.noSelect ops = true) (hsnk : snkB md ops snk = true) :
    ∀ (t : OT) (n : Nat) (I : World → Prop) (l : Array Bool) (a : Act) (w : World), Closed md ops l → I w → otLen t = some n → otChk md ops snk t l = true → OrdT P ops Q t I a w → AnyI P md ops I snk Q n l a w
  | .fin S none, n, I, l, a, w, hcl, hI, hn, hc, h => by
    simp only [otLen, Option.some.injEq] at hn
    subst hn
    simp only [otChk] at hc
    split at hc
    · cases hc
    · rename_i l' hst
      have := StI_sound (Q := Q) hsel hsnk w hI 0 l' (fun a1 => Q a1 w) (fun a1 _ h1 => ⟨by simpa using hc, h1⟩) S l a hcl hst h
      simpa using this
  | .fin S (some e), n, I, l, a, w, hcl, hI, hn, hc, h => by
    simp only [otLen, Option.some.injEq] at hn
    subst hn
    simp only [otChk] at hc
    split at hc
    · cases hc
    · rename_i l' hst
      simp only [Bool.and_eq_true, beq_iff_eq, List.isEmpty_iff] at hc
      obtain ⟨⟨rfl, hr⟩, he⟩ := hc
      refine StI_sound (Q := Q) hsel hsnk w hI 1 l' _ (fun a1 _ h1 => ⟨fun h0 => (by rw [hr] at h0; cases h0), fun i hi => ?_⟩) S l a hcl hst h
      rw [hr, List.mem_singleton] at hi
      subst hi
      exact wpOp_mono (fun a' w' hq => ⟨fun hn => (hn rfl).elim, he, hq⟩) h1
  | .one S e r, n, I, l, a, w, hcl, hI, hn, hc, h => by
    simp only [otLen, Option.map_eq_some_iff] at hn
    obtain ⟨m, hm, rfl⟩ := hn
    simp only [otChk] at hc
    split at hc
    · cases hc
    · rename_i l' hst
      simp only [Bool.and_eq_true, beq_iff_eq, bne_iff_ne, ne_eq] at hc
      obtain ⟨⟨hr, hne⟩, hrest⟩ := hc
      refine StI_sound (Q := Q) hsel hsnk w hI (1 + m) l' _ (fun a1 hcl' h1 => ?_) S l a hcl hst h
      rw [Nat.add_comm 1]
      refine ⟨fun h0 => (by rw [hr] at h0; cases h0), fun i hi => ?_⟩
      rw [hr, List.mem_singleton] at hi
      subst hi
      exact wpOp_mono (fun a' w' ⟨I', hII, hI', hq⟩ => ⟨fun _ => hII _ hI', AnyI.mono hII _ _ _ _ (OrdT_sound hsel hsnk r m I' _ a' w' (hcl'.step (by rw [hr]; exact List.mem_singleton.2 rfl)) hI' hm hrest hq)⟩) h1
  | .two S e1 r1 e2 r2, n, I, l, a, w, hcl, hI, hn, hc, h => by
    simp only [otLen] at hn
    split at hn
    case h_2 => cases hn
    rename_i n1 n2 hn1 hn2
    split at hn
    case isFalse => cases hn
    rename_i heq
    subst heq
    simp only [Option.some.injEq] at hn
    subst hn
    simp only [otChk] at hc
    split at hc
    · cases hc
    · rename_i l' hst
      simp only [Bool.and_eq_true, beq_iff_eq, bne_iff_ne, ne_eq] at hc
      obtain ⟨⟨⟨⟨hr, hne1⟩, hne2⟩, hrest1⟩, hrest2⟩ := hc
      refine StI_sound (Q := Q) hsel hsnk w hI (1 + n1) l' _ (fun a1 hcl' h1 => ?_) S l a hcl hst h
      rw [Nat.add_comm 1]
      refine ⟨fun h0 => (by rw [hr] at h0; cases h0), fun i hi => ?_⟩
      rw [hr] at hi
      simp only [List.mem_cons, List.not_mem_nil, or_false] at hi
      rcases hi with rfl | rfl
      · exact wpOp_mono (fun a' w' ⟨I', hII, hI', hq⟩ => ⟨fun _ => hII _ hI', AnyI.mono hII _ _ _ _ (OrdT_sound hsel hsnk r1 n1 I' _ a' w' (hcl'.step (by rw [hr]; simp)) hI' hn1 hrest1 hq)⟩) h1.1
      · exact wpOp_mono (fun a' w' ⟨I', hII, hI', hq⟩ => ⟨fun _ => hII _ hI', AnyI.mono hII _ _ _ _ (OrdT_sound hsel hsnk r2 n1 I' _ a' w' (hcl'.step (by rw [hr]; simp)) hI' hn2 hrest2 hq)⟩) h1.2

def otSnk : OT → Option Nat
  | .fin _ s => s
  | .one _ _ r => otSnk r
  | .two _ _ r _ _ => otSnk r

/-- THE LAW, where two operations may stand side by side. -/
theorem wp_region_ordT {id : Nat} {Q : Exit → Act → World → Prop} {a : Act} {w : World} {l : List Oper} (I : World → Prop) (t : OT) (hm : P.follows .mixedOrders = true)
    (hB : (Region.noSelect l.toArray && snkB .any l.toArray ((otSnk t).getD l.length) && otChk .any l.toArray ((otSnk t).getD l.length) t (Array.replicate l.toArray.size false) && (otLen t == some l.toArray.size)) = true)
    (hI : I w.drew) (h : OrdT P l.toArray (fun a' w' => Q .normal a' w') t I a w.drew) : (Code.region id l.toArray true).wp P Q a w := by
  simp only [Bool.and_eq_true, beq_iff_eq] at hB
  obtain ⟨⟨⟨h1, h2⟩, h3⟩, h4⟩ := hB
  refine wp_region_any hm (wpAny_of_AnyI (I := I) (snk := (otSnk t).getD l.length) (Q := fun a' w' => Q .normal a' w') (fun _ _ h => h) _ _ _ _ ?_)
  exact OrdT_sound (P := P) (Q := fun a' w' => Q .normal a' w') h1 h2 t _ I _ a _ (closed_none _) hI h4 h3 h

theorem otN {I : World → Prop} {Q : Act → World → Prop} {r : OT} {a : Act} {w : World} (h1 : I w) (h2 : OrdT P ops Q r I a w) : OnNormal (fun a' w' => ∃ I' : World → Prop, (∀ W, I' W → I W) ∧ I' w' ∧ OrdT P ops Q r I' a' w') .normal a w := ⟨I, fun _ h => h, h1, h2⟩
theorem otTo {I : World → Prop} (I' : World → Prop) {Q : Act → World → Prop} {r : OT} {a : Act} {w : World} (h0 : ∀ W, I' W → I W) (h1 : I' w) (h2 : OrdT P ops Q r I' a w) : OnNormal (fun a' w' => ∃ I' : World → Prop, (∀ W, I' W → I W) ∧ I' w' ∧ OrdT P ops Q r I' a' w') .normal a w := ⟨I', h0, h1, h2⟩
theorem otSnkI {I : World → Prop} {Q : Act → World → Prop} {S : List Nat} {e : Nat} {a : Act} {w : World} (h : StI P ops I S a (fun a1 => wpOp P ops NoExit e Q a1 w)) : OrdT P ops Q (.fin S (some e)) I a w := h
theorem otFin {I : World → Prop} {Q : Act → World → Prop} {S : List Nat} {a : Act} {w : World} (h : StI P ops I S a (fun a1 => Q a1 w)) : OrdT P ops Q (.fin S none) I a w := h
theorem otOne {I : World → Prop} {Q : Act → World → Prop} {S : List Nat} {e : Nat} {r : OT} {a : Act} {w : World}
    (h : StI P ops I S a (fun a1 => wpOp P ops NoExit e (fun a' w' => ∃ I' : World → Prop, (∀ W, I' W → I W) ∧ I' w' ∧ OrdT P ops Q r I' a' w') a1 w)) : OrdT P ops Q (.one S e r) I a w := h
theorem otTwo {I : World → Prop} {Q : Act → World → Prop} {S : List Nat} {e1 e2 : Nat} {r1 r2 : OT} {a : Act} {w : World}
    (h : StI P ops I S a (fun a1 => wpOp P ops NoExit e1 (fun a' w' => ∃ I' : World → Prop, (∀ W, I' W → I W) ∧ I' w' ∧ OrdT P ops Q r1 I' a' w') a1 w ∧
      wpOp P ops NoExit e2 (fun a' w' => ∃ I' : World → Prop, (∀ W, I' W → I W) ∧ I' w' ∧ OrdT P ops Q r2 I' a' w') a1 w)) : OrdT P ops Q (.two S e1 r1 e2 r2) I a w := h

theorem wpOp_eff {e : Nat} {o : Oper} {a : Act} {w : World} {K : Act → World → Prop} (ho : ops[e]? = some o) (h : wpList P ops (OnNormal K) [o] a w) : wpOp P ops NoExit e K a w := wpOp_run ho h
end
end Go.Proofs.Ytjoihijlcpnhoaa
