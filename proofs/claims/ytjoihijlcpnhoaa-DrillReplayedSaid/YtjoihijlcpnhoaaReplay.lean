/- A log against another one: how far they agree, and what Replay answers. -/
import Derived.Test.YtjoihijlcpnhoaaBegun
namespace Go.Proofs.Ytjoihijlcpnhoaa

/-- How many entries agree from the front on. -/
def agree : List Entry → List Entry → Nat
  | x :: l, y :: m => if x = y then agree l m + 1 else 0
  | _, _ => 0

/-- What Replay answers for the run's log l and the given log m. -/
def replayT (l m : List Entry) : Int × Int := ((agree l m : Int), if agree l m < l.length ∨ agree l m < m.length then 23 else 0)

theorem agree_le : ∀ (l m : List Entry), agree l m ≤ l.length ∧ agree l m ≤ m.length
  | [], m => by simp [agree]
  | x :: l, [] => by simp [agree]
  | x :: l, y :: m => by
    have := agree_le l m
    unfold agree
    split <;> simp only [List.length_cons] <;> omega

theorem agree_self : ∀ l : List Entry, agree l l = l.length
  | [] => rfl
  | x :: l => by simp [agree, agree_self l]

theorem agree_more : ∀ (l r : List Entry), agree l (l ++ r) = l.length
  | [], r => by cases r <;> rfl
  | x :: l, r => by simp [agree, agree_more l r]

theorem agree_take : ∀ (l : List Entry) (n : Nat), n ≤ l.length → agree l (l.take n) = n
  | l, 0, _ => by cases l <;> rfl
  | [], n + 1, h => by simp at h
  | x :: l, n + 1, h => by
    simp only [List.length_cons] at h
    simp [agree, agree_take l n (by omega)]

theorem agree_set : ∀ (l : List Entry) (k : Nat) (e : Entry) (h : k < l.length), l[k] ≠ e → agree l (l.set k e) = k
  | [], k, e, h, _ => by simp at h
  | x :: l, 0, e, _, hne => by
    simp only [List.getElem_cons_zero] at hne
    simp [agree, hne]
  | x :: l, k + 1, e, h, hne => by
    simp only [List.length_cons] at h
    simp only [List.getElem_cons_succ] at hne
    simp [agree, agree_set l k e (by omega) hne]

theorem replay_self (l : List Entry) : replayT l l = ((l.length : Int), 0) := by simp [replayT, agree_self]
theorem replay_more (l : List Entry) (e : Entry) : replayT l (l ++ [e]) = ((l.length : Int), 23) := by simp [replayT, agree_more]
theorem replay_less (l : List Entry) (h : 0 < l.length) : replayT l (l.take (l.length - 1)) = ((l.length : Int) - 1, 23) := by
  unfold replayT
  rw [agree_take l _ (by omega), if_pos (.inl (by omega))]
  congr 1
  omega
theorem replay_set (l : List Entry) (k : Nat) (e : Entry) (h : k < l.length) (hne : l[k] ≠ e) : replayT l (l.set k e) = ((k : Int), 23) := by
  unfold replayT
  rw [agree_set l k e h hne, if_pos (.inl h)]

/-- One more entry of the run's log, where all before it agreed. -/
theorem agree_step (l m : List Entry) (n : Nat) (hn : n < l.length) (h : agree (l.take n) m = n) (hm : n < m.length) (he : l[n] = m[n]) : agree (l.take (n + 1)) m = n + 1 := by
  induction n generalizing l m with
  | zero =>
    cases l with
    | nil => simp at hn
    | cons x l =>
      cases m with
      | nil => simp at hm
      | cons y m =>
        simp only [List.getElem_cons_zero] at he
        simp [agree, he]
  | succ n ih =>
    cases l with
    | nil => simp at hn
    | cons x l =>
      cases m with
      | nil => simp at hm
      | cons y m =>
        simp only [List.take_succ_cons, agree] at h ⊢
        split at h
        · rename_i e
          rw [if_pos e]
          simp only [List.getElem_cons_succ] at he
          simp only [List.length_cons] at hn hm
          rw [ih l m (by omega) (by omega) (by omega) he]
        · omega

end Go.Proofs.Ytjoihijlcpnhoaa
