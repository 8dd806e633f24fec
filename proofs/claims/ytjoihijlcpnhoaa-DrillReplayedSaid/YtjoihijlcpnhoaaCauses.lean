/- Two cases that differ only in how late a trip is: the entries before the trip is due are the same. -/
import Derived.Test.YtjoihijlcpnhoaaBegun
namespace Go.Proofs.Ytjoihijlcpnhoaa

/-- The same run with another lateness of party k. -/
def RunS.late (k : Nat) (a : Int) (r : RunS) : RunS := r.setP k { r.pt k with late := a }

/-- Party k is a trip that is not due in step s, whether late by b or by what it is. -/
structure NotDue (k : Nat) (b s : Int) (r : RunS) : Prop where
  lt : k < r.parties.length
  ride : (r.pt k).ride = false
  due : (r.pt k).hops.length = 0 → s < (r.pt k).enter + (r.pt k).late ∧ s < (r.pt k).enter + b
  hop : (r.pt k).hops.length ≠ 0 → s < ((r.pt k).hops.getD 0 Hop.z).leave + (r.pt k).late ∧ s < ((r.pt k).hops.getD 0 Hop.z).leave + b

theorem pt_setP (r : RunS) (i j : Nat) (x : Party) : (r.setP i x).pt j = if j = i ∧ i < r.parties.length then x else r.pt j := by
  unfold RunS.setP RunS.pt
  simp only [List.getD_eq_getElem?_getD, List.getElem?_set]
  by_cases h : i = j
  · subst h
    by_cases h2 : i < r.parties.length
    · simp [h2]
    · simp [h2]
  · have : ¬ j = i := fun e => h e.symm
    simp [h, this]

theorem late_pt (r : RunS) (k j : Nat) (a : Int) (h : k < r.parties.length) : (r.late k a).pt j = if j = k then { r.pt k with late := a } else r.pt j := by
  unfold RunS.late
  rw [pt_setP]
  by_cases e : j = k <;> simp [e, h]

/-- What a party is but for its lateness. -/
def Party.sub (x : Party) (a : Int) : Party := { x with late := a }

theorem late_setP (r : RunS) (k i : Nat) (a : Int) (x : Party) (hi : i ≠ k) : (r.late k a).setP i x = (r.setP i x).late k a := by
  unfold RunS.late
  rw [pt_setP, if_neg (by intro h; exact hi h.1.symm)]
  unfold RunS.setP
  simp only
  rw [List.set_comm _ _ (by omega : k ≠ i)]
theorem late_setPk (r : RunS) (k : Nat) (a : Int) (x : Party) (h : k < r.parties.length) : (r.late k a).setP k (x.sub a) = (r.setP k x).late k a := by
  unfold RunS.late
  rw [pt_setP, if_pos ⟨rfl, h⟩]
  unfold RunS.setP
  simp only [List.set_set]
  rfl
theorem late_note (r : RunS) (k : Nat) (a : Int) (e : Entry) : (r.late k a).note e = (r.note e).late k a := rfl
theorem late_tell (r : RunS) (k : Nat) (a s kind : Int) (i : Nat) (at_ : Int) (h : k < r.parties.length) : (r.late k a).tell s kind i at_ = (r.tell s kind i at_).late k a := by
  unfold RunS.tell
  rw [← late_note, late_pt _ _ _ _ h]
  by_cases e : i = k
  · subst e; rw [if_pos rfl]
  · rw [if_neg e]
theorem late_wt (r : RunS) (k j : Nat) (a : Int) : (r.late k a).wt j = r.wt j := rfl
theorem late_setW (r : RunS) (k j : Nat) (a : Int) (y : Wait) : (r.late k a).setW j y = (r.setW j y).late k a := rfl

/-- What f does commutes with another lateness, and party k stays as it is. -/
def Sim (k : Nat) (b s : Int) (f : RunS → RunS) : Prop := ∀ r, NotDue k b s r → f (r.late k b) = (f r).late k b ∧ NotDue k b s (f r)

theorem Sim.each {k : Nat} {b s : Int} {f : Nat → RunS → RunS} (h : ∀ i, Sim k b s (f i)) : ∀ n, Sim k b s (eachI f n)
  | 0, _, hr => ⟨rfl, hr⟩
  | n + 1, r, hr => by
    obtain ⟨h1, h2⟩ := Sim.each h n r hr
    unfold eachI
    rw [h1]
    exact h n _ h2

theorem NotDue.setP {k : Nat} {b s : Int} {r : RunS} (h : NotDue k b s r) (i : Nat) (x : Party) (hx : i = k → x.ride = (r.pt k).ride ∧ x.hops = (r.pt k).hops ∧ x.enter = (r.pt k).enter ∧ x.late = (r.pt k).late) : NotDue k b s (r.setP i x) := by
  have hl : (r.setP i x).parties.length = r.parties.length := by simp [RunS.setP]
  have hp : ((r.setP i x).pt k).ride = (r.pt k).ride ∧ ((r.setP i x).pt k).hops = (r.pt k).hops ∧ ((r.setP i x).pt k).enter = (r.pt k).enter ∧ ((r.setP i x).pt k).late = (r.pt k).late := by
    rw [pt_setP]
    by_cases e : k = i ∧ i < r.parties.length
    · rw [if_pos e]; exact hx e.1.symm
    · rw [if_neg e]; exact ⟨rfl, rfl, rfl, rfl⟩
  obtain ⟨p1, p2, p3, p4⟩ := hp
  exact ⟨by rw [hl]; exact h.lt, by rw [p1]; exact h.ride, by rw [p2, p3, p4]; exact h.due, by rw [p2, p4]; exact h.hop⟩
theorem NotDue.note {k : Nat} {b s : Int} {r : RunS} (h : NotDue k b s r) (e : Entry) : NotDue k b s (r.note e) := ⟨h.lt, h.ride, h.due, h.hop⟩
theorem NotDue.tell {k : Nat} {b s : Int} {r : RunS} (h : NotDue k b s r) (t kind : Int) (i : Nat) (at_ : Int) : NotDue k b s (r.tell t kind i at_) := h.note _
theorem NotDue.setW {k : Nat} {b s : Int} {r : RunS} (h : NotDue k b s r) (j : Nat) (y : Wait) : NotDue k b s (r.setW j y) := ⟨h.lt, h.ride, h.due, h.hop⟩
theorem NotDue.used {k : Nat} {b s : Int} {r : RunS} (h : NotDue k b s r) (l : List (Use × Int)) : NotDue k b s { r with used := l } := ⟨h.lt, h.ride, h.due, h.hop⟩

theorem setP_len (r : RunS) (i : Nat) (x : Party) : (r.setP i x).parties.length = r.parties.length := by simp [RunS.setP]

/-- A change of party i's state alone. -/
theorem late_state (r : RunS) (k i : Nat) (b : Int) (hk : k < r.parties.length) (f : Party → Party) (hf : ∀ x, f (x.sub b) = (f x).sub b) : (r.late k b).setP i (f ((r.late k b).pt i)) = (r.setP i (f (r.pt i))).late k b := by
  rw [late_pt _ _ _ _ hk]
  by_cases e : i = k
  · subst e
    rw [if_pos rfl, ← late_setPk _ _ _ _ hk]
    exact congrArg _ (hf _)
  · rw [if_neg e, late_setP _ _ _ _ _ e]

theorem arrive_sim (k : Nat) (b s m : Int) (i : Nat) : Sim k b s (arriveAt m i) := by
  intro r hr
  have hp : ((r.late k b).pt i).state = (r.pt i).state ∧ ((r.late k b).pt i).fin = (r.pt i).fin ∧ ((r.late k b).pt i).place = (r.pt i).place := by
    rw [late_pt _ _ _ _ hr.lt]
    by_cases e : i = k
    · subst e; simp
    · simp [e]
  unfold arriveAt
  rw [hp.1, hp.2.1, hp.2.2]
  split
  · rw [late_state r k i b hr.lt (fun x => { x with state := 1 }) (fun _ => rfl), late_tell _ _ _ _ _ _ _ (by rw [setP_len]; exact hr.lt)]
    exact ⟨rfl, (hr.setP _ _ (fun e => by subst e; exact ⟨rfl, rfl, rfl, rfl⟩)).tell _ _ _ _⟩
  · exact ⟨rfl, hr⟩

theorem flood_sim (T : Town) (k : Nat) (b s m : Int) (i : Nat) : Sim k b s (floodAt T m i) := by
  intro r hr
  have hp : ((r.late k b).pt i).state = (r.pt i).state ∧ ((r.late k b).pt i).place = (r.pt i).place := by
    rw [late_pt _ _ _ _ hr.lt]
    by_cases e : i = k
    · subst e; simp
    · simp [e]
  unfold floodAt
  rw [hp.1, hp.2]
  split
  · rw [late_state r k i b hr.lt (fun x => { x with state := 5 }) (fun _ => rfl), late_tell _ _ _ _ _ _ _ (by rw [setP_len]; exact hr.lt)]
    exact ⟨rfl, (hr.setP _ _ (fun e => by subst e; exact ⟨rfl, rfl, rfl, rfl⟩)).tell _ _ _ _⟩
  · exact ⟨rfl, hr⟩

theorem floodW_sim (T : Town) (n : Int) (k : Nat) (b s m : Int) (i : Nat) : Sim k b s (floodW T n m i) := by
  intro r hr
  unfold floodW
  rw [late_wt]
  split
  · exact ⟨rfl, (hr.setW _ _).note _⟩
  · exact ⟨rfl, hr⟩

/-- A party that is not due in a step is not due in one before. -/
theorem NotDue.mono {k : Nat} {b s s' : Int} {r : RunS} (h : NotDue k b s r) (hs : s' ≤ s) : NotDue k b s' r :=
  ⟨h.lt, h.ride, fun e => ⟨by have := (h.due e).1; omega, by have := (h.due e).2; omega⟩, fun e => ⟨by have := (h.hop e).1; omega, by have := (h.hop e).2; omega⟩⟩

theorem enterNo_k {k : Nat} {b s m : Int} {r : RunS} (hm : m ≤ s) (h' : NotDue k b s r) : enterNo m k r = true ∧ enterNo m k (r.late k b) = true := by
  have h := h'.mono hm
  unfold enterNo
  rw [late_pt _ _ _ _ h.lt, if_pos rfl, h.ride]
  by_cases e : (r.pt k).hops.length = 0
  · obtain ⟨d1, d2⟩ := h.due e
    simp [e, d1, d2]
  · have : 0 < (r.pt k).hops.length := by omega
    simp [this]

theorem beginNo_k {k : Nat} {b s m : Int} {r : RunS} (hm : m ≤ s) (h' : NotDue k b s r) : beginNo m k r = true ∧ beginNo m k (r.late k b) = true := by
  have h := h'.mono hm
  unfold beginNo
  rw [late_pt _ _ _ _ h.lt, if_pos rfl]
  by_cases e : (r.pt k).hops.length = 0
  · simp [e]
  · obtain ⟨d1, d2⟩ := h.hop e
    simp only [d1, d2, decide_true, Bool.or_true, and_self]

theorem vehicles_late (r : RunS) (k : Nat) (b : Int) : (r.late k b).parties.map Party.vehicle = r.parties.map Party.vehicle := by
  unfold RunS.late RunS.setP RunS.pt
  simp only [List.map_set]
  by_cases h : k < r.parties.length
  · rw [List.getD_eq_getElem?_getD, List.getElem?_eq_getElem h]
    have : (r.parties.map Party.vehicle)[k]'(by simpa using h) = (r.parties[k]).vehicle := by simp
    simp only [Option.getD_some]
    rw [← this, List.set_getElem_self]
  · rw [List.set_eq_of_length_le (by simp; omega)]

theorem findI_map {α β : Type} (f : α → β) (p : β → Bool) (l : List α) : findI p (l.map f) = findI (fun x => p (f x)) l := by
  unfold findI
  rw [List.findIdx?_map]
  rfl

theorem nextRide_eq (r : RunS) (i : Nat) : nextRide r i = findI (fun v => (r.pt i).ride && v == (r.pt i).vehicle) ((r.parties.map Party.vehicle).drop (i + 1)) := by
  rw [← List.map_drop, findI_map]
  rfl

theorem nextAt_sim (k : Nat) (b s : Int) (i : Nat) (hi : i ≠ k) : Sim k b s (fun r => nextAt r i) := by
  intro r hr
  have hpi : (r.late k b).pt i = r.pt i := by rw [late_pt _ _ _ _ hr.lt, if_neg hi]
  have hn : nextRide (r.late k b) i = nextRide r i := by rw [nextRide_eq, nextRide_eq, vehicles_late, hpi]
  simp only
  unfold nextAt
  rw [hn, hpi]
  split
  · rw [late_state r k (i + 1 + (nextRide r i).toNat) b hr.lt (fun x => { x with state := 1, place := (r.pt i).place }) (fun _ => rfl)]
    exact ⟨rfl, hr.setP _ _ (fun e => by subst e; exact ⟨rfl, rfl, rfl, rfl⟩)⟩
  · exact ⟨rfl, hr⟩

theorem enter_sim (T : Town) (k : Nat) (b s m : Int) (hm : m ≤ s) (i : Nat) : Sim k b s (enterAt T m i) := by
  intro r hr
  unfold enterAt
  by_cases hi : i = k
  · subst hi
    obtain ⟨h1, h2⟩ := enterNo_k hm hr
    rw [h1, h2]
    simp only [Bool.true_or, if_true]
    exact ⟨trivial, hr⟩
  · have hpi : (r.late k b).pt i = r.pt i := by rw [late_pt _ _ _ _ hr.lt, if_neg hi]
    have e1 : enterNo m i (r.late k b) = enterNo m i r := by unfold enterNo; rw [hpi]
    have e2 : enterFull T i (r.late k b) = enterFull T i r := by unfold enterFull; rw [hpi]; rfl
    have e3 : enterIn (r.late k b) i = (enterIn r i).late k b := by
      unfold enterIn
      rw [hpi]
      unfold RunS.late RunS.setP RunS.pt RunS.rm
      simp only
      rw [List.set_comm _ _ (by omega : k ≠ i)]
      congr 2
      simp only [List.getD_eq_getElem?_getD]
      rw [List.getElem?_set_ne (by omega)]
    rw [e1, e2]
    split
    · exact ⟨rfl, hr⟩
    · have hn : NotDue k b s (enterIn r i) := ⟨by simp only [enterIn, List.length_set]; exact hr.lt, (hr.setP i _ (fun e => absurd e hi)).ride, (hr.setP i _ (fun e => absurd e hi)).due, (hr.setP i _ (fun e => absurd e hi)).hop⟩
      rw [e3, hpi, late_tell _ _ _ _ _ _ _ hn.lt]
      exact nextAt_sim k b s i hi _ (hn.tell _ _ _ _)

theorem board_sim (k : Nat) (b s : Int) (i : Nat) (hi : i ≠ k) (j : Nat) : Sim k b s (boardAt i j) := by
  intro r hr
  have hpi : (r.late k b).pt i = r.pt i := by rw [late_pt _ _ _ _ hr.lt, if_neg hi]
  unfold boardAt
  rw [hpi, late_wt]
  split
  · rw [late_setP _ _ _ _ _ hi]
    exact ⟨rfl, (hr.setP _ _ (fun e => absurd e hi)).setW _ _⟩
  · exact ⟨rfl, hr⟩

theorem begin_sim (T : Town) (k : Nat) (b s m : Int) (hm : m ≤ s) (i : Nat) : Sim k b s (beginAt T m i) := by
  intro r hr
  unfold beginAt
  by_cases hi : i = k
  · subst hi
    obtain ⟨h1, h2⟩ := beginNo_k hm hr
    rw [h1, h2]
    simp only [if_true]
    exact ⟨trivial, hr⟩
  · have hpi : (r.late k b).pt i = r.pt i := by rw [late_pt _ _ _ _ hr.lt, if_neg hi]
    have e1 : beginNo m i (r.late k b) = beginNo m i r := by unfold beginNo; rw [hpi]
    have e2 : ∀ w, takesIs T (r.late k b) (r.pt i) w = takesIs T r (r.pt i) w := fun w => rfl
    rw [e1, hpi]
    split
    · exact ⟨rfl, hr⟩
    split
    · rw [late_setP _ _ _ _ _ hi, late_tell _ _ _ _ _ _ _ (by rw [setP_len]; exact hr.lt)]
      exact ⟨rfl, (hr.setP _ _ (fun e => absurd e hi)).tell _ _ _ _⟩
    rw [e2]
    split
    · have hu : takesUse (r.late k b) (r.pt i) ((r.pt i).hops.getD 0 Hop.z).way = (takesUse r (r.pt i) ((r.pt i).hops.getD 0 Hop.z).way).late k b := rfl
      have hn : NotDue k b s (takesUse r (r.pt i) ((r.pt i).hops.getD 0 Hop.z).way) := hr.used _
      rw [hu]
      obtain ⟨g1, g2⟩ := Sim.each (board_sim k b s i hi) (takesUse r (r.pt i) ((r.pt i).hops.getD 0 Hop.z).way).waits.length _ hn
      unfold boardAll
      rw [show ((takesUse r (r.pt i) ((r.pt i).hops.getD 0 Hop.z).way).late k b).waits.length = (takesUse r (r.pt i) ((r.pt i).hops.getD 0 Hop.z).way).waits.length from rfl, g1, late_tell _ _ _ _ _ _ _ g2.lt]
      have g3 := g2.tell m 4 i ((r.pt i).hops.getD 0 Hop.z).way
      unfold beginMove
      rw [late_pt _ _ _ _ g3.lt, if_neg hi, late_setP _ _ _ _ _ hi]
      exact ⟨rfl, g3.setP _ _ (fun e => absurd e hi)⟩
    · exact ⟨rfl, hr⟩

theorem step_sim (T : Town) (n : Int) (k : Nat) (b s m : Int) (hm : m ≤ s) : Sim k b s (stepRun T n m) := by
  intro r hr
  have h0 : NotDue k b s { r with used := [] } := hr.used []
  unfold stepRun
  have l0 : ∀ (q : RunS), (q.late k b).parties.length = q.parties.length := fun q => by simp [RunS.late, RunS.setP]
  have l1 : ∀ (q : RunS), (q.late k b).waits.length = q.waits.length := fun _ => rfl
  rw [l0, l1]
  obtain ⟨a1, a2⟩ := Sim.each (arrive_sim k b s m) r.parties.length _ h0
  rw [show ({ r.late k b with used := [] } : RunS) = ({ r with used := [] } : RunS).late k b from rfl, a1]
  obtain ⟨b1, b2⟩ := Sim.each (flood_sim T k b s m) r.parties.length _ a2
  rw [b1]
  obtain ⟨c1, c2⟩ := Sim.each (floodW_sim T n k b s m) r.waits.length _ b2
  rw [c1]
  obtain ⟨d1, d2⟩ := Sim.each (enter_sim T k b s m hm) r.parties.length _ c2
  rw [d1]
  exact Sim.each (begin_sim T k b s m hm) r.parties.length _ d2

/-- The first m steps, none of which is due. -/
theorem play_sim (T : Town) (n : Int) (k : Nat) (b s : Int) (r : RunS) (hr : NotDue k b s r) : ∀ m : Nat, (m : Int) ≤ s + 1 → playN T n m (r.late k b) = (playN T n m r).late k b ∧ NotDue k b s (playN T n m r)
  | 0, _ => ⟨rfl, hr⟩
  | m + 1, hm => by
    obtain ⟨h1, h2⟩ := play_sim T n k b s r hr m (by omega)
    unfold playN
    rw [h1]
    exact step_sim T n k b s m (by omega) _ h2

/-- Entries of a log from a place on are of a step or later ones. -/
theorem log_arrive (s : Int) (i : Nat) (r : RunS) : ∃ l, (arriveAt s i r).log = r.log ++ l ∧ ∀ e ∈ l, e.step = s := by
  unfold arriveAt
  split
  · exact ⟨[_], rfl, by simp⟩
  · exact ⟨[], by simp, by simp⟩
theorem log_flood (T : Town) (s : Int) (i : Nat) (r : RunS) : ∃ l, (floodAt T s i r).log = r.log ++ l ∧ ∀ e ∈ l, e.step = s := by
  unfold floodAt
  split
  · exact ⟨[_], rfl, by simp⟩
  · exact ⟨[], by simp, by simp⟩
theorem log_floodW (T : Town) (n s : Int) (i : Nat) (r : RunS) : ∃ l, (floodW T n s i r).log = r.log ++ l ∧ ∀ e ∈ l, e.step = s := by
  unfold floodW
  split
  · exact ⟨[_], rfl, by simp⟩
  · exact ⟨[], by simp, by simp⟩
theorem log_nextAt (r : RunS) (i : Nat) : (nextAt r i).log = r.log := by
  unfold nextAt
  split <;> rfl
theorem log_enter (T : Town) (s : Int) (i : Nat) (r : RunS) : ∃ l, (enterAt T s i r).log = r.log ++ l ∧ ∀ e ∈ l, e.step = s := by
  unfold enterAt
  split
  · exact ⟨[], by simp, by simp⟩
  · rw [log_nextAt]
    exact ⟨[_], rfl, by simp⟩
theorem log_board (i j : Nat) (r : RunS) : (boardAt i j r).log = r.log := by
  unfold boardAt
  split <;> rfl
theorem log_boards (i : Nat) : ∀ (n : Nat) (r : RunS), (eachI (boardAt i) n r).log = r.log
  | 0, _ => rfl
  | n + 1, r => by rw [eachI, log_board, log_boards i n r]
theorem log_begin (T : Town) (s : Int) (i : Nat) (r : RunS) : ∃ l, (beginAt T s i r).log = r.log ++ l ∧ ∀ e ∈ l, e.step = s := by
  unfold beginAt
  split
  · exact ⟨[], by simp, by simp⟩
  split
  · exact ⟨[_], rfl, by simp⟩
  split
  · have : ∀ q : RunS, (beginMove T s i q (r.pt i)).log = q.log := fun _ => rfl
    rw [this]
    unfold RunS.tell RunS.note boardAll
    simp only [log_boards]
    exact ⟨[_], rfl, by simp⟩
  · exact ⟨[], by simp, by simp⟩
theorem log_each {f : Nat → RunS → RunS} {s : Int} (h : ∀ i r, ∃ l, (f i r).log = r.log ++ l ∧ ∀ e ∈ l, e.step = s) : ∀ (n : Nat) (r : RunS), ∃ l, (eachI f n r).log = r.log ++ l ∧ ∀ e ∈ l, e.step = s
  | 0, r => ⟨[], by simp [eachI], by simp⟩
  | n + 1, r => by
    obtain ⟨l, h1, h2⟩ := log_each h n r
    obtain ⟨l', h3, h4⟩ := h n (eachI f n r)
    refine ⟨l ++ l', by rw [eachI, h3, h1, List.append_assoc], fun e he => ?_⟩
    rcases List.mem_append.1 he with he | he
    · exact h2 e he
    · exact h4 e he
theorem log_step (T : Town) (n s : Int) (r : RunS) : ∃ l, (stepRun T n s r).log = r.log ++ l ∧ ∀ e ∈ l, e.step = s := by
  unfold stepRun
  obtain ⟨l1, a1, b1⟩ := log_each (log_arrive s) r.parties.length { r with used := [] }
  obtain ⟨l2, a2, b2⟩ := log_each (log_flood T s) r.parties.length (eachI (arriveAt s) r.parties.length { r with used := [] })
  obtain ⟨l3, a3, b3⟩ := log_each (log_floodW T n s) r.waits.length (eachI (floodAt T s) r.parties.length (eachI (arriveAt s) r.parties.length { r with used := [] }))
  obtain ⟨l4, a4, b4⟩ := log_each (log_enter T s) r.parties.length (eachI (floodW T n s) r.waits.length (eachI (floodAt T s) r.parties.length (eachI (arriveAt s) r.parties.length { r with used := [] })))
  obtain ⟨l5, a5, b5⟩ := log_each (log_begin T s) r.parties.length (eachI (enterAt T s) r.parties.length (eachI (floodW T n s) r.waits.length (eachI (floodAt T s) r.parties.length (eachI (arriveAt s) r.parties.length { r with used := [] }))))
  refine ⟨l1 ++ (l2 ++ (l3 ++ (l4 ++ l5))), by rw [a5, a4, a3, a2, a1]; simp only [List.append_assoc], fun e he => ?_⟩
  simp only [List.mem_append] at he
  rcases he with he | he | he | he | he
  · exact b1 e he
  · exact b2 e he
  · exact b3 e he
  · exact b4 e he
  · exact b5 e he

/-- What the steps from m on note is of these steps. -/
theorem log_play (T : Town) (n : Int) (r : RunS) (m : Nat) : ∀ k : Nat, ∃ l, (playN T n (m + k) r).log = (playN T n m r).log ++ l ∧ ∀ e ∈ l, (m : Int) ≤ e.step
  | 0 => ⟨[], by simp, by simp⟩
  | k + 1 => by
    obtain ⟨l, h1, h2⟩ := log_play T n r m k
    obtain ⟨l', h3, h4⟩ := log_step T n ((m + k : Nat) : Int) (playN T n (m + k) r)
    refine ⟨l ++ l', by rw [show m + (k + 1) = (m + k) + 1 by omega, playN, h3, h1, List.append_assoc], fun e he => ?_⟩
    rcases List.mem_append.1 he with he | he
    · exact h2 e he
    · rw [h4 e he]; omega

/-- Another lateness of a trip. -/
def lateAt (l : List Int) (k : Nat) (a : Int) : List Int := l.set k a

theorem begun_late (T : Town) (p : Plan) (c : Case) (L : List Int) (k : Nat) (a b : Int) (hk : k < p.trips.length) (hL : L.length = p.trips.length) :
    begunS T p { c with late := L.set k b } = (begunS T p { c with late := L.set k a }).late k b := by
  unfold begunS RunS.late RunS.setP RunS.pt
  simp only
  have hl : ∀ v, k < (tripParties T { c with late := L.set k v } p.trips).length := fun v => by simp [tripParties, hk]
  have hp : ∀ v, tripParties T { c with late := L.set k v } p.trips = (tripParties T { c with late := L } p.trips).set k { tripParty T { c with late := L } k p.trips[k] with late := v } := by
    intro v
    refine List.ext_getElem (by simp [tripParties]) fun i h1 h2 => ?_
    simp only [tripParties, List.getElem_mapIdx, List.getElem_set]
    by_cases e : k = i
    · subst e
      simp only [if_true]
      unfold tripParty
      simp [List.getD_eq_getElem?_getD, hL, hk]
    · rw [if_neg e]
      unfold tripParty
      simp only [List.getD_eq_getElem?_getD, List.getElem?_set_ne e]
  have hr : ∀ v, rideParties T { c with late := L.set k v } p.rides p.rides.length = rideParties T { c with late := L } p.rides p.rides.length := by
    intro v
    have : ∀ m, rideParties T { c with late := L.set k v } p.rides m = rideParties T { c with late := L } p.rides m := by
      intro m
      induction m with
      | zero => rfl
      | succ m ih => unfold rideParties; rw [ih]; rfl
    exact this _
  rw [hr, hr, hp a, hp b]
  congr 1
  have hk' : k < (tripParties T { c with late := L } p.trips).length := by simp [tripParties, hk]
  rw [List.getD_eq_getElem?_getD, List.getElem?_append_left (by simpa using hk'), List.getElem?_set_self hk']
  simp only [Option.getD_some]
  rw [List.set_append_left _ _ (by simpa using hk'), List.set_set]

theorem begun_notDue (T : Town) (p : Plan) (c : Case) (L : List Int) (k : Nat) (a b s : Int) (hk : k < p.trips.length) (hL : L.length = p.trips.length)
    (h1 : p.trips[k].hops.length = 0 → s < p.trips[k].enter + a ∧ s < p.trips[k].enter + b) (h2 : p.trips[k].hops.length ≠ 0 → s < (p.trips[k].hops.getD 0 Hop.z).leave + a ∧ s < (p.trips[k].hops.getD 0 Hop.z).leave + b) :
    NotDue k b s (begunS T p { c with late := L.set k a }) := by
  have hk' : k < (tripParties T { c with late := L.set k a } p.trips).length := by simp [tripParties, hk]
  have e : (begunS T p { c with late := L.set k a }).pt k = tripParty T { c with late := L.set k a } k p.trips[k] := by
    unfold begunS RunS.pt
    simp only
    rw [List.getD_eq_getElem?_getD, List.getElem?_append_left hk', List.getElem?_eq_getElem hk']
    simp [tripParties]
  have el : (tripParty T { c with late := L.set k a } k p.trips[k]).late = a := by
    unfold tripParty
    simp [List.getD_eq_getElem?_getD, hL, hk]
  refine ⟨?_, ?_, ?_, ?_⟩
  · unfold begunS
    simp only [List.length_append]
    omega
  · rw [e]; rfl
  · rw [e, el]; exact h1
  · rw [e, el]; exact h2

/-- From which step on a trip is due. -/
def dueAt (x : Trip) (a b : Int) : Int := (if x.hops.length = 0 then x.enter else (x.hops.getD 0 Hop.z).leave) + min a b

/-- Two logs that are the same up to a step, and behind it hold only what is not before the step. -/
theorem causes (T : Town) (p : Plan) (c : Case) (L : List Int) (k : Nat) (a b : Int) (hk : k < p.trips.length) (hL : L.length = p.trips.length) (h0 : 0 ≤ dueAt p.trips[k] a b) :
    ∃ l l1 l2, runLog T p { c with late := L.set k a } = l ++ l1 ∧ runLog T p { c with late := L.set k b } = l ++ l2 ∧ (∀ e ∈ l1, dueAt p.trips[k] a b ≤ e.step) ∧ (∀ e ∈ l2, dueAt p.trips[k] a b ≤ e.step) := by
  obtain ⟨d, hd⟩ : ∃ d : Nat, (d : Int) = dueAt p.trips[k] a b := ⟨(dueAt p.trips[k] a b).toNat, by omega⟩
  unfold runLog playedT
  have hN : NotDue k b ((d : Int) - 1) (begunS T p { c with late := L.set k a }) := by
    refine begun_notDue T p c L k a b _ hk hL (fun e => ?_) (fun e => ?_)
    · unfold dueAt at hd
      rw [if_pos e] at hd
      omega
    · unfold dueAt at hd
      rw [if_neg e] at hd
      omega
  rw [begun_late T p c L k a b hk hL]
  by_cases hs : d ≤ T.steps.toNat + 1
  · obtain ⟨e1, _⟩ := play_sim T p.trips.length k b ((d : Int) - 1) _ hN d (by omega)
    obtain ⟨l1, f1, g1⟩ := log_play T p.trips.length (begunS T p { c with late := L.set k a }) d (T.steps.toNat + 1 - d)
    obtain ⟨l2, f2, g2⟩ := log_play T p.trips.length ((begunS T p { c with late := L.set k a }).late k b) d (T.steps.toNat + 1 - d)
    rw [show d + (T.steps.toNat + 1 - d) = T.steps.toNat + 1 by omega] at f1 f2
    rw [e1] at f2
    exact ⟨_, l1, l2, f1, f2, by rw [← hd]; exact g1, by rw [← hd]; exact g2⟩
  · obtain ⟨e1, _⟩ := play_sim T p.trips.length k b ((d : Int) - 1) _ hN (T.steps.toNat + 1) (by omega)
    rw [e1]
    exact ⟨_, [], [], (List.append_nil _).symm, (List.append_nil _).symm, by simp, by simp⟩

end Go.Proofs.Ytjoihijlcpnhoaa
