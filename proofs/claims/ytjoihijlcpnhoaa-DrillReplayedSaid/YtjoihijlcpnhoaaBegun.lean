/- Runs of plans: what layer 11 computes, as plain Lean functions. -/
import Derived.Test.YtjoihijlcpnhoaaPlan
namespace Go.Proofs.Ytjoihijlcpnhoaa

structure Case where
  late : List Int
  absent : List Int
  rides : List Int
  broken : List Bool

structure Entry where
  step : Int
  kind : Int
  party : Int
  at_ : Int
  people : Int
  deriving DecidableEq

structure Party where
  hops : List Hop
  cls : Int
  late : Int
  place : Int
  fin : Int
  ride : Bool
  index : Int
  vehicle : Int
  enter : Int
  broken : Bool
  moved : Bool
  state : Int
  people : Int

structure Wait where
  ride : Int
  group : Int
  place : Int
  hop : Int
  count : Int
  lost : Bool

def Party.z : Party := ⟨[], 0, 0, 0, 0, false, 0, 0, 0, false, false, 0, 0⟩
def Wait.z : Wait := ⟨0, 0, 0, 0, 0, false⟩

/-- What is used in a step: a kind, and a number. -/
structure Use where
  kind : Int
  id : Int
  deriving DecidableEq

structure RunS where
  parties : List Party
  waits : List Wait
  room : List Int
  used : List (Use × Int)
  log : List Entry

/-- The same up to the log. -/
def RunS.pt (r : RunS) (i : Nat) : Party := r.parties.getD i Party.z
def RunS.wt (r : RunS) (i : Nat) : Wait := r.waits.getD i Wait.z
def RunS.rm (r : RunS) (i : Int) : Int := r.room.getD i.toNat 0
def RunS.setP (r : RunS) (i : Nat) (x : Party) : RunS := { r with parties := r.parties.set i x }
def RunS.setW (r : RunS) (i : Nat) (x : Wait) : RunS := { r with waits := r.waits.set i x }
def RunS.note (r : RunS) (e : Entry) : RunS := { r with log := r.log ++ [e] }
def RunS.tell (r : RunS) (s kind : Int) (i : Nat) (at_ : Int) : RunS := r.note ⟨s, kind, i, at_, (r.pt i).people⟩

def arriveAt (s : Int) (i : Nat) (r : RunS) : RunS :=
  if (r.pt i).state = 2 ∧ (r.pt i).fin = s then (r.setP i { r.pt i with state := 1 }).tell s 1 i (r.pt i).place else r

def floodAt (T : Town) (s : Int) (i : Nat) (r : RunS) : RunS :=
  if ((r.pt i).state = 1 ∨ (r.pt i).state = 4) ∧ T.dry (r.pt i).place s = false then (r.setP i { r.pt i with state := 5 }).tell s 2 i (r.pt i).place else r

def floodW (T : Town) (n s : Int) (k : Nat) (r : RunS) : RunS :=
  if 0 < (r.wt k).count ∧ (r.wt k).lost = false ∧ T.dry (r.wt k).place s = false then
    (r.setW k { r.wt k with lost := true }).note ⟨s, 6, n + (r.wt k).ride, (r.wt k).place, (r.wt k).count⟩ else r

/-- The next party behind i that is a ride of the same vehicle. -/
def nextRide (r : RunS) (i : Nat) : Int := findI (fun y => (r.pt i).ride && y.vehicle == (r.pt i).vehicle) (r.parties.drop (i + 1))

def nextAt (r : RunS) (i : Nat) : RunS :=
  if 0 ≤ nextRide r i then r.setP (i + 1 + (nextRide r i).toNat) { r.pt (i + 1 + (nextRide r i).toNat) with state := 1, place := (r.pt i).place } else r

def enterNo (s : Int) (i : Nat) (r : RunS) : Bool :=
  decide ((r.pt i).state ≠ 1) || decide (0 < (r.pt i).hops.length) || !(r.pt i).ride && decide (s < (r.pt i).enter + (r.pt i).late)
def enterFull (T : Town) (i : Nat) (r : RunS) : Bool :=
  (T.pl (r.pt i).place).room == 0 || decide ((T.pl (r.pt i).place).door < kget r.used ⟨2, (r.pt i).place⟩ + (r.pt i).people) || decide (r.rm (r.pt i).place < (r.pt i).people)
def enterIn (r : RunS) (i : Nat) : RunS :=
  { r with used := kadd r.used ⟨2, (r.pt i).place⟩ (r.pt i).people, room := r.room.set (r.pt i).place.toNat (r.rm (r.pt i).place - (r.pt i).people), parties := r.parties.set i { r.pt i with state := 3 } }
def enterAt (T : Town) (s : Int) (i : Nat) (r : RunS) : RunS :=
  if enterNo s i r || enterFull T i r then r else nextAt ((enterIn r i).tell s 5 i (r.pt i).place) i

def beginNo (s : Int) (i : Nat) (r : RunS) : Bool :=
  decide ((r.pt i).state ≠ 1) || decide ((r.pt i).hops.length = 0) || (r.pt i).broken || decide (s < ((r.pt i).hops.getD 0 Hop.z).leave + (r.pt i).late)
def hopWay (T : Town) (x : Party) : Way := T.wy (x.hops.getD 0 Hop.z).way
def beginEnd (T : Town) (s : Int) (x : Party) : Int := s + (hopWay T x).steps x.cls
def takesN (x : Party) : Int := if x.ride then 1 else x.people
def takesK (x : Party) (k : Int) : Use := if x.ride then ⟨1, k⟩ else ⟨0, k⟩
def takesM (T : Town) (x : Party) (k : Int) : Int := if x.ride then (T.wy k).cars else (T.wy k).room
def takesIs (T : Town) (r : RunS) (x : Party) (k : Int) : Bool := decide (kget r.used (takesK x k) + takesN x ≤ takesM T x k)
def takesUse (r : RunS) (x : Party) (k : Int) : RunS := { r with used := kadd r.used (takesK x k) (takesN x) }
def boards (x : Party) (y : Wait) : Bool := x.ride && y.ride == x.index && y.hop == (x.hops.length : Int) && !y.lost
def boardAt (i : Nat) (k : Nat) (r : RunS) : RunS :=
  if boards (r.pt i) (r.wt k) then (r.setP i { r.pt i with people := (r.pt i).people + (r.wt k).count }).setW k { r.wt k with count := 0 } else r

/-- f 0, then f 1 and so on, n times. -/
def eachI (f : Nat → RunS → RunS) : Nat → RunS → RunS
  | 0, r => r
  | n + 1, r => f n (eachI f n r)

def boardAll (i : Nat) (r : RunS) : RunS := eachI (boardAt i) r.waits.length r
def beginMove (T : Town) (s : Int) (i : Nat) (r : RunS) (x : Party) : RunS :=
  r.setP i { r.pt i with state := 2, moved := true, place := (hopWay T x).dst, fin := beginEnd T s x, hops := (r.pt i).hops.drop 1 }
def beginAt (T : Town) (s : Int) (i : Nat) (r : RunS) : RunS :=
  if beginNo s i r then r
  else if min T.steps (hopWay T (r.pt i)).till < beginEnd T s (r.pt i) then (r.setP i { r.pt i with state := 4 }).tell s 3 i (r.pt i).place
  else if takesIs T r (r.pt i) ((r.pt i).hops.getD 0 Hop.z).way then
    beginMove T s i ((boardAll i (takesUse r (r.pt i) ((r.pt i).hops.getD 0 Hop.z).way)).tell s 4 i ((r.pt i).hops.getD 0 Hop.z).way) (r.pt i)
  else r

def stepRun (T : Town) (n s : Int) (r : RunS) : RunS :=
  eachI (beginAt T s) r.parties.length (eachI (enterAt T s) r.parties.length (eachI (floodW T n s) r.waits.length (eachI (floodAt T s) r.parties.length (eachI (arriveAt s) r.parties.length { r with used := [] }))))

/-- The first k steps. -/
def playN (T : Town) (n : Int) : Nat → RunS → RunS
  | 0, r => r
  | k + 1, r => stepRun T n k (playN T n k r)

def caseErr (p : Plan) (c : Case) : Int :=
  if p.trips.length < max c.late.length c.absent.length ∨ p.rides.length < max c.rides.length c.broken.length then 9
  else if c.late.any (fun n => !within n 0 200) then 3
  else if (List.range c.absent.length).any (fun i => decide (c.absent.getD i 0 < 0) || decide ((p.trips.getD i ⟨0, 0, [], 0⟩).count < c.absent.getD i 0)) then 3
  else if c.rides.any (fun n => !within n 0 200) then 3
  else 0

def tripParty (T : Town) (c : Case) (i : Nat) (x : Trip) : Party :=
  { hops := x.hops, cls := (T.gr x.group).cls, late := c.late.getD i 0, place := (T.gr x.group).place, fin := 0, ride := false, index := i, vehicle := -1, enter := x.enter, broken := false, moved := false,
    state := if x.count - c.absent.getD i 0 = 0 then 0 else 1, people := x.count - c.absent.getD i 0 }
def rideParty (T : Town) (c : Case) (first : Bool) (i : Nat) (x : Ride) : Party :=
  { hops := x.hops, cls := 2, late := c.rides.getD i 0, place := (T.vh x.vehicle).place, fin := 0, ride := true, index := i, vehicle := x.vehicle, enter := 0, broken := c.broken.getD i false, moved := false,
    state := if first then 1 else 0, people := 0 }
def boardWait (T : Town) (i : Nat) (x : Ride) (b : Board) : Wait := ⟨i, b.group, (T.gr b.group).place, (x.hops.length : Int) - b.hop, b.count, false⟩
def tripParties (T : Town) (c : Case) (l : List Trip) : List Party := l.mapIdx (tripParty T c)
/-- The first k rides. -/
def rideParties (T : Town) (c : Case) (l : List Ride) : Nat → List Party
  | 0 => []
  | k + 1 => rideParties T c l k ++ [rideParty T c (!(l.take k).any (fun y => y.vehicle == (l.getD k ⟨0, [], []⟩).vehicle)) k (l.getD k ⟨0, [], []⟩)]
def rideWaits (T : Town) (l : List Ride) : Nat → List Wait
  | 0 => []
  | k + 1 => rideWaits T l k ++ (l.getD k ⟨0, [], []⟩).boards.map (boardWait T k (l.getD k ⟨0, [], []⟩))

def begunS (T : Town) (p : Plan) (c : Case) : RunS :=
  ⟨tripParties T c p.trips ++ rideParties T c p.rides p.rides.length, rideWaits T p.rides p.rides.length, T.places.map Place.room, [], []⟩
def begunErr (T : Town) (p : Plan) (c : Case) : Int := if verifyT T p = 0 then caseErr p c else verifyT T p

/-- The run up to step n, with its log. -/
def playedT (T : Town) (p : Plan) (c : Case) (k : Nat) : RunS := playN T p.trips.length k (begunS T p c)
def runLog (T : Town) (p : Plan) (c : Case) : List Entry := (playedT T p c (T.steps.toNat + 1)).log

/-- Where the people of a group are. -/
structure Tally where
  inside : Int
  lost : Int
  absent : Int
  stuck : Int
  outside : Int
  unplanned : Int
  deriving DecidableEq

def Tally.z : Tally := ⟨0, 0, 0, 0, 0, 0⟩
def Tally.add (t : Tally) (s n : Int) : Tally :=
  if s = 3 then { t with inside := t.inside + n } else if s = 5 then { t with lost := t.lost + n } else if s = 4 then { t with stuck := t.stuck + n } else { t with outside := t.outside + n }
def tlSet (l : List Tally) (i : Int) (f : Tally → Tally) : List Tally := l.set i.toNat (f (l.getD i.toNat Tally.z))
def tallyTrip (r : RunS) (i : Nat) (x : Trip) (l : List Tally) : List Tally :=
  tlSet l x.group fun t => ({ t with unplanned := t.unplanned - x.count, absent := t.absent + (x.count - (r.pt i).people) }).add (r.pt i).state (r.pt i).people
def tallyWait (t : Tally) (w : Wait) : Tally := if w.lost then { t with lost := t.lost + w.count } else { t with outside := t.outside + w.count }
def tallyBoard (r : RunS) (j : Nat) (k : Nat) (b : Board) (l : List Tally) : List Tally :=
  tlSet l b.group fun t => tallyWait (({ t with unplanned := t.unplanned - b.count }).add (r.pt j).state (b.count - (r.wt k).count)) (r.wt k)
def tallyTrips (r : RunS) : Nat → List Trip → List Tally → List Tally
  | _, [], l => l
  | i, x :: t, l => tallyTrips r (i + 1) t (tallyTrip r i x l)
def tallyBoards (r : RunS) (j : Nat) : Nat → List Board → List Tally → List Tally
  | _, [], l => l
  | k, b :: t, l => tallyBoards r j (k + 1) t (tallyBoard r j k b l)
def tallyRides (r : RunS) : Nat → Nat → List Ride → List Tally → List Tally
  | _, _, [], l => l
  | j, k, x :: t, l => tallyRides r (j + 1) (k + x.boards.length) t (tallyBoards r j k x.boards l)
def talliesT (T : Town) (p : Plan) (r : RunS) : List Tally :=
  tallyRides r p.trips.length 0 p.rides (tallyTrips r 0 p.trips (T.groups.map fun g => { Tally.z with unplanned := g.count }))

end Go.Proofs.Ytjoihijlcpnhoaa
namespace Go.Proofs.Ytjoihijlcpnhoaa

structure PartyG (T : Town) (x : Party) : Prop where
  place : 0 ≤ x.place ∧ x.place < (T.places.length : Int)
  cls : 0 ≤ x.cls ∧ x.cls ≤ 2
  hops : ∀ h ∈ x.hops, T.unknown h = false ∧ T.outside h = false
  nh : x.hops.length ≤ 64
  late : 0 ≤ x.late ∧ x.late ≤ 200
  enter : 0 ≤ x.enter ∧ x.enter ≤ 200
  fin : 0 ≤ x.fin ∧ x.fin ≤ 1000
  people : 0 ≤ x.people

structure WaitG (T : Town) (y : Wait) : Prop where
  place : 0 ≤ y.place ∧ y.place < (T.places.length : Int)
  count : 0 ≤ y.count
  ride : 0 ≤ y.ride ∧ y.ride ≤ 256
  hop : 0 ≤ y.hop ∧ y.hop ≤ 64

def sumI (l : List Int) : Int := l.foldr (· + ·) 0
theorem sumI_cons (a : Int) (l : List Int) : sumI (a :: l) = a + sumI l := rfl
theorem sumI_set : ∀ (l : List Int) (i : Nat) (v : Int) (h : i < l.length), sumI (l.set i v) = sumI l - l[i] + v
  | [], _, _, h => by simp at h
  | a :: l, 0, v, _ => by
    simp only [List.set_cons_zero, sumI_cons, List.getElem_cons_zero]
    omega
  | a :: l, i + 1, v, h => by
    simp only [List.length_cons] at h
    simp only [List.set_cons_succ, sumI_cons, List.getElem_cons_succ, sumI_set l i v (by omega)]
    omega
theorem sumI_append : ∀ (l m : List Int), sumI (l ++ m) = sumI l + sumI m
  | [], m => by simp [sumI]
  | a :: l, m => by
    rw [List.cons_append, sumI_cons, sumI_cons, sumI_append l m]
    omega
theorem sumI_nonneg : ∀ (l : List Int), (∀ x ∈ l, 0 ≤ x) → 0 ≤ sumI l
  | [], _ => Int.le_refl 0
  | a :: l, h => by
    have := h a (by simp)
    have := sumI_nonneg l (fun x hx => h x (List.mem_cons_of_mem _ hx))
    rw [sumI_cons]
    omega
theorem sumI_mem : ∀ (l : List Int), (∀ x ∈ l, 0 ≤ x) → ∀ x ∈ l, x ≤ sumI l
  | [], _, x, hx => by cases hx
  | a :: l, h, x, hx => by
    have h0 := h a (by simp)
    have hl := fun x hx => h x (List.mem_cons_of_mem _ hx)
    have h1 := sumI_nonneg l hl
    rw [sumI_cons]
    rcases List.mem_cons.1 hx with rfl | hx
    · omega
    · have := sumI_mem l hl x hx
      omega
theorem sumI_le : ∀ (l : List Int) (b : Int), (∀ x ∈ l, x ≤ b) → sumI l ≤ (l.length : Int) * b
  | [], b, _ => by simp [sumI]
  | a :: l, b, h => by
    have h0 := h a (by simp)
    have h1 := sumI_le l b (fun x hx => h x (List.mem_cons_of_mem _ hx))
    rw [sumI_cons, List.length_cons, Int.natCast_add, Int.add_mul]
    omega

/-- All people of parties and of those who wait. -/
def RunS.pot (r : RunS) : Int := sumI (r.parties.map Party.people) + sumI (r.waits.map Wait.count)

structure UsedG (l : List (Use × Int)) : Prop where
  le : ∀ y ∈ l, 0 ≤ y.2 ∧ y.2 ≤ 100000
  key : ∀ y ∈ l, (0 ≤ y.1.kind ∧ y.1.kind ≤ 2) ∧ (0 ≤ y.1.id ∧ y.1.id ≤ 256)
  nodup : (l.map Prod.fst).Nodup

structure RunG (T : Town) (r : RunS) : Prop where
  parties : ∀ x ∈ r.parties, PartyG T x
  waits : ∀ y ∈ r.waits, WaitG T y
  np : r.parties.length ≤ 4352
  nw : r.waits.length ≤ 16384
  room : r.room.length = T.places.length ∧ ∀ n ∈ r.room, 0 ≤ n ∧ n ≤ 100000
  used : UsedG r.used
  pot : r.pot ≤ 4503599627370496

theorem RunG.pt {T : Town} {r : RunS} (h : RunG T r) {i : Nat} (hi : i < r.parties.length) : PartyG T (r.pt i) := by
  unfold RunS.pt
  rw [List.getD_eq_getElem?_getD, List.getElem?_eq_getElem hi]
  exact h.parties _ (List.getElem_mem hi)
theorem RunG.wt {T : Town} {r : RunS} (h : RunG T r) {k : Nat} (hk : k < r.waits.length) : WaitG T (r.wt k) := by
  unfold RunS.wt
  rw [List.getD_eq_getElem?_getD, List.getElem?_eq_getElem hk]
  exact h.waits _ (List.getElem_mem hk)
theorem RunG.people {T : Town} {r : RunS} (h : RunG T r) {i : Nat} (hi : i < r.parties.length) : 0 ≤ (r.pt i).people ∧ (r.pt i).people ≤ 4503599627370496 := by
  refine ⟨(h.pt hi).people, ?_⟩
  have h1 : ∀ n ∈ r.parties.map Party.people, 0 ≤ n := by
    intro n hn
    obtain ⟨x, hx, rfl⟩ := List.mem_map.1 hn
    exact (h.parties x hx).people
  have h2 : ∀ n ∈ r.waits.map Wait.count, 0 ≤ n := by
    intro n hn
    obtain ⟨x, hx, rfl⟩ := List.mem_map.1 hn
    exact (h.waits x hx).count
  have h3 := sumI_nonneg _ h2
  have h4 := sumI_mem _ h1 (r.pt i).people (by
    unfold RunS.pt
    rw [List.getD_eq_getElem?_getD, List.getElem?_eq_getElem hi]
    exact List.mem_map.2 ⟨_, List.getElem_mem hi, rfl⟩)
  have := h.pot
  unfold RunS.pot at this
  omega
theorem RunG.count {T : Town} {r : RunS} (h : RunG T r) {k : Nat} (hk : k < r.waits.length) : 0 ≤ (r.wt k).count ∧ (r.wt k).count ≤ 4503599627370496 := by
  refine ⟨(h.wt hk).count, ?_⟩
  have h1 : ∀ n ∈ r.parties.map Party.people, 0 ≤ n := by
    intro n hn
    obtain ⟨x, hx, rfl⟩ := List.mem_map.1 hn
    exact (h.parties x hx).people
  have h2 : ∀ n ∈ r.waits.map Wait.count, 0 ≤ n := by
    intro n hn
    obtain ⟨x, hx, rfl⟩ := List.mem_map.1 hn
    exact (h.waits x hx).count
  have h3 := sumI_nonneg _ h1
  have h4 := sumI_mem _ h2 (r.wt k).count (by
    unfold RunS.wt
    rw [List.getD_eq_getElem?_getD, List.getElem?_eq_getElem hk]
    exact List.mem_map.2 ⟨_, List.getElem_mem hk, rfl⟩)
  have := h.pot
  unfold RunS.pot at this
  omega

theorem set_same {α : Type} (l : List α) (i : Nat) (x : α) (h : ¬ i < l.length) : l.set i x = l := List.set_eq_of_length_le (by omega)

/-- A party changes, its people stay. -/
theorem RunG.setP {T : Town} {r : RunS} (h : RunG T r) (i : Nat) (x : Party) (hx : PartyG T x) (hp : i < r.parties.length → x.people = (r.pt i).people) : RunG T (r.setP i x) := by
  refine ⟨fun y hy => ?_, h.waits, by simp only [RunS.setP, List.length_set]; exact h.np, h.nw, h.room, h.used, ?_⟩
  · rcases List.mem_or_eq_of_mem_set hy with h1 | h1
    · exact h.parties y h1
    · subst h1; exact hx
  · have : (r.setP i x).pot = r.pot := by
      unfold RunS.pot RunS.setP
      simp only
      by_cases hi : i < r.parties.length
      · rw [List.map_set, sumI_set _ _ _ (by simpa using hi)]
        have := hp hi
        unfold RunS.pt at this
        rw [List.getD_eq_getElem?_getD, List.getElem?_eq_getElem hi] at this
        simp only [Option.getD_some] at this
        simp only [List.getElem_map]
        omega
      · rw [set_same _ _ _ hi]
    rw [this]; exact h.pot
theorem RunG.setW {T : Town} {r : RunS} (h : RunG T r) (k : Nat) (y : Wait) (hy : WaitG T y) (hp : k < r.waits.length → y.count = (r.wt k).count) : RunG T (r.setW k y) := by
  refine ⟨h.parties, fun z hz => ?_, h.np, by simp only [RunS.setW, List.length_set]; exact h.nw, h.room, h.used, ?_⟩
  · rcases List.mem_or_eq_of_mem_set hz with h1 | h1
    · exact h.waits z h1
    · subst h1; exact hy
  · have : (r.setW k y).pot = r.pot := by
      unfold RunS.pot RunS.setW
      simp only
      by_cases hk : k < r.waits.length
      · rw [List.map_set, sumI_set _ _ _ (by simpa using hk)]
        have := hp hk
        unfold RunS.wt at this
        rw [List.getD_eq_getElem?_getD, List.getElem?_eq_getElem hk] at this
        simp only [Option.getD_some] at this
        simp only [List.getElem_map]
        omega
      · rw [set_same _ _ _ hk]
    rw [this]; exact h.pot
theorem RunG.note {T : Town} {r : RunS} (h : RunG T r) (e : Entry) : RunG T (r.note e) := ⟨h.parties, h.waits, h.np, h.nw, h.room, h.used, h.pot⟩
theorem RunG.tell {T : Town} {r : RunS} (h : RunG T r) (s kind : Int) (i : Nat) (at_ : Int) : RunG T (r.tell s kind i at_) := h.note _

/-- What keeps runs in order. -/
def Keep (T : Town) (n m : Nat) (f : RunS → RunS) : Prop := ∀ r, RunG T r → r.parties.length = n → r.waits.length = m → RunG T (f r) ∧ (f r).parties.length = n ∧ (f r).waits.length = m

theorem Keep.each {T : Town} {n m : Nat} {f : Nat → RunS → RunS} (N : Nat) (h : ∀ i, i < N → Keep T n m (f i)) : ∀ k, k ≤ N → Keep T n m (eachI f k)
  | 0, _, _, hr, h1, h2 => ⟨hr, h1, h2⟩
  | k + 1, hk, r, hr, h1, h2 => by
    obtain ⟨g1, g2, g3⟩ := Keep.each N h k (by omega) r hr h1 h2
    exact h k (by omega) _ g1 g2 g3

theorem PartyG.state {T : Town} {x : Party} (h : PartyG T x) (s : Int) : PartyG T { x with state := s } := ⟨h.place, h.cls, h.hops, h.nh, h.late, h.enter, h.fin, h.people⟩

theorem arrive_keep (T : Town) (n m : Nat) (s : Int) (i : Nat) (hi : i < n) : Keep T n m (arriveAt s i) := by
  intro r hr h1 h2
  unfold arriveAt
  split
  · exact ⟨(hr.setP i _ ((hr.pt (by omega)).state 1) (fun _ => rfl)).tell _ _ _ _, by simp only [RunS.tell, RunS.note, RunS.setP, List.length_set]; exact h1, h2⟩
  · exact ⟨hr, h1, h2⟩
theorem flood_keep (T : Town) (n m : Nat) (s : Int) (i : Nat) (hi : i < n) : Keep T n m (floodAt T s i) := by
  intro r hr h1 h2
  unfold floodAt
  split
  · exact ⟨(hr.setP i _ ((hr.pt (by omega)).state 5) (fun _ => rfl)).tell _ _ _ _, by simp only [RunS.tell, RunS.note, RunS.setP, List.length_set]; exact h1, h2⟩
  · exact ⟨hr, h1, h2⟩
theorem floodW_keep (T : Town) (n m : Nat) (a s : Int) (k : Nat) (hk : k < m) : Keep T n m (floodW T a s k) := by
  intro r hr h1 h2
  unfold floodW
  split
  · have hw := hr.wt (k := k) (by omega)
    exact ⟨(hr.setW k { r.wt k with lost := true } ⟨hw.place, hw.count, hw.ride, hw.hop⟩ (fun _ => rfl)).note _, h1, by simp only [RunS.note, RunS.setW, List.length_set]; exact h2⟩
  · exact ⟨hr, h1, h2⟩

theorem findI_lt {α : Type} {p : α → Bool} {l : List α} (h : 0 ≤ findI p l) : (findI p l).toNat < l.length := by
  unfold findI at h ⊢
  cases e : l.findIdx? p with
  | none => rw [e] at h; simp at h
  | some k =>
    obtain ⟨hk, _⟩ := List.findIdx?_eq_some_iff_getElem.1 e
    simpa using hk

theorem nextAt_keep (T : Town) (n m : Nat) (i : Nat) (hi : i < n) : Keep T n m (fun r => nextAt r i) := by
  intro r hr h1 h2
  simp only
  unfold nextAt
  split
  · rename_i h
    have hj := findI_lt h
    unfold nextRide at hj
    simp only [List.length_drop] at hj
    have hj' : i + 1 + (nextRide r i).toNat < r.parties.length := by unfold nextRide; omega
    have hx := hr.pt hj'
    have hi' := hr.pt (i := i) (by omega)
    exact ⟨hr.setP _ _ ⟨hi'.place, hx.cls, hx.hops, hx.nh, hx.late, hx.enter, hx.fin, hx.people⟩ (fun _ => rfl), by simp only [RunS.setP, List.length_set]; exact h1, h2⟩
  · exact ⟨hr, h1, h2⟩

theorem kgetU {l : List (Use × Int)} (h : UsedG l) (x : Use) : 0 ≤ kget l x ∧ kget l x ≤ 100000 := by
  rcases kget_mem l x with h1 | ⟨y, hy, _, h1⟩
  · omega
  · rw [← h1]; exact h.le y hy
theorem UsedG.add {l : List (Use × Int)} (h : UsedG l) {x : Use} {n : Int} (hk : (0 ≤ x.kind ∧ x.kind ≤ 2) ∧ (0 ≤ x.id ∧ x.id ≤ 256)) (h0 : 0 ≤ n) (h1 : kget l x + n ≤ 100000) : UsedG (kadd l x n) := by
  have := kgetU h x
  refine ⟨fun y hy => ?_, fun y hy => ?_, kadd_nodup h.nodup⟩
  · rcases kadd_mem _ _ _ _ hy with g | ⟨g, _⟩
    · exact h.le y g
    · omega
  · rcases kadd_mem _ _ _ _ hy with g | ⟨_, g⟩
    · exact h.key y g
    · rw [g]; exact hk

theorem rm_mem {T : Town} {r : RunS} (h : RunG T r) {i : Int} (h0 : 0 ≤ i) (h1 : i < (T.places.length : Int)) : 0 ≤ r.rm i ∧ r.rm i ≤ 100000 := by
  unfold RunS.rm
  exact h.room.2 _ (getD_mem h0 (by rw [h.room.1]; exact h1))

theorem enterIn_keep {T : Town} (hG : TownG T) (n m : Nat) (i : Nat) (hi : i < n) (r : RunS) (hr : RunG T r) (h1 : r.parties.length = n) (h2 : r.waits.length = m) (hf : enterFull T i r = false) :
    RunG T (enterIn r i) ∧ (enterIn r i).parties.length = n ∧ (enterIn r i).waits.length = m := by
  have hx := hr.pt (i := i) (by omega)
  unfold enterFull at hf
  simp only [Bool.or_eq_false_iff, decide_eq_false_iff_not] at hf
  obtain ⟨⟨f1, f2⟩, f3⟩ := hf
  have hd := hG.place _ (getD_mem (z := Place.z) hx.place.1 hx.place.2)
  have hd' : (T.pl (r.pt i).place).door ≤ 100000 := hd.2.1.2
  have hrm := rm_mem hr hx.place.1 hx.place.2
  have g1 := hr.setP i _ (hx.state 3) (fun _ => rfl)
  have hnp : (T.places.length : Int) ≤ 64 := by have := hG.np.2; omega
  refine ⟨⟨g1.parties, hr.waits, g1.np, hr.nw, ⟨by unfold enterIn; simp only [List.length_set]; exact hr.room.1, fun k hk => ?_⟩, hr.used.add ⟨by simp, by simp only; have := hx.place; omega⟩ hx.people (by omega), g1.pot⟩, by unfold enterIn; simp only [List.length_set]; exact h1, h2⟩
  unfold enterIn at hk
  simp only at hk
  rcases List.mem_or_eq_of_mem_set hk with g | g
  · exact hr.room.2 k g
  · have := hx.people
    omega

theorem enter_keep {T : Town} (hG : TownG T) (n m : Nat) (s : Int) (i : Nat) (hi : i < n) : Keep T n m (enterAt T s i) := by
  intro r hr h1 h2
  unfold enterAt
  split
  · exact ⟨hr, h1, h2⟩
  · rename_i h
    simp only [Bool.or_eq_true, not_or, Bool.not_eq_true] at h
    obtain ⟨g1, g2, g3⟩ := enterIn_keep hG n m i hi r hr h1 h2 h.2
    exact nextAt_keep T n m i hi _ (g1.tell _ _ _ _) g2 g3

theorem board_keep (T : Town) (n m : Nat) (i : Nat) (hi : i < n) (k : Nat) (hk : k < m) : Keep T n m (boardAt i k) := by
  intro r hr h1 h2
  unfold boardAt
  split
  · have hx := hr.pt (i := i) (by omega)
    have hy := hr.wt (k := k) (by omega)
    have hi' : i < r.parties.length := by omega
    have hk' : k < r.waits.length := by omega
    have hx' : PartyG T { r.pt i with people := (r.pt i).people + (r.wt k).count } := ⟨hx.place, hx.cls, hx.hops, hx.nh, hx.late, hx.enter, hx.fin, by have := hx.people; have := hy.count; simp only; omega⟩
    have hy' : WaitG T { r.wt k with count := 0 } := ⟨hy.place, Int.le_refl 0, hy.ride, hy.hop⟩
    refine ⟨⟨fun y hm => ?_, fun y hm => ?_, by simp only [RunS.setP, RunS.setW, List.length_set]; exact hr.np, by simp only [RunS.setP, RunS.setW, List.length_set]; exact hr.nw, hr.room, hr.used, ?_⟩, by simp only [RunS.setP, RunS.setW, List.length_set]; exact h1, by simp only [RunS.setP, RunS.setW, List.length_set]; exact h2⟩
    · rcases List.mem_or_eq_of_mem_set hm with g | g
      · exact hr.parties y g
      · subst g; exact hx'
    · rcases List.mem_or_eq_of_mem_set hm with g | g
      · exact hr.waits y g
      · subst g; exact hy'
    · have hp := hr.pot
      unfold RunS.pot RunS.setW RunS.setP at *
      simp only at *
      rw [List.map_set, List.map_set, sumI_set _ _ _ (by simpa using hi'), sumI_set _ _ _ (by simpa using hk')]
      simp only [List.getElem_map]
      have e1 : (r.pt i) = r.parties[i] := by unfold RunS.pt; rw [List.getD_eq_getElem?_getD, List.getElem?_eq_getElem hi']; rfl
      have e2 : (r.wt k) = r.waits[k] := by unfold RunS.wt; rw [List.getD_eq_getElem?_getD, List.getElem?_eq_getElem hk']; rfl
      rw [e1, e2]
      omega
  · exact ⟨hr, h1, h2⟩

theorem takesM_le {T : Town} (hG : TownG T) (x : Party) {k : Int} (h0 : 0 ≤ k) (h1 : k < (T.ways.length : Int)) : takesM T x k ≤ 100000 := by
  have := hG.way _ (getD_mem (z := Way.z) h0 h1)
  unfold takesM Town.wy
  split <;> omega

theorem begin_keep {T : Town} (hG : TownG T) (n m : Nat) (s : Int) (hs : 0 ≤ s ∧ s ≤ 200) (i : Nat) (hi : i < n) : Keep T n m (beginAt T s i) := by
  intro r hr h1 h2
  unfold beginAt
  split
  · exact ⟨hr, h1, h2⟩
  rename_i hno
  have hx := hr.pt (i := i) (by omega)
  have hhop : ((r.pt i).hops.getD 0 Hop.z) ∈ (r.pt i).hops := by
    unfold beginNo at hno
    simp only [Bool.or_eq_true, not_or, decide_eq_true_eq, Bool.not_eq_true] at hno
    have hl : 0 < (r.pt i).hops.length := by omega
    rw [List.getD_eq_getElem?_getD, List.getElem?_eq_getElem hl]
    exact List.getElem_mem hl
  have hu := unknown_not.1 (hx.hops _ hhop).1
  split
  · exact ⟨(hr.setP i _ (hx.state 4) (fun _ => rfl)).tell _ _ _ _, by simp only [RunS.tell, RunS.note, RunS.setP, List.length_set]; exact h1, h2⟩
  split
  · rename_i ht
    unfold takesIs at ht
    have ht' := of_decide_eq_true ht
    have hM := takesM_le hG (r.pt i) hu.1 hu.2
    have hN : 0 ≤ takesN (r.pt i) := by unfold takesN; have := hx.people; split <;> omega
    have hnw : (T.ways.length : Int) ≤ 256 := by have := hG.nw; omega
    have hK : (0 ≤ (takesK (r.pt i) ((r.pt i).hops.getD 0 Hop.z).way).kind ∧ (takesK (r.pt i) ((r.pt i).hops.getD 0 Hop.z).way).kind ≤ 2) ∧ (0 ≤ (takesK (r.pt i) ((r.pt i).hops.getD 0 Hop.z).way).id ∧ (takesK (r.pt i) ((r.pt i).hops.getD 0 Hop.z).way).id ≤ 256) := by
      unfold takesK
      split <;> simp only <;> omega
    have g0 : RunG T (takesUse r (r.pt i) ((r.pt i).hops.getD 0 Hop.z).way) := ⟨hr.parties, hr.waits, hr.np, hr.nw, hr.room, hr.used.add hK hN (by omega), hr.pot⟩
    obtain ⟨g1, g2, g3⟩ := Keep.each m (fun k hk => board_keep T n m i hi k hk) m (Nat.le_refl m) _ g0 h1 h2
    have g4 := g1.tell s 4 i ((r.pt i).hops.getD 0 Hop.z).way
    have hwl : (takesUse r (r.pt i) ((r.pt i).hops.getD 0 Hop.z).way).waits.length = m := h2
    unfold beginMove boardAll
    rw [hwl]
    have hy := g1.pt (i := i) (by omega)
    have hw := hG.way _ (getD_mem (z := Way.z) hu.1 hu.2)
    have hst := Way.steps_mem hG (getD_mem (z := Way.z) hu.1 hu.2) (r.pt i).cls
    have hT := hG.steps
    have ep : ((eachI (boardAt i) m (takesUse r (r.pt i) ((r.pt i).hops.getD 0 Hop.z).way)).tell s 4 i ((r.pt i).hops.getD 0 Hop.z).way).pt i = (eachI (boardAt i) m (takesUse r (r.pt i) ((r.pt i).hops.getD 0 Hop.z).way)).pt i := rfl
    refine ⟨g4.setP i _ ⟨?_, hy.cls, fun h hh => hy.hops h (List.mem_of_mem_drop hh), ?_, hy.late, hy.enter, ?_, hy.people⟩ (fun _ => rfl), by simp only [RunS.tell, RunS.note, RunS.setP, List.length_set]; exact g2, g3⟩
    · exact hw.2.1
    · rw [ep]; have := hy.nh; simp only [List.length_drop]; omega
    · unfold beginEnd hopWay Town.wy
      simp only
      omega
  · exact ⟨hr, h1, h2⟩

theorem step_keep {T : Town} (hG : TownG T) (n m : Nat) (a s : Int) (hs : 0 ≤ s ∧ s ≤ 200) : Keep T n m (stepRun T a s) := by
  intro r hr h1 h2
  unfold stepRun
  have g0 : RunG T { r with used := [] } := ⟨hr.parties, hr.waits, hr.np, hr.nw, hr.room, ⟨by simp, by simp, by simp⟩, hr.pot⟩
  rw [h1, h2]
  obtain ⟨a1, a2, a3⟩ := Keep.each n (fun i hi => arrive_keep T n m s i hi) n (Nat.le_refl n) _ g0 h1 h2
  obtain ⟨b1, b2, b3⟩ := Keep.each n (fun i hi => flood_keep T n m s i hi) n (Nat.le_refl n) _ a1 a2 a3
  obtain ⟨c1, c2, c3⟩ := Keep.each m (fun i hi => floodW_keep T n m a s i hi) m (Nat.le_refl m) _ b1 b2 b3
  obtain ⟨d1, d2, d3⟩ := Keep.each n (fun i hi => enter_keep hG n m s i hi) n (Nat.le_refl n) _ c1 c2 c3
  exact Keep.each n (fun i hi => begin_keep hG n m s hs i hi) n (Nat.le_refl n) _ d1 d2 d3

end Go.Proofs.Ytjoihijlcpnhoaa
namespace Go.Proofs.Ytjoihijlcpnhoaa

structure CaseG (p : Plan) (c : Case) : Prop where
  nl : c.late.length ≤ p.trips.length
  na : c.absent.length ≤ p.trips.length
  nr : c.rides.length ≤ p.rides.length
  nb : c.broken.length ≤ p.rides.length
  late : ∀ n ∈ c.late, 0 ≤ n ∧ n ≤ 200
  rides : ∀ n ∈ c.rides, 0 ≤ n ∧ n ≤ 200
  absent : ∀ i (h : i < c.absent.length), 0 ≤ c.absent[i] ∧ c.absent[i] ≤ (p.trips.getD i ⟨0, 0, [], 0⟩).count

theorem caseErr_zero {p : Plan} {c : Case} (h : caseErr p c = 0) : CaseG p c := by
  unfold caseErr at h
  split at h
  · cases h
  rename_i h1
  split at h
  · cases h
  rename_i h2
  split at h
  · cases h
  rename_i h3
  split at h
  · cases h
  rename_i h4
  simp only [Bool.not_eq_true, List.any_eq_false] at h2 h3 h4
  refine ⟨by omega, by omega, by omega, by omega, fun n hn => (within_iff _ _ _).1 (by simpa using h2 n hn), fun n hn => (within_iff _ _ _).1 (by simpa using h4 n hn), fun i hi => ?_⟩
  have := h3 i (List.mem_range.2 hi)
  rw [Bool.or_eq_false_iff] at this
  have e : c.absent.getD i 0 = c.absent[i] := by rw [List.getD_eq_getElem?_getD, List.getElem?_eq_getElem hi]; rfl
  rw [e] at this
  have := of_decide_eq_false this.1
  have := of_decide_eq_false (by assumption : _ ∧ _).2
  omega

theorem getD_all {l : List Int} {P : Int → Prop} (h0 : P 0) (h : ∀ n ∈ l, P n) (i : Nat) : P (l.getD i 0) := by
  rw [List.getD_eq_getElem?_getD]
  by_cases hi : i < l.length
  · rw [List.getElem?_eq_getElem hi]; exact h _ (List.getElem_mem hi)
  · rw [List.getElem?_eq_none (by omega)]; exact h0

theorem tripParty_good {T : Town} (hG : TownG T) {p : Plan} {c : Case} (hC : CaseG p c) (i : Nat) (h : i < p.trips.length) (hx : TripG T p.trips[i]) :
    PartyG T (tripParty T c i p.trips[i]) ∧ (tripParty T c i p.trips[i]).people ≤ 100000 := by
  have hg := hG.group _ (getD_mem (z := Group.z) hx.group.1 hx.group.2)
  have hs := hG.steps
  have hab : 0 ≤ c.absent.getD i 0 ∧ c.absent.getD i 0 ≤ p.trips[i].count := by
    rw [List.getD_eq_getElem?_getD]
    by_cases hi : i < c.absent.length
    · rw [List.getElem?_eq_getElem hi]
      have := hC.absent i hi
      rw [List.getD_eq_getElem?_getD, List.getElem?_eq_getElem h] at this
      exact this
    · rw [List.getElem?_eq_none (by omega)]
      have := hx.count
      simp only [Option.getD_none]
      omega
  refine ⟨⟨hg.1, hg.2.1, hx.hops, hx.nh, getD_all (P := fun n => 0 ≤ n ∧ n ≤ 200) (by omega) hC.late i, ?_, ?_, ?_⟩, ?_⟩
  · have := hx.enter
    simp only [tripParty]
    omega
  · simp only [tripParty]; omega
  · simp only [tripParty]; omega
  · have := hx.count
    simp only [tripParty]
    omega

theorem rideParty_good {T : Town} (hG : TownG T) {p : Plan} {c : Case} (hC : CaseG p c) (f : Bool) (i : Nat) (x : Ride) (hx : RideG T x) : PartyG T (rideParty T c f i x) := by
  have hv := hG.vehicle _ (getD_mem (z := Vehicle.z) hx.vehicle.1 hx.vehicle.2)
  refine ⟨hv.1, ?_, hx.hops, hx.nh.2, getD_all (P := fun n => 0 ≤ n ∧ n ≤ 200) (by omega) hC.rides i, ?_, ?_, ?_⟩ <;> simp only [rideParty] <;> omega

theorem boardWait_good {T : Town} (hG : TownG T) (i : Nat) (hi : i ≤ 256) (x : Ride) (hx : RideG T x) (b : Board) (hb : b ∈ x.boards) : WaitG T (boardWait T i x b) ∧ (boardWait T i x b).count ≤ 100000 := by
  have hB := hx.boards b hb
  have hg := hG.group _ (getD_mem (z := Group.z) hB.group.1 hB.group.2)
  have := hx.nh
  have := hB.hop
  have := hB.count
  refine ⟨⟨hg.1, ?_, ?_, ?_⟩, ?_⟩ <;> simp only [boardWait] <;> omega

theorem rideParties_mem {T : Town} {c : Case} {l : List Ride} : ∀ (k : Nat) (x : Party), k ≤ l.length → x ∈ rideParties T c l k → ∃ f i, ∃ h : i < l.length, x = rideParty T c f i l[i]
  | 0, _, _, h => by cases h
  | k + 1, x, hk, h => by
    unfold rideParties at h
    rcases List.mem_append.1 h with h | h
    · exact rideParties_mem k x (by omega) h
    · rw [List.mem_singleton] at h
      have hk' : k < l.length := by omega
      have e : l.getD k ⟨0, [], []⟩ = l[k] := by rw [List.getD_eq_getElem?_getD, List.getElem?_eq_getElem hk']; rfl
      rw [e] at h
      exact ⟨_, k, hk', h⟩
theorem rideParties_len {T : Town} {c : Case} {l : List Ride} : ∀ (k : Nat), (rideParties T c l k).length = k
  | 0 => rfl
  | k + 1 => by
    unfold rideParties
    rw [List.length_append, rideParties_len k]
    rfl
theorem rideWaits_mem {T : Town} {l : List Ride} : ∀ (k : Nat) (y : Wait), k ≤ l.length → y ∈ rideWaits T l k → ∃ i, ∃ h : i < l.length, ∃ b ∈ l[i].boards, y = boardWait T i l[i] b
  | 0, _, _, h => by cases h
  | k + 1, y, hk, h => by
    unfold rideWaits at h
    rcases List.mem_append.1 h with h | h
    · exact rideWaits_mem k y (by omega) h
    · have hk' : k < l.length := by omega
      have e : l.getD k ⟨0, [], []⟩ = l[k] := by rw [List.getD_eq_getElem?_getD, List.getElem?_eq_getElem hk']; rfl
      rw [e] at h
      obtain ⟨b, hb, rfl⟩ := List.mem_map.1 h
      exact ⟨k, hk', b, hb, rfl⟩
theorem rideWaits_len {T : Town} {l : List Ride} (h : ∀ x ∈ l, x.boards.length ≤ 64) : ∀ (k : Nat), k ≤ l.length → (rideWaits T l k).length ≤ k * 64
  | 0, _ => by simp [rideWaits]
  | k + 1, hk => by
    have hk' : k < l.length := by omega
    have e : l.getD k ⟨0, [], []⟩ = l[k] := by rw [List.getD_eq_getElem?_getD, List.getElem?_eq_getElem hk']; rfl
    have h1 := rideWaits_len h k (T := T) (by omega)
    have h2 := h _ (List.getElem_mem hk')
    unfold rideWaits
    rw [List.length_append, List.length_map, e]
    omega

theorem begunS_good {T : Town} {p : Plan} {c : Case} (hG : TownG T) (hP : PlanG T p) (hC : CaseG p c) : RunG T (begunS T p c) ∧ (begunS T p c).parties.length = p.trips.length + p.rides.length ∧
    (begunS T p c).waits.length = (rideWaits T p.rides p.rides.length).length := by
  have hnt := hP.nt
  have hnr := hP.nr
  have hlen : (begunS T p c).parties.length = p.trips.length + p.rides.length := by
    unfold begunS
    simp only [List.length_append, rideParties_len]
    simp [tripParties]
  have hnw : (rideWaits T p.rides p.rides.length).length ≤ p.rides.length * 64 := rideWaits_len (fun x hx => (hP.rides x hx).nb) _ (Nat.le_refl _)
  have hpar : ∀ x ∈ (begunS T p c).parties, PartyG T x ∧ x.people ≤ 100000 := by
    intro x hx
    unfold begunS at hx
    rcases List.mem_append.1 hx with hx | hx
    · unfold tripParties at hx
      obtain ⟨i, hi, rfl⟩ := List.mem_mapIdx.1 hx
      exact tripParty_good hG hC i hi (hP.trips _ (List.getElem_mem hi))
    · obtain ⟨f, i, hi, rfl⟩ := rideParties_mem _ _ (Nat.le_refl _) hx
      exact ⟨rideParty_good hG hC f i _ (hP.rides _ (List.getElem_mem hi)), by simp [rideParty]⟩
  have hwt : ∀ y ∈ (begunS T p c).waits, WaitG T y ∧ y.count ≤ 100000 := by
    intro y hy
    obtain ⟨i, hi, b, hb, rfl⟩ := rideWaits_mem _ _ (Nat.le_refl _) hy
    exact boardWait_good hG i (by omega) _ (hP.rides _ (List.getElem_mem hi)) b hb
  refine ⟨⟨fun x hx => (hpar x hx).1, fun y hy => (hwt y hy).1, by omega, ?_, ⟨by simp [begunS], fun n hn => ?_⟩, ⟨by simp [begunS], by simp [begunS], by simp [begunS]⟩, ?_⟩, hlen, rfl⟩
  · have : (begunS T p c).waits = rideWaits T p.rides p.rides.length := rfl
    rw [this]; omega
  · unfold begunS at hn
    obtain ⟨q, hq, rfl⟩ := List.mem_map.1 hn
    exact (hG.place q hq).1
  · have h1 := sumI_le ((begunS T p c).parties.map Party.people) 100000 (fun n hn => by
      obtain ⟨x, hx, rfl⟩ := List.mem_map.1 hn
      exact (hpar x hx).2)
    have h2 := sumI_le ((begunS T p c).waits.map Wait.count) 100000 (fun n hn => by
      obtain ⟨x, hx, rfl⟩ := List.mem_map.1 hn
      exact (hwt x hx).2)
    rw [List.length_map, hlen] at h1
    rw [List.length_map] at h2
    have e : (begunS T p c).waits = rideWaits T p.rides p.rides.length := rfl
    rw [e] at h2
    unfold RunS.pot
    rw [e]
    omega

end Go.Proofs.Ytjoihijlcpnhoaa
