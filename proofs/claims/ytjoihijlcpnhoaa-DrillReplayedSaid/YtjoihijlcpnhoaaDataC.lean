/- The plain data of layers 10 and 11, and what the program computes on them, as plain Lean functions. Nothing here names the program. -/
namespace Go.Proofs.Ytjoihijlcpnhoaa

structure Place where
  room : Int
  door : Int
  till : Int
structure Way where
  src : Int
  dst : Int
  s0 : Int
  s1 : Int
  s2 : Int
  room : Int
  cars : Int
  till : Int
structure Group where
  place : Int
  cls : Int
  count : Int
structure Vehicle where
  place : Int
  seats : Int
structure Town where
  steps : Int
  places : List Place
  ways : List Way
  groups : List Group
  vehicles : List Vehicle
structure Hop where
  way : Int
  leave : Int
structure Trip where
  group : Int
  count : Int
  hops : List Hop
  enter : Int
structure Board where
  hop : Int
  group : Int
  count : Int
structure Ride where
  vehicle : Int
  hops : List Hop
  boards : List Board
structure Plan where
  trips : List Trip
  rides : List Ride

def within (n lo hi : Int) : Bool := decide (lo ≤ n) && decide (n ≤ hi)

/-- The steps of a way for a class. -/
def Way.steps (x : Way) (c : Int) : Int := if c = 0 then x.s0 else if c = 1 then x.s1 else x.s2

def pcheck (p : Place) : Int :=
  if !within p.room 0 100000 || !within p.door 0 100000 || !within p.till 0 1099511627776 then 3
  else if 0 < p.room && p.till != 1099511627776 then 20 else 0

def Town.has (T : Town) (p : Int) : Bool := within p 0 ((T.places.length : Int) - 1)

def badSteps (T : Town) (x : Way) : Bool := [x.s0, x.s1, x.s2].any (fun n => !within n 0 T.steps)

def wcheck (T : Town) (x : Way) : Int :=
  if !T.has x.src || !T.has x.dst then 4
  else if x.src == x.dst then 2
  else if badSteps T x || !within x.room 0 100000 || !within x.cars 0 32 || !within x.till 0 1099511627776 then 3
  else 0

def gcheck (T : Town) (g : Group) : Int :=
  if !T.has g.place then 4 else if !within g.cls 0 2 then 2 else if !within g.count 1 100000 then 3 else 0

def vcheck (T : Town) (v : Vehicle) : Int :=
  if !T.has v.place then 4 else if !within v.seats 1 100000 then 3 else 0

theorem gcheck_cases (T : Town) (g : Group) : (T.has g.place = false ∧ gcheck T g = 4) ∨ (T.has g.place = true ∧ within g.cls 0 2 = false ∧ gcheck T g = 2) ∨
    (T.has g.place = true ∧ within g.cls 0 2 = true ∧ within g.count 1 100000 = false ∧ gcheck T g = 3) ∨ (T.has g.place = true ∧ within g.cls 0 2 = true ∧ within g.count 1 100000 = true ∧ gcheck T g = 0) := by
  unfold gcheck
  cases T.has g.place <;> cases within g.cls 0 2 <;> cases within g.count 1 100000 <;> simp
theorem vcheck_cases (T : Town) (v : Vehicle) : (T.has v.place = false ∧ vcheck T v = 4) ∨ (T.has v.place = true ∧ within v.seats 1 100000 = false ∧ vcheck T v = 3) ∨
    (T.has v.place = true ∧ within v.seats 1 100000 = true ∧ vcheck T v = 0) := by
  unfold vcheck
  cases T.has v.place <;> cases within v.seats 1 100000 <;> simp

/-- The first error of a list. -/
def firstErr : List Int → Int
  | [] => 0
  | e :: l => if e = 0 then firstErr l else e

def errs (T : Town) : List Int := T.places.map pcheck ++ (T.ways.map (wcheck T) ++ (T.groups.map (gcheck T) ++ T.vehicles.map (vcheck T)))

def checkT (T : Town) : Int :=
  if !within T.steps 1 200 then 3
  else if T.places.length = 0 then 2
  else if 64 < T.places.length ∨ 256 < T.ways.length ∨ 64 < T.groups.length ∨ 32 < T.vehicles.length then 9
  else firstErr (errs T)

/-- One step of a loop over a list of which only the rest counts. -/
theorem firstErr_drop {α : Type} (f : α → Int) (l : List α) (r : List Int) (k : Nat) (h : k < l.length) :
    firstErr ((l.drop k).map f ++ r) = if f l[k] = 0 then firstErr ((l.drop (k + 1)).map f ++ r) else f l[k] := by
  rw [List.drop_eq_getElem_cons h]; rfl

theorem firstErr_end {α : Type} (f : α → Int) (l : List α) (r : List Int) (k : Nat) (h : ¬ k < l.length) :
    firstErr ((l.drop k).map f ++ r) = firstErr r := by
  rw [List.drop_eq_nil_of_le (by omega)]; rfl

def Place.z : Place := ⟨0, 0, 0⟩
def Way.z : Way := ⟨0, 0, 0, 0, 0, 0, 0, 0⟩
def Group.z : Group := ⟨0, 0, 0⟩
def Vehicle.z : Vehicle := ⟨0, 0⟩
def Hop.z : Hop := ⟨0, 0⟩
def Town.pl (T : Town) (i : Int) : Place := T.places.getD i.toNat Place.z
def Town.wy (T : Town) (i : Int) : Way := T.ways.getD i.toNat Way.z
def Town.gr (T : Town) (i : Int) : Group := T.groups.getD i.toNat Group.z
def Town.vh (T : Town) (i : Int) : Vehicle := T.vehicles.getD i.toNat Vehicle.z
def Town.dry (T : Town) (p s : Int) : Bool := decide (s < (T.pl p).till)
def Town.refuge (T : Town) (p : Int) : Bool := decide (0 < (T.pl p).room)
def Town.unknown (T : Town) (h : Hop) : Bool := !within h.way 0 ((T.ways.length : Int) - 1)
def Town.outside (T : Town) (h : Hop) : Bool := !within h.leave 0 T.steps

/-- Where the first element lies of which p holds; -1: nowhere. -/
def findI {α : Type} (p : α → Bool) (l : List α) : Int := match l.findIdx? p with | some k => (k : Int) | none => -1
/-- p holds of none of the first k. -/
def NoneTo {α : Type} (p : α → Bool) (l : List α) (k : Nat) : Prop := ∀ j, j < k → ∀ (h : j < l.length), p l[j] = false
theorem NoneTo.succ {α : Type} {p : α → Bool} {l : List α} {k : Nat} (h : NoneTo p l k) (hk : k < l.length) (hp : p l[k] = false) : NoneTo p l (k + 1) := by
  intro j hj hjl
  by_cases e : j = k
  · subst e; exact hp
  · exact h j (by omega) hjl
theorem findI_at {α : Type} {p : α → Bool} {l : List α} {k : Nat} (hk : k < l.length) (h : NoneTo p l k) (hp : p l[k] = true) : findI p l = k := by
  have : l.findIdx? p = some k := by
    rw [List.findIdx?_eq_some_iff_getElem]
    exact ⟨hk, hp, fun j hj => by have := h j hj (by omega); simp [this]⟩
  unfold findI; rw [this]
theorem findI_none {α : Type} {p : α → Bool} {l : List α} {k : Nat} (h : NoneTo p l k) (hk : l.length ≤ k) : findI p l = -1 := by
  have : l.findIdx? p = none := by
    rw [List.findIdx?_eq_none_iff]
    intro x hx
    obtain ⟨j, hj, rfl⟩ := List.getElem_of_mem hx
    exact h j (by omega) hj
  unfold findI; rw [this]
theorem findI_any {α : Type} (p : α → Bool) (l : List α) : decide (0 ≤ findI p l) = l.any p := by
  unfold findI
  cases h : l.findIdx? p with
  | none =>
    have := List.findIdx?_eq_none_iff.1 h
    simp
    intro x hx
    simpa using this x hx
  | some k =>
    obtain ⟨hk, hp, _⟩ := List.findIdx?_eq_some_iff_getElem.1 h
    have : l.any p = true := List.any_eq_true.2 ⟨_, List.getElem_mem hk, hp⟩
    rw [this]
    simp

/-- A fold that may stop. -/
def foldS {σ α : Type} (step : σ → α → Option σ) : σ → List α → Option σ
  | st, [] => some st
  | st, x :: l => match step st x with
    | none => none
    | some st' => foldS step st' l
theorem foldS_drop {σ α : Type} (step : σ → α → Option σ) (st : σ) (l : List α) (k : Nat) (h : k < l.length) : foldS step st (l.drop k) = match step st l[k] with
    | none => none
    | some st' => foldS step st' (l.drop (k + 1)) := by
  rw [List.drop_eq_getElem_cons h]; rfl
theorem foldS_end {σ α : Type} (step : σ → α → Option σ) (st : σ) (l : List α) (k : Nat) (h : ¬ k < l.length) : foldS step st (l.drop k) = some st := by
  rw [List.drop_eq_nil_of_le (by omega)]; rfl

end Go.Proofs.Ytjoihijlcpnhoaa
namespace Go.Proofs.Ytjoihijlcpnhoaa

/-- Where somebody is who follows hops, and which errors were met. -/
structure WSt where
  place : Int
  step : Int
  late : Bool
  cut : Bool
  wet : Bool

/-- A hop that is not connected. -/
def hopBad (x : Way) (c p s : Int) (h : Hop) : Bool := x.src != p || decide (h.leave < s) || x.steps c == 0

def hopStep (T : Town) (c : Int) (st : WSt) (h : Hop) : Option WSt :=
  if hopBad (T.wy h.way) c st.place st.step h then none
  else some ⟨(T.wy h.way).dst, h.leave + (T.wy h.way).steps c, st.late || decide (T.steps < h.leave + (T.wy h.way).steps c), st.cut || decide ((T.wy h.way).till < h.leave + (T.wy h.way).steps c),
    st.wet || !T.dry (T.wy h.way).src h.leave || !T.dry (T.wy h.way).dst (h.leave + (T.wy h.way).steps c)⟩

theorem hopStep_eq (T : Town) (c p s : Int) (la cu we : Bool) (h : Hop) : hopStep T c ⟨p, s, la, cu, we⟩ h =
    if hopBad (T.wy h.way) c p s h then none
    else some ⟨(T.wy h.way).dst, h.leave + (T.wy h.way).steps c, la || decide (T.steps < h.leave + (T.wy h.way).steps c), cu || decide ((T.wy h.way).till < h.leave + (T.wy h.way).steps c),
      we || !T.dry (T.wy h.way).src h.leave || !T.dry (T.wy h.way).dst (h.leave + (T.wy h.way).steps c)⟩ := rfl

/-- The error of hops that are connected. -/
def WSt.err (st : WSt) : Int := if st.late then 17 else if st.cut then 21 else if st.wet then 20 else 0

/-- All hops; none: they are not connected. -/
def hopsRun (T : Town) (c : Int) (st : WSt) (l : List Hop) : Option WSt := foldS (hopStep T c) st l

def WSt.start (p s : Int) : WSt := ⟨p, s, false, false, false⟩

/-- The error of a trip, and where and when it ends. -/
def tripT (T : Town) (x : Trip) : Int × Int × Int :=
  if !within x.group 0 ((T.groups.length : Int) - 1) || x.hops.any T.unknown then (0, 0, 4)
  else if (T.gr x.group).cls == 2 || decide (x.count < 1) then (0, 0, 2)
  else if x.hops.any T.outside || !within x.enter 0 T.steps then (0, 0, 3)
  else match hopsRun T (T.gr x.group).cls (WSt.start (T.gr x.group).place 0) x.hops with
    | none => (0, 0, 11)
    | some st => if !T.refuge st.place then (0, 0, 11) else (st.place, x.enter, WSt.err { st with late := st.late || decide (x.enter < st.step) })

def bNone (T : Town) (n : Nat) (b : Board) : Bool := !within b.hop 0 ((n : Int) - 1) || !within b.group 0 ((T.groups.length : Int) - 1)
def bBad (T : Town) (b : Board) : Bool := (T.gr b.group).cls != 2 || decide (b.count < 1)
def bElse (T : Town) (l : List Hop) (b : Board) : Bool := (T.wy (l.getD b.hop.toNat Hop.z).way).src != (T.gr b.group).place

def rideT (T : Town) (x : Ride) (p s : Int) : Int × Int × Int :=
  if x.hops.any T.unknown || x.boards.any (bNone T x.hops.length) then (0, 0, 4)
  else if x.hops.length == 0 || x.boards.any (bBad T) then (0, 0, 2)
  else if x.hops.any T.outside then (0, 0, 3)
  else match hopsRun T 2 (WSt.start p s) x.hops with
    | none => (0, 0, 11)
    | some st => if x.boards.any (bElse T x.hops) || !T.refuge st.place then (0, 0, 11) else (st.place, st.step, st.err)

/-- What can be used up. -/
structure Thing where
  kind : Int
  id : Int
  step : Int
  deriving DecidableEq

/-- A map from keys to numbers, in the order in which keys came. -/
def kget {κ : Type} [DecidableEq κ] : List (κ × Int) → κ → Int
  | [], _ => 0
  | (y, n) :: l, x => if x = y then n else kget l x
def kadd {κ : Type} [DecidableEq κ] : List (κ × Int) → κ → Int → List (κ × Int)
  | [], x, n => [(x, n)]
  | (y, m) :: l, x, n => if x = y then (y, m + n) :: l else (y, m) :: kadd l x n
theorem kget_kadd {κ : Type} [DecidableEq κ] (l : List (κ × Int)) (x y : κ) (n : Int) : kget (kadd l x n) y = if y = x then kget l x + n else kget l y := by
  induction l with
  | nil => simp only [kadd, kget]; split <;> simp
  | cons z l ih =>
    obtain ⟨z, m⟩ := z
    simp only [kadd]
    by_cases h : x = z
    · subst h
      by_cases h2 : y = x
      · subst h2; simp [kget]
      · simp [kget, h2]
    · simp only [if_neg h, kget]
      rw [ih]
      by_cases h2 : y = x
      · subst h2; simp [h]
      · simp [h2]

structure Acc where
  used : List (Thing × Int)
  over : Bool
  full : Bool

def mostT (T : Town) (x : Thing) : Int :=
  if x.kind = 0 then (T.gr x.id).count
  else if x.kind = 1 then (T.wy x.id).room
  else if x.kind = 2 then (T.wy x.id).cars
  else if x.kind = 3 then (T.pl x.id).door
  else (T.pl x.id).room

def leftT (T : Town) (a : Acc) (x : Thing) : Int := mostT T x - kget a.used x
def useT (T : Town) (a : Acc) (x : Thing) (n : Int) : Acc :=
  if n ≤ leftT T a x then { a with used := kadd a.used x n }
  else if x.kind = 0 then { a with over := true } else { a with full := true }
def enterT (T : Town) (a : Acc) (p s n : Int) : Acc := useT T (useT T a ⟨3, p, s⟩ n) ⟨4, p, 0⟩ n

def hopsUse (T : Town) (kind n : Int) : Acc → List Hop → Acc
  | a, [] => a
  | a, h :: l => hopsUse T kind n (useT T a ⟨kind, h.way, h.leave⟩ n) l

def tripUse (T : Town) (a : Acc) (x : Trip) (p s : Int) : Acc :=
  enterT T (hopsUse T 1 x.count (useT T a ⟨0, x.group, 0⟩ x.count) x.hops) p s x.count

/-- An account, or an error. -/
inductive Res (α : Type) where
  | bad (e : Int)
  | ok (a : α)

def tripsRun (T : Town) : Acc → List Trip → Res Acc
  | a, [] => .ok a
  | a, x :: l => if (tripT T x).2.2 = 0 then tripsRun T (tripUse T a x (tripT T x).1 (tripT T x).2.1) l else .bad (tripT T x).2.2

def boardsUse (T : Town) (p s : Int) : Acc → Int → List Board → Acc
  | a, _, [] => a
  | a, seats, b :: l =>
    let a1 := useT T a ⟨0, b.group, 0⟩ b.count
    boardsUse T p s (enterT T { a1 with full := a1.full || decide (seats < b.count) } p s b.count) (seats - min b.count seats) l

def ridesRun (T : Town) : Acc → List (Int × Int) → List Ride → Res Acc
  | a, _, [] => .ok a
  | a, at_, x :: l =>
    if !within x.vehicle 0 ((at_.length : Int) - 1) then .bad 4
    else
      let m := at_.getD x.vehicle.toNat (0, 0)
      let r := rideT T x m.1 m.2
      if r.2.2 = 0 then ridesRun T (boardsUse T r.1 r.2.1 (hopsUse T 2 1 a x.hops) (T.vh x.vehicle).seats x.boards) (at_.set x.vehicle.toNat (r.1, r.2.1)) l
      else .bad r.2.2

def longP (p : Plan) : Bool :=
  decide (4096 < p.trips.length) || decide (256 < p.rides.length) || p.trips.any (fun x => decide (64 < x.hops.length)) || p.rides.any (fun x => decide (64 < x.hops.length) || decide (64 < x.boards.length))

def accEnd (a : Acc) : Res Acc := if a.over then .bad 12 else if a.full then .bad 13 else .ok a

def checkedT (T : Town) (p : Plan) : Res Acc :=
  if checkT T ≠ 0 then .bad (checkT T)
  else if longP p then .bad 9
  else match tripsRun T ⟨[], false, false⟩ p.trips with
    | .bad e => .bad e
    | .ok a => match ridesRun T a (T.vehicles.map fun v => (v.place, 0)) p.rides with
      | .bad e => .bad e
      | .ok a => accEnd a

def Res.err {α : Type} : Res α → Int
  | .bad e => e
  | .ok _ => 0

def verifyT (T : Town) (p : Plan) : Int := (checkedT T p).err

def delayHops (l : List Hop) (n : Int) : List Hop := l.map fun h => ⟨h.way, h.leave + n⟩
def delayedT (p : Plan) (n : Int) : Plan :=
  ⟨p.trips.map fun x => ⟨x.group, x.count, delayHops x.hops n, x.enter + n⟩, p.rides.map fun x => ⟨x.vehicle, delayHops x.hops n, x.boards⟩⟩

end Go.Proofs.Ytjoihijlcpnhoaa
namespace Go.Proofs.Ytjoihijlcpnhoaa

structure TownG (T : Town) : Prop where
  steps : 1 ≤ T.steps ∧ T.steps ≤ 200
  np : 0 < T.places.length ∧ T.places.length ≤ 64
  nw : T.ways.length ≤ 256
  ng : T.groups.length ≤ 64
  nv : T.vehicles.length ≤ 32
  place : ∀ p ∈ T.places, (0 ≤ p.room ∧ p.room ≤ 100000) ∧ (0 ≤ p.door ∧ p.door ≤ 100000) ∧ (0 ≤ p.till ∧ p.till ≤ 1099511627776) ∧ (0 < p.room → p.till = 1099511627776)
  way : ∀ x ∈ T.ways, (0 ≤ x.src ∧ x.src < (T.places.length : Int)) ∧ (0 ≤ x.dst ∧ x.dst < (T.places.length : Int)) ∧ x.src ≠ x.dst ∧
    (0 ≤ x.s0 ∧ x.s0 ≤ T.steps) ∧ (0 ≤ x.s1 ∧ x.s1 ≤ T.steps) ∧ (0 ≤ x.s2 ∧ x.s2 ≤ T.steps) ∧ (0 ≤ x.room ∧ x.room ≤ 100000) ∧ (0 ≤ x.cars ∧ x.cars ≤ 32) ∧ (0 ≤ x.till ∧ x.till ≤ 1099511627776)
  group : ∀ g ∈ T.groups, (0 ≤ g.place ∧ g.place < (T.places.length : Int)) ∧ (0 ≤ g.cls ∧ g.cls ≤ 2) ∧ (1 ≤ g.count ∧ g.count ≤ 100000)
  vehicle : ∀ v ∈ T.vehicles, (0 ≤ v.place ∧ v.place < (T.places.length : Int)) ∧ (1 ≤ v.seats ∧ v.seats ≤ 100000)

theorem within_iff (n lo hi : Int) : within n lo hi = true ↔ lo ≤ n ∧ n ≤ hi := by simp [within]
theorem within_not (n lo hi : Int) : within n lo hi = false ↔ ¬ (lo ≤ n ∧ n ≤ hi) := by rw [← within_iff]; simp

theorem firstErr_zero : ∀ (l : List Int), firstErr l = 0 ↔ ∀ e ∈ l, e = 0
  | [] => by simp [firstErr]
  | e :: l => by
    unfold firstErr
    by_cases h : e = 0
    · simp [h, firstErr_zero l]
    · simp [h]

theorem pcheck_zero {p : Place} (h : pcheck p = 0) : (0 ≤ p.room ∧ p.room ≤ 100000) ∧ (0 ≤ p.door ∧ p.door ≤ 100000) ∧ (0 ≤ p.till ∧ p.till ≤ 1099511627776) ∧ (0 < p.room → p.till = 1099511627776) := by
  unfold pcheck at h
  split at h
  · cases h
  · rename_i h1
    simp only [Bool.or_eq_true, not_or, Bool.not_eq_true', Bool.not_eq_false] at h1
    obtain ⟨⟨h1, h2⟩, h3⟩ := h1
    split at h
    · cases h
    · rename_i h4
      simp only [Bool.and_eq_true, bne_iff_ne, decide_eq_true_eq, not_and, Decidable.not_not] at h4
      exact ⟨(within_iff _ _ _).1 (by simpa using h1), (within_iff _ _ _).1 (by simpa using h2), (within_iff _ _ _).1 (by simpa using h3), h4⟩

theorem has_iff (T : Town) (p : Int) : T.has p = true ↔ 0 ≤ p ∧ p < (T.places.length : Int) := by
  unfold Town.has
  rw [within_iff]
  omega

theorem wcheck_zero {T : Town} {x : Way} (h : wcheck T x = 0) : (0 ≤ x.src ∧ x.src < (T.places.length : Int)) ∧ (0 ≤ x.dst ∧ x.dst < (T.places.length : Int)) ∧ x.src ≠ x.dst ∧
    (0 ≤ x.s0 ∧ x.s0 ≤ T.steps) ∧ (0 ≤ x.s1 ∧ x.s1 ≤ T.steps) ∧ (0 ≤ x.s2 ∧ x.s2 ≤ T.steps) ∧ (0 ≤ x.room ∧ x.room ≤ 100000) ∧ (0 ≤ x.cars ∧ x.cars ≤ 32) ∧ (0 ≤ x.till ∧ x.till ≤ 1099511627776) := by
  unfold wcheck at h
  split at h
  · cases h
  · rename_i h1
    split at h
    · cases h
    · rename_i h2
      split at h
      · cases h
      · rename_i h3
        simp only [Bool.or_eq_true, not_or, Bool.not_eq_true', Bool.not_eq_false] at h1 h3
        obtain ⟨h1, h1'⟩ := h1
        obtain ⟨⟨⟨h3, h4⟩, h5⟩, h6⟩ := h3
        have h3' : ∀ n ∈ [x.s0, x.s1, x.s2], within n 0 T.steps = true := by
          intro n hn
          unfold badSteps at h3
          simp only [Bool.not_eq_true, List.any_eq_false] at h3
          have := h3 n hn
          simpa using this
        refine ⟨(has_iff _ _).1 h1, (has_iff _ _).1 h1', by simpa using h2, (within_iff _ _ _).1 (h3' _ (by simp)), (within_iff _ _ _).1 (h3' _ (by simp)), (within_iff _ _ _).1 (h3' _ (by simp)), (within_iff _ _ _).1 h4, (within_iff _ _ _).1 h5, (within_iff _ _ _).1 h6⟩

theorem checkT_zero {T : Town} (h : checkT T = 0) : TownG T := by
  unfold checkT at h
  split at h
  · cases h
  · rename_i h1
    split at h
    · cases h
    · rename_i h2
      split at h
      · cases h
      · rename_i h3
        rw [firstErr_zero] at h
        have hp : ∀ p ∈ T.places, pcheck p = 0 := fun p hp => h _ (by unfold errs; simp only [List.mem_append, List.mem_map]; exact .inl ⟨p, hp, rfl⟩)
        have hw : ∀ p ∈ T.ways, wcheck T p = 0 := fun p hp => h _ (by unfold errs; simp only [List.mem_append, List.mem_map]; exact .inr (.inl ⟨p, hp, rfl⟩))
        have hg : ∀ p ∈ T.groups, gcheck T p = 0 := fun p hp => h _ (by unfold errs; simp only [List.mem_append, List.mem_map]; exact .inr (.inr (.inl ⟨p, hp, rfl⟩)))
        have hv : ∀ p ∈ T.vehicles, vcheck T p = 0 := fun p hp => h _ (by unfold errs; simp only [List.mem_append, List.mem_map]; exact .inr (.inr (.inr ⟨p, hp, rfl⟩)))
        have hs : 1 ≤ T.steps ∧ T.steps ≤ 200 := (within_iff _ _ _).1 (by simpa using h1)
        refine ⟨hs, ⟨by omega, by omega⟩, by omega, by omega, by omega, fun p m => pcheck_zero (hp p m), fun x m => wcheck_zero (hw x m), fun g m => ?_, fun v m => ?_⟩
        · have h0 := hg g m
          rcases gcheck_cases T g with ⟨_, q⟩ | ⟨_, _, q⟩ | ⟨_, _, _, q⟩ | ⟨q1, q2, q3, _⟩
          · omega
          · omega
          · omega
          · exact ⟨(has_iff _ _).1 q1, (within_iff _ _ _).1 q2, (within_iff _ _ _).1 q3⟩
        · have h0 := hv v m
          rcases vcheck_cases T v with ⟨_, q⟩ | ⟨_, _, q⟩ | ⟨q1, q2, _⟩
          · omega
          · omega
          · exact ⟨(has_iff _ _).1 q1, (within_iff _ _ _).1 q2⟩

theorem getD_mem {α : Type} {l : List α} {i : Int} {z : α} (h0 : 0 ≤ i) (h1 : i < (l.length : Int)) : l.getD i.toNat z ∈ l := by
  have hk : i.toNat < l.length := by omega
  rw [List.getD_eq_getElem?_getD, List.getElem?_eq_getElem hk]
  exact List.getElem_mem hk

theorem unknown_not {T : Town} {h : Hop} : T.unknown h = false ↔ 0 ≤ h.way ∧ h.way < (T.ways.length : Int) := by
  unfold Town.unknown
  rw [Bool.not_eq_false', within_iff]
  omega
theorem outside_not {T : Town} {h : Hop} : T.outside h = false ↔ 0 ≤ h.leave ∧ h.leave ≤ T.steps := by
  unfold Town.outside
  rw [Bool.not_eq_false', within_iff]

theorem Way.steps_mem {T : Town} (hG : TownG T) {x : Way} (hx : x ∈ T.ways) (c : Int) : 0 ≤ x.steps c ∧ x.steps c ≤ T.steps := by
  obtain ⟨_, _, _, h0, h1, h2, _⟩ := hG.way x hx
  unfold Way.steps
  split
  · exact h0
  · split
    · exact h1
    · exact h2

theorem hopStep_place {T : Town} (hG : TownG T) {c : Int} {st st' : WSt} {h : Hop} (hu : T.unknown h = false) (e : hopStep T c st h = some st') : 0 ≤ st'.place ∧ st'.place < (T.places.length : Int) := by
  unfold hopStep at e
  split at e
  · cases e
  · cases e
    obtain ⟨h0, h1⟩ := unknown_not.1 hu
    exact (hG.way _ (getD_mem h0 h1)).2.1

/-- The step in which a walker is. -/
theorem hopStep_step {T : Town} (hG : TownG T) {c : Int} {st st' : WSt} {h : Hop} (hu : T.unknown h = false) (ho : T.outside h = false) (e : hopStep T c st h = some st') : 0 ≤ st'.step ∧ st'.step ≤ 400 := by
  unfold hopStep at e
  split at e
  · cases e
  · cases e
    obtain ⟨h0, h1⟩ := unknown_not.1 hu
    obtain ⟨h2, h3⟩ := outside_not.1 ho
    have := Way.steps_mem hG (getD_mem (z := Way.z) h0 h1) c
    have := hG.steps
    have e : T.wy h.way = T.ways.getD h.way.toNat Way.z := rfl
    simp only [e]
    omega

end Go.Proofs.Ytjoihijlcpnhoaa
