/- Plans that are in order. -/
import Derived.Test.YtjoihijlcpnhoaaDataC
namespace Go.Proofs.Ytjoihijlcpnhoaa

structure TripG (T : Town) (x : Trip) : Prop where
  group : 0 ≤ x.group ∧ x.group < (T.groups.length : Int)
  cls : (T.gr x.group).cls ≠ 2
  count : 1 ≤ x.count ∧ x.count ≤ 100000
  hops : ∀ h ∈ x.hops, T.unknown h = false ∧ T.outside h = false
  nh : x.hops.length ≤ 64
  enter : 0 ≤ x.enter ∧ x.enter ≤ T.steps

structure BoardG (T : Town) (x : Ride) (b : Board) : Prop where
  hop : 0 ≤ b.hop ∧ b.hop < (x.hops.length : Int)
  group : 0 ≤ b.group ∧ b.group < (T.groups.length : Int)
  count : 1 ≤ b.count ∧ b.count ≤ 100000

structure RideG (T : Town) (x : Ride) : Prop where
  vehicle : 0 ≤ x.vehicle ∧ x.vehicle < (T.vehicles.length : Int)
  hops : ∀ h ∈ x.hops, T.unknown h = false ∧ T.outside h = false
  nh : 0 < x.hops.length ∧ x.hops.length ≤ 64
  nb : x.boards.length ≤ 64
  boards : ∀ b ∈ x.boards, BoardG T x b

structure PlanG (T : Town) (p : Plan) : Prop where
  nt : p.trips.length ≤ 4096
  nr : p.rides.length ≤ 256
  trips : ∀ x ∈ p.trips, TripG T x
  rides : ∀ x ∈ p.rides, RideG T x

/-- What an account holds is within bounds. -/
structure AccG (a : Acc) : Prop where
  le : ∀ y ∈ a.used, 0 ≤ y.2 ∧ y.2 ≤ 100000
  nodup : (a.used.map Prod.fst).Nodup

def Acc.bad (a : Acc) : Bool := a.over || a.full

theorem kget_mem {κ : Type} [DecidableEq κ] : ∀ (l : List (κ × Int)) (x : κ), kget l x = 0 ∨ ∃ y ∈ l, y.1 = x ∧ y.2 = kget l x
  | [], x => .inl rfl
  | (y, n) :: l, x => by
    unfold kget
    by_cases h : x = y
    · simp only [h, if_true]
      exact .inr ⟨(y, n), by simp, rfl, rfl⟩
    · simp only [if_neg h]
      rcases kget_mem l x with h1 | ⟨z, hz, h2, h3⟩
      · exact .inl h1
      · exact .inr ⟨z, List.mem_cons_of_mem _ hz, h2, h3⟩
theorem kadd_mem {κ : Type} [DecidableEq κ] (x : κ) (n : Int) : ∀ (l : List (κ × Int)) (y : κ × Int), y ∈ kadd l x n → y ∈ l ∨ y.2 = kget l x + n ∧ y.1 = x
  | [], y, h => by simp only [kadd, List.mem_singleton] at h; subst h; exact .inr ⟨by simp [kget], rfl⟩
  | (z, m) :: l, y, h => by
    unfold kadd at h
    by_cases e : x = z
    · simp only [if_pos e, List.mem_cons] at h
      rcases h with h | h
      · subst h; exact .inr ⟨by simp [kget, e], e.symm⟩
      · exact .inl (List.mem_cons_of_mem _ h)
    · simp only [if_neg e, List.mem_cons] at h
      rcases h with h | h
      · subst h; exact .inl (by simp)
      · rcases kadd_mem x n l y h with h1 | ⟨h1, h2⟩
        · exact .inl (List.mem_cons_of_mem _ h1)
        · exact .inr ⟨by rw [h1, kget]; simp [e], h2⟩
theorem kadd_fst {κ : Type} [DecidableEq κ] (x : κ) (n : Int) : ∀ (l : List (κ × Int)), (kadd l x n).map Prod.fst = if x ∈ l.map Prod.fst then l.map Prod.fst else l.map Prod.fst ++ [x]
  | [] => by simp [kadd]
  | (z, m) :: l => by
    by_cases e : x = z
    · simp [kadd, e]
    · rw [kadd, if_neg e, List.map_cons, kadd_fst x n l]
      by_cases e2 : x ∈ l.map Prod.fst
      · rw [if_pos e2, if_pos (by simp only [List.map_cons, List.mem_cons]; exact .inr e2)]; rfl
      · rw [if_neg e2, if_neg (by simp only [List.map_cons, List.mem_cons, not_or]; exact ⟨e, e2⟩)]; rfl
theorem kadd_nodup {κ : Type} [DecidableEq κ] {x : κ} {n : Int} {l : List (κ × Int)} (h : (l.map Prod.fst).Nodup) : ((kadd l x n).map Prod.fst).Nodup := by
  rw [kadd_fst]
  split
  · exact h
  · rename_i hx
    exact List.nodup_append.2 ⟨h, by simp, fun a ha b hb => by simp only [List.mem_singleton] at hb; subst hb; intro e; subst e; exact hx ha⟩

theorem AccG.get {a : Acc} (h : AccG a) (x : Thing) : 0 ≤ kget a.used x ∧ kget a.used x ≤ 100000 := by
  rcases kget_mem a.used x with h1 | ⟨y, hy, _, h1⟩
  · omega
  · rw [← h1]; exact h.le y hy

/-- A thing of which there is some number. -/
structure ThingG (T : Town) (x : Thing) : Prop where
  kind : 0 ≤ x.kind ∧ x.kind ≤ 4
  group : x.kind = 0 → 0 ≤ x.id ∧ x.id < (T.groups.length : Int)
  way : x.kind = 1 ∨ x.kind = 2 → 0 ≤ x.id ∧ x.id < (T.ways.length : Int)
  place : x.kind = 3 ∨ x.kind = 4 → 0 ≤ x.id ∧ x.id < (T.places.length : Int)

theorem mostT_le {T : Town} (hG : TownG T) {x : Thing} (hx : ThingG T x) : 0 ≤ mostT T x ∧ mostT T x ≤ 100000 := by
  obtain ⟨⟨k0, k4⟩, hg, hw, hp⟩ := hx
  unfold mostT Town.gr Town.wy Town.pl
  split
  · rename_i h
    obtain ⟨i0, i1⟩ := hg h
    have := hG.group _ (getD_mem (z := Group.z) i0 i1)
    omega
  split
  · rename_i h
    obtain ⟨i0, i1⟩ := hw (.inl h)
    have := hG.way _ (getD_mem (z := Way.z) i0 i1)
    omega
  split
  · rename_i h
    obtain ⟨i0, i1⟩ := hw (.inr h)
    have := hG.way _ (getD_mem (z := Way.z) i0 i1)
    omega
  split
  · rename_i h
    obtain ⟨i0, i1⟩ := hp (.inl h)
    have := hG.place _ (getD_mem (z := Place.z) i0 i1)
    omega
  · rename_i h1 h2 h3 h4
    obtain ⟨i0, i1⟩ := hp (.inr (by omega))
    have := hG.place _ (getD_mem (z := Place.z) i0 i1)
    omega

theorem useT_good {T : Town} (hG : TownG T) {a : Acc} {x : Thing} {n : Int} (hx : ThingG T x) (hn : 0 ≤ n) (h : AccG a) : AccG (useT T a x n) := by
  unfold useT
  split
  · rename_i hl
    refine ⟨fun y hy => ?_, kadd_nodup h.nodup⟩
    rcases kadd_mem _ _ _ _ hy with h1 | ⟨h1, _⟩
    · exact h.le y h1
    · unfold leftT at hl
      have := (h.get x).1
      have := (mostT_le hG hx).2
      omega
  · split
    · exact ⟨h.le, h.nodup⟩
    · exact ⟨h.le, h.nodup⟩

theorem useT_bad {T : Town} {a : Acc} {x : Thing} {n : Int} (h : (useT T a x n).bad = false) : a.bad = false ∧ n ≤ leftT T a x := by
  unfold useT at h
  split at h
  · rename_i hl; exact ⟨h, hl⟩
  · split at h
    · simp [Acc.bad] at h
    · simp [Acc.bad] at h

theorem useT_le {T : Town} (hG : TownG T) {a : Acc} {x : Thing} {n : Int} (hx : ThingG T x) (ha : AccG a) (h : (useT T a x n).bad = false) : n ≤ 100000 := by
  have h1 := (useT_bad h).2
  unfold leftT at h1
  have := (ha.get x).1
  have := (mostT_le hG hx).2
  omega

theorem hopsUse_good {T : Town} (hG : TownG T) {k n : Int} (hk : k = 1 ∨ k = 2) (hn : 0 ≤ n) : ∀ (l : List Hop) (a : Acc), (∀ h ∈ l, T.unknown h = false) → AccG a → AccG (hopsUse T k n a l)
  | [], a, _, h => h
  | x :: l, a, hl, h => by
    unfold hopsUse
    have hx := unknown_not.1 (hl x (by simp))
    exact hopsUse_good hG hk hn l _ (fun y hy => hl y (List.mem_cons_of_mem _ hy)) (useT_good hG ⟨by simp only; omega, fun e => by simp only at e; omega, fun _ => hx, fun e => by simp only at e; omega⟩ hn h)
theorem hopsUse_bad {T : Town} {k n : Int} : ∀ (l : List Hop) (a : Acc), (hopsUse T k n a l).bad = false → a.bad = false
  | [], _, h => h
  | _ :: l, _, h => (useT_bad (hopsUse_bad l _ h)).1
theorem enterT_good {T : Town} (hG : TownG T) {a : Acc} {p s n : Int} (hp : 0 ≤ p ∧ p < (T.places.length : Int)) (hn : 0 ≤ n) (h : AccG a) : AccG (enterT T a p s n) := by
  unfold enterT
  exact useT_good hG ⟨by simp, fun e => by simp at e, fun e => by simp at e, fun _ => hp⟩ hn (useT_good hG ⟨by simp, fun e => by simp at e, fun e => by simp at e, fun _ => hp⟩ hn h)
theorem enterT_bad {T : Town} {a : Acc} {p s n : Int} (h : (enterT T a p s n).bad = false) : a.bad = false := (useT_bad (useT_bad h).1).1

theorem foldS_place {T : Town} (hG : TownG T) {c : Int} : ∀ (l : List Hop) (st st' : WSt), (∀ h ∈ l, T.unknown h = false) → (0 ≤ st.place ∧ st.place < (T.places.length : Int)) → foldS (hopStep T c) st l = some st' →
    0 ≤ st'.place ∧ st'.place < (T.places.length : Int)
  | [], st, st', _, h, e => by cases e; exact h
  | x :: l, st, st', hl, h, e => by
    unfold foldS at e
    cases h1 : hopStep T c st x with
    | none => rw [h1] at e; cases e
    | some s1 =>
      rw [h1] at e
      exact foldS_place hG l s1 st' (fun y hy => hl y (List.mem_cons_of_mem _ hy)) (hopStep_place hG (hl x (by simp)) h1) e

theorem tripT_zero {T : Town} (hG : TownG T) {x : Trip} (h : (tripT T x).2.2 = 0) : (0 ≤ x.group ∧ x.group < (T.groups.length : Int)) ∧ (T.gr x.group).cls ≠ 2 ∧ 1 ≤ x.count ∧ (∀ h ∈ x.hops, T.unknown h = false ∧ T.outside h = false) ∧
    (0 ≤ x.enter ∧ x.enter ≤ T.steps) ∧ (0 ≤ (tripT T x).1 ∧ (tripT T x).1 < (T.places.length : Int)) ∧ (tripT T x).2.1 = x.enter := by
  unfold tripT at h ⊢
  split at h
  · cases h
  rename_i h1
  split at h
  · cases h
  rename_i h2
  split at h
  · cases h
  rename_i h3
  rw [if_neg h1, if_neg h2, if_neg h3]
  simp only [Bool.or_eq_true, not_or, Bool.not_eq_true', Bool.not_eq_false, decide_eq_true_eq, Bool.not_eq_true, beq_iff_eq, List.any_eq_false] at h1 h2 h3
  obtain ⟨h1, h1'⟩ := h1
  obtain ⟨h2, h2'⟩ := h2
  obtain ⟨h3, h3'⟩ := h3
  have hg := (within_iff _ _ _).1 (by simpa using h1)
  have he := (within_iff _ _ _).1 (by simpa using h3')
  have hg' : 0 ≤ x.group ∧ x.group < (T.groups.length : Int) := by omega
  refine ⟨hg', h2, by omega, fun y hy => ⟨by simpa using h1' y hy, by simpa using h3 y hy⟩, he, ?_⟩
  have hgm := hG.group _ (getD_mem (z := Group.z) hg'.1 hg'.2)
  split at h
  · cases h
  · rename_i st hst
    split at h
    · cases h
    · rename_i hr
      rw [if_neg hr]
      exact ⟨foldS_place hG _ _ _ (fun y hy => by simpa using h1' y hy) hgm.1 hst, rfl⟩

theorem rideT_zero {T : Town} (hG : TownG T) {x : Ride} {p s : Int} (hp : 0 ≤ p ∧ p < (T.places.length : Int)) (h : (rideT T x p s).2.2 = 0) : (∀ h ∈ x.hops, T.unknown h = false ∧ T.outside h = false) ∧ 0 < x.hops.length ∧
    (∀ b ∈ x.boards, (0 ≤ b.hop ∧ b.hop < (x.hops.length : Int)) ∧ (0 ≤ b.group ∧ b.group < (T.groups.length : Int)) ∧ 1 ≤ b.count) ∧ (0 ≤ (rideT T x p s).1 ∧ (rideT T x p s).1 < (T.places.length : Int)) := by
  unfold rideT at h ⊢
  split at h
  · cases h
  rename_i h1
  split at h
  · cases h
  rename_i h2
  split at h
  · cases h
  rename_i h3
  rw [if_neg h1, if_neg h2, if_neg h3]
  simp only [Bool.or_eq_true, not_or, Bool.not_eq_true, beq_iff_eq, List.any_eq_false] at h1 h2 h3
  obtain ⟨h1, h1'⟩ := h1
  obtain ⟨h2, h2'⟩ := h2
  have hb : ∀ b ∈ x.boards, (0 ≤ b.hop ∧ b.hop < (x.hops.length : Int)) ∧ (0 ≤ b.group ∧ b.group < (T.groups.length : Int)) ∧ 1 ≤ b.count := by
    intro b hb
    have e1 := h1' b hb
    have e2 := h2' b hb
    unfold bNone at e1
    unfold bBad at e2
    rw [Bool.or_eq_false_iff] at e1 e2
    have := (within_iff _ _ _).1 (by simpa using e1.1)
    have := (within_iff _ _ _).1 (by simpa using e1.2)
    have := of_decide_eq_false e2.2
    omega
  refine ⟨fun y hy => ⟨by simpa using h1 y hy, by simpa using h3 y hy⟩, by omega, hb, ?_⟩
  split at h
  · cases h
  · rename_i st hst
    split at h
    · cases h
    · rename_i hr
      rw [if_neg hr]
      exact foldS_place hG _ _ _ (fun y hy => by simpa using h1 y hy) hp hst

theorem tripsRun_good {T : Town} (hG : TownG T) : ∀ (l : List Trip) (a a' : Acc), AccG a → tripsRun T a l = .ok a' → AccG a' ∧ (a'.bad = false → a.bad = false ∧ ∀ x ∈ l, (tripT T x).2.2 = 0 ∧ x.count ≤ 100000)
  | [], a, a', h, e => by cases e; exact ⟨h, fun hb => ⟨hb, by simp⟩⟩
  | x :: l, a, a', h, e => by
    unfold tripsRun at e
    split at e
    · rename_i h0
      obtain ⟨z1, z2, z3, z4, z5, z6, z7⟩ := tripT_zero hG h0
      have k1 : ThingG T ⟨0, x.group, 0⟩ := ⟨by simp, fun _ => z1, fun e => by simp at e, fun e => by simp at e⟩
      have g1 := useT_good hG k1 (by omega : 0 ≤ x.count) h
      have g2 := hopsUse_good hG (.inl rfl) (by omega : 0 ≤ x.count) x.hops _ (fun y hy => (z4 y hy).1) g1
      have g3 : AccG (tripUse T a x (tripT T x).1 (tripT T x).2.1) := enterT_good hG z6 (by omega) g2
      obtain ⟨i1, i2⟩ := tripsRun_good hG l _ _ g3 e
      refine ⟨i1, fun hb => ?_⟩
      obtain ⟨j1, j2⟩ := i2 hb
      have b2 := hopsUse_bad _ _ (enterT_bad j1)
      refine ⟨(useT_bad b2).1, fun y hy => ?_⟩
      rcases List.mem_cons.1 hy with rfl | hy
      · exact ⟨h0, useT_le hG k1 h b2⟩
      · exact j2 y hy
    · cases e

theorem boardsUse_good {T : Town} (hG : TownG T) {p s : Int} (hp : 0 ≤ p ∧ p < (T.places.length : Int)) : ∀ (l : List Board) (a : Acc) (n : Int), (∀ b ∈ l, (0 ≤ b.group ∧ b.group < (T.groups.length : Int)) ∧ 1 ≤ b.count) → AccG a →
    AccG (boardsUse T p s a n l) ∧ ((boardsUse T p s a n l).bad = false → a.bad = false ∧ ∀ b ∈ l, b.count ≤ 100000)
  | [], a, n, _, h => ⟨h, fun hb => ⟨hb, by simp⟩⟩
  | b :: l, a, n, hl, h => by
    unfold boardsUse
    obtain ⟨z1, z2⟩ := hl b (by simp)
    have k1 : ThingG T ⟨0, b.group, 0⟩ := ⟨by simp, fun _ => z1, fun e => by simp at e, fun e => by simp at e⟩
    have g1 := useT_good hG k1 (by omega : 0 ≤ b.count) h
    have g2 : AccG { useT T a ⟨0, b.group, 0⟩ b.count with full := (useT T a ⟨0, b.group, 0⟩ b.count).full || decide (n < b.count) } := ⟨g1.le, g1.nodup⟩
    have g3 := enterT_good hG (s := s) hp (by omega : 0 ≤ b.count) g2
    obtain ⟨i1, i2⟩ := boardsUse_good hG hp l _ (n - min b.count n) (fun y hy => hl y (List.mem_cons_of_mem _ hy)) g3
    refine ⟨i1, fun hb => ?_⟩
    obtain ⟨j1, j2⟩ := i2 hb
    have b2 := enterT_bad j1
    have b3 : (useT T a ⟨0, b.group, 0⟩ b.count).bad = false := by
      unfold Acc.bad at b2 ⊢
      simp only [Bool.or_eq_false_iff] at b2 ⊢
      exact ⟨b2.1, b2.2.1⟩
    refine ⟨(useT_bad b3).1, fun y hy => ?_⟩
    rcases List.mem_cons.1 hy with rfl | hy
    · exact useT_le hG k1 h b3
    · exact j2 y hy

/-- Where vehicles are. -/
def AtG (T : Town) (l : List (Int × Int)) : Prop := ∀ m ∈ l, 0 ≤ m.1 ∧ m.1 < (T.places.length : Int)

theorem ridesRun_good {T : Town} (hG : TownG T) : ∀ (l : List Ride) (a a' : Acc) (m : List (Int × Int)), AtG T m → AccG a → ridesRun T a m l = .ok a' → AccG a' ∧ (a'.bad = false → a.bad = false ∧ ∀ x ∈ l, (0 ≤ x.vehicle ∧ x.vehicle < (m.length : Int)) ∧
    (∀ h ∈ x.hops, T.unknown h = false ∧ T.outside h = false) ∧ 0 < x.hops.length ∧ (∀ b ∈ x.boards, BoardG T x b))
  | [], a, a', m, _, h, e => by cases e; exact ⟨h, fun hb => ⟨hb, by simp⟩⟩
  | x :: l, a, a', m, hm, h, e => by
    unfold ridesRun at e
    split at e
    · cases e
    rename_i hv
    have hv' : 0 ≤ x.vehicle ∧ x.vehicle < (m.length : Int) := by
      have := (within_iff _ _ _).1 (by simpa using hv)
      omega
    simp only at e
    split at e
    · rename_i h0
      have hq := hm _ (getD_mem (z := ((0, 0) : Int × Int)) hv'.1 hv'.2)
      obtain ⟨z1, z2, z3, z4⟩ := rideT_zero hG hq h0
      have g1 := hopsUse_good hG (k := 2) (n := 1) (.inr rfl) (by omega) x.hops _ (fun y hy => (z1 y hy).1) h
      obtain ⟨g2, g3⟩ := boardsUse_good hG (s := (rideT T x (m.getD x.vehicle.toNat (0, 0)).1 (m.getD x.vehicle.toNat (0, 0)).2).2.1) z4 x.boards _ (T.vh x.vehicle).seats (fun b hb => ⟨(z3 b hb).2.1, (z3 b hb).2.2⟩) g1
      obtain ⟨i1, i2⟩ := ridesRun_good hG l _ _ _ (fun y hy => by
        rcases List.mem_or_eq_of_mem_set hy with h1 | h1
        · exact hm y h1
        · subst h1; exact z4) g2 e
      refine ⟨i1, fun hb => ?_⟩
      obtain ⟨j1, j2⟩ := i2 hb
      obtain ⟨k1, k2⟩ := g3 j1
      refine ⟨hopsUse_bad _ _ k1, fun y hy => ?_⟩
      rcases List.mem_cons.1 hy with rfl | hy
      · exact ⟨hv', z1, z2, fun b hb => ⟨(z3 b hb).1, (z3 b hb).2.1, (z3 b hb).2.2, k2 b hb⟩⟩
      · have := j2 y hy
        simp only [List.length_set] at this
        exact this
    · cases e

theorem AccG.nil : AccG ⟨[], false, false⟩ := ⟨by simp, by simp⟩

theorem verifyT_zero {T : Town} {p : Plan} (h : verifyT T p = 0) : TownG T ∧ PlanG T p := by
  unfold verifyT checkedT at h
  split at h
  · rename_i h0
    exact absurd h h0
  rename_i h0
  have hG := checkT_zero (by simpa using h0)
  refine ⟨hG, ?_⟩
  split at h
  · cases h
  rename_i hlong
  unfold longP at hlong
  simp only [Bool.or_eq_true, not_or, decide_eq_true_eq, Bool.not_eq_true, List.any_eq_false] at hlong
  obtain ⟨⟨⟨l1, l2⟩, l3⟩, l4⟩ := hlong
  have tz : ∀ e, (tripsRun T ⟨[], false, false⟩ p.trips = .bad e → e ≠ 0) := by
    intro e
    have : ∀ (l : List Trip) (a : Acc), tripsRun T a l = .bad e → e ≠ 0 := by
      intro l
      induction l with
      | nil => intro a h; cases h
      | cons x l ih =>
        intro a h
        unfold tripsRun at h
        split at h
        · exact ih _ h
        · cases h; assumption
    exact this _ _
  have rz : ∀ (e : Int) (l : List Ride) (a : Acc) (m : List (Int × Int)), ridesRun T a m l = .bad e → e ≠ 0 := by
    intro e l
    induction l with
    | nil => intro a m h; cases h
    | cons x l ih =>
      intro a m h
      unfold ridesRun at h
      split at h
      · cases h; decide
      · simp only at h
        split at h
        · exact ih _ _ h
        · cases h; assumption
  split at h
  · rename_i e he
    exact absurd h (tz e he)
  rename_i a1 ha1
  split at h
  · rename_i e he
    exact absurd h (rz e _ _ _ he)
  rename_i a2 ha2
  have hb : a2.bad = false := by
    unfold accEnd at h
    unfold Acc.bad
    split at h
    · cases h
    split at h
    · cases h
    simp_all
  obtain ⟨g1, g2⟩ := tripsRun_good hG _ _ _ AccG.nil ha1
  obtain ⟨g3, g4⟩ := ridesRun_good hG _ _ _ _ (fun m hm => by
    obtain ⟨v, hv, rfl⟩ := List.mem_map.1 hm
    exact (hG.vehicle v hv).1) g1 ha2
  obtain ⟨k1, k2⟩ := g4 hb
  obtain ⟨_, k3⟩ := g2 k1
  refine ⟨by omega, by omega, fun x hx => ?_, fun x hx => ?_⟩
  · obtain ⟨q1, q2⟩ := k3 x hx
    obtain ⟨z1, z2, z3, z4, z5, z6, z7⟩ := tripT_zero hG q1
    exact ⟨z1, z2, ⟨z3, q2⟩, z4, by have := l3 x hx; omega, z5⟩
  · obtain ⟨q1, q2, q3, q4⟩ := k2 x hx
    have := l4 x hx
    exact ⟨by simpa using q1, q2, ⟨q3, by omega⟩, by omega, q4⟩

end Go.Proofs.Ytjoihijlcpnhoaa
