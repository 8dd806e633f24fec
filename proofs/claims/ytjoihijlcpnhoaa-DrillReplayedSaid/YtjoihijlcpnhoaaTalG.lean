/- drill: tallies in memory; count. -/
import Derived.Test.YtjoihijlcpnhoaaDrO
import Derived.Test.YtjoihijlcpnhoaaBegun
import Derived.Test.YtjoihijlcpnhoaaDrS
namespace Go.Proofs.Ytjoihijlcpnhoaa
open Go.RowKit

def tcell (t : Tally) : List Value := [.int .i64 t.inside, .int .i64 t.lost, .int .i64 t.absent, .int .i64 t.stuck, .int .i64 t.outside, .int .i64 t.unplanned]
def tcells (l : List Tally) : List Value := l.flatMap tcell
theorem tcells_cons (t : Tally) (l : List Tally) : tcells (t :: l) = tcell t ++ tcells l := by simp [tcells]
theorem tcells_length (l : List Tally) : (tcells l).length = l.length * 6 := by
  induction l with
  | nil => rfl
  | cons t l ih => rw [tcells_cons, List.length_append, ih]; simp [tcell]; omega
/-- One field of one tally is written. -/
theorem tcells_set : ∀ (l : List Tally) (i j : Nat) (t' : Tally) (v : Value), (h : i < l.length) → j < 6 → (tcell l[i]).set j v = tcell t' → (tcells l).set (i * 6 + j) v = tcells (l.set i t')
  | [], i, j, t', v, h, _, _ => by simp at h
  | t :: l, 0, j, t', v, _, hj, he => by
    rw [tcells_cons, List.set_cons_zero, tcells_cons, ← he]
    simp only [Nat.zero_mul, Nat.zero_add, List.getElem_cons_zero]
    exact List.set_append_left _ _ (by simpa [tcell] using hj)
  | t :: l, i + 1, j, t', v, h, hj, he => by
    have ih := tcells_set l i j t' v (by simpa using h) hj (by simpa using he)
    rw [tcells_cons, List.set_cons_succ, tcells_cons, ← ih, show (i + 1) * 6 + j = (tcell t).length + (i * 6 + j) from by simp [tcell]; omega]
    rw [List.set_append_right _ _ (by omega)]
    congr 2
    omega
theorem tcells_get (l : List Tally) (i j : Nat) (h : i < l.length) (hj : j < 6) : (tcells l)[i * 6 + j]? = (tcell l[i])[j]? := by
  induction l generalizing i with
  | nil => simp at h
  | cons t l ih =>
    rw [tcells_cons]
    cases i with
    | zero =>
      simp only [Nat.zero_mul, Nat.zero_add, List.getElem_cons_zero]
      exact List.getElem?_append_left (by simpa [tcell] using hj)
    | succ i =>
      rw [show (i + 1) * 6 + j = (tcell t).length + (i * 6 + j) from by simp [tcell]; omega, List.getElem?_append_right (by omega)]
      have := ih i (by simpa using h)
      simp only [List.getElem_cons_succ]
      rw [← this]
      congr 1
      omega

/-- Which field a state counts in. -/
def tidx (s : Int) : Nat := if s = 3 then 0 else if s = 5 then 1 else if s = 4 then 3 else 4
def tval (t : Tally) (s : Int) : Int := if s = 3 then t.inside else if s = 5 then t.lost else if s = 4 then t.stuck else t.outside
theorem tally_add (t : Tally) (s n : Int) : (tcell t).set (tidx s) (.int .i64 (tval t s + n)) = tcell (t.add s n) := by
  unfold tidx tval Tally.add
  split
  · rfl
  split
  · rfl
  split <;> rfl

set_option maxHeartbeats 4000000 in
set_option maxRecDepth 100000 in
theorem count_any (g o : Nat) (t : Tally) (s n : Int) (w : World) (_hg : g < w.heap.size) (hf : ∀ k, w.frozen? ⟨g, k, none⟩ = false) (hc : ∀ j, j < 6 → w.cell? ⟨g, o + j, none⟩ = (tcell t)[j]?)
    (hn : -1000000000000000 ≤ n ∧ n ≤ 1000000000000000) (h0 : -1000000000000000000 ≤ tval t s ∧ tval t s ≤ 1000000000000000000) :
    Calls Try.prog 71 #[.pointer (some ⟨g, o, none⟩), .int .i64 s, .int .i64 n] w
      fun e w' => (∃ u, e = .returned u) ∧ w' = w.setCell ⟨g, o + tidx s, none⟩ (.int .i64 (tval t s + n)) := by
  have k0 : w.cell? ⟨g, o, none⟩ = some (.int .i64 t.inside) := hc 0 (by omega)
  have k1 : w.cell? ⟨g, o + 1, none⟩ = some (.int .i64 t.lost) := hc 1 (by omega)
  have k3 : w.cell? ⟨g, o + 3, none⟩ = some (.int .i64 t.stuck) := hc 3 (by omega)
  have k4 : w.cell? ⟨g, o + 4, none⟩ = some (.int .i64 t.outside) := hc 4 (by omega)
  clear hc
  obtain ⟨v3, hv3⟩ : ∃ v, (s == 3) = v := ⟨_, rfl⟩
  obtain ⟨v5, hv5⟩ : ∃ v, (s == 5) = v := ⟨_, rfl⟩
  obtain ⟨v4, hv4⟩ : ∃ v, (s == 4) = v := ⟨_, rfl⟩
  cases v3
  rotate_left
  · obtain rfl : s = 3 := by simpa using hv3
    have e1 : tidx 3 = 0 := rfl
    have e2 : tval t 3 = t.inside := rfl
    rw [e2] at h0
    rw [e1, e2]
    clear hv3 hv5 hv4 e1 e2
    go_enter Try.func71, Try.ntmps71
    go_wp2_with fail
    (try simp only [Exit.inBlock, Exit.then]); refine bodyPost_end (results_none rfl _ _ _) rfl ?_
    exact ⟨⟨_, rfl⟩, rfl⟩
  cases v5
  rotate_left
  · obtain rfl : s = 5 := by simpa using hv5
    have e1 : tidx 5 = 1 := rfl
    have e2 : tval t 5 = t.lost := rfl
    rw [e2] at h0
    rw [e1, e2]
    clear hv3 hv5 hv4 e1 e2
    go_enter Try.func71, Try.ntmps71
    go_wp2_with fail
    (try simp only [Exit.inBlock, Exit.then]); refine bodyPost_end (results_none rfl _ _ _) rfl ?_
    exact ⟨⟨_, rfl⟩, rfl⟩
  cases v4
  rotate_left
  · obtain rfl : s = 4 := by simpa using hv4
    have e1 : tidx 4 = 3 := rfl
    have e2 : tval t 4 = t.stuck := rfl
    rw [e2] at h0
    rw [e1, e2]
    clear hv3 hv5 hv4 e1 e2
    go_enter Try.func71, Try.ntmps71
    go_wp2_with fail
    (try simp only [Exit.inBlock, Exit.then]); refine bodyPost_end (results_none rfl _ _ _) rfl ?_
    exact ⟨⟨_, rfl⟩, rfl⟩
  · have n3 : s ≠ 3 := by simpa using hv3
    have n5 : s ≠ 5 := by simpa using hv5
    have n4 : s ≠ 4 := by simpa using hv4
    have e1 : tidx s = 4 := by unfold tidx; rw [if_neg n3, if_neg n5, if_neg n4]
    have e2 : tval t s = t.outside := by unfold tval; rw [if_neg n3, if_neg n5, if_neg n4]
    rw [e2] at h0
    rw [e1, e2]
    clear e1 e2 n3 n5 n4
    go_enter Try.func71, Try.ntmps71
    go_wp2_with fail
    (try simp only [Exit.inBlock, Exit.then]); refine bodyPost_end (results_none rfl _ _ _) rfl ?_
    exact ⟨⟨_, rfl⟩, rfl⟩

end Go.Proofs.Ytjoihijlcpnhoaa
namespace Go.Proofs.Ytjoihijlcpnhoaa

theorem tallyTrips_snoc (r : RunS) : ∀ (l : List Trip) (i : Nat) (x : Trip) (L : List Tally), tallyTrips r i (l ++ [x]) L = tallyTrip r (i + l.length) x (tallyTrips r i l L)
  | [], i, x, L => rfl
  | y :: l, i, x, L => by
    show tallyTrips r (i + 1) (l ++ [x]) (tallyTrip r i y L) = _
    rw [tallyTrips_snoc r l (i + 1) x, show i + 1 + l.length = i + (y :: l).length from by simp; omega]
    rfl
theorem tallyBoards_snoc (r : RunS) (j : Nat) : ∀ (l : List Board) (k : Nat) (b : Board) (L : List Tally), tallyBoards r j k (l ++ [b]) L = tallyBoard r j (k + l.length) b (tallyBoards r j k l L)
  | [], k, b, L => rfl
  | y :: l, k, b, L => by
    show tallyBoards r j (k + 1) (l ++ [b]) (tallyBoard r j k y L) = _
    rw [tallyBoards_snoc r j l (k + 1) b, show k + 1 + l.length = k + (y :: l).length from by simp; omega]
    rfl
/-- How many boards the rides have. -/
def boardsN : List Ride → Nat
  | [] => 0
  | x :: l => x.boards.length + boardsN l
theorem boardsN_snoc (l : List Ride) (x : Ride) : boardsN (l ++ [x]) = boardsN l + x.boards.length := by
  induction l with
  | nil => simp [boardsN]
  | cons y l ih => simp only [List.cons_append, boardsN, ih]; omega
theorem boardsN_take : ∀ (l : List Ride) (m : Nat), boardsN (l.take m) ≤ boardsN l
  | [], m => by simp
  | x :: l, 0 => by simp [boardsN]
  | x :: l, m + 1 => by
    have := boardsN_take l m
    simp only [List.take_succ_cons, boardsN]
    omega
theorem tallyRides_snoc (r : RunS) : ∀ (l : List Ride) (j k : Nat) (x : Ride) (L : List Tally), tallyRides r j k (l ++ [x]) L = tallyBoards r (j + l.length) (k + boardsN l) x.boards (tallyRides r j k l L)
  | [], j, k, x, L => rfl
  | y :: l, j, k, x, L => by
    show tallyRides r (j + 1) (k + y.boards.length) (l ++ [x]) (tallyBoards r j k y.boards L) = _
    rw [tallyRides_snoc r l (j + 1) (k + y.boards.length) x, show j + 1 + l.length = j + (y :: l).length from by simp; omega, show k + y.boards.length + boardsN l = k + boardsN (y :: l) from by simp only [boardsN]; omega]
    rfl
theorem rideWaits_boards {T : Town} (l : List Ride) : ∀ k, k ≤ l.length → (rideWaits T l k).length = boardsN (l.take k)
  | 0, _ => by simp [rideWaits, boardsN]
  | k + 1, hk => by
    have hk' : k < l.length := by omega
    have e : l.getD k ⟨0, [], []⟩ = l[k] := by rw [List.getD_eq_getElem?_getD, List.getElem?_eq_getElem hk']; rfl
    unfold rideWaits
    rw [List.length_append, List.length_map, rideWaits_boards l k (by omega), List.take_succ_eq_append_getElem hk', boardsN_snoc, e]

/-- All numbers are at most N. -/
def Tally.le (N : Int) (t : Tally) : Prop := (-N ≤ t.inside ∧ t.inside ≤ N) ∧ (-N ≤ t.lost ∧ t.lost ≤ N) ∧ (-N ≤ t.absent ∧ t.absent ≤ N) ∧ (-N ≤ t.stuck ∧ t.stuck ≤ N) ∧ (-N ≤ t.outside ∧ t.outside ≤ N) ∧ (-N ≤ t.unplanned ∧ t.unplanned ≤ N)
def TB (N : Int) (l : List Tally) : Prop := ∀ t ∈ l, t.le N
theorem Tally.le.mono {N M : Int} {t : Tally} (h : t.le N) (hm : N ≤ M) : t.le M := by unfold Tally.le at *; omega
theorem Tally.le.add {N : Int} {t : Tally} (h : t.le N) (s n : Int) (hn : -200000 ≤ n ∧ n ≤ 200000) : (t.add s n).le (N + 200000) := by
  unfold Tally.le at *
  unfold Tally.add
  split
  · simp only; omega
  split
  · simp only; omega
  split <;> (simp only; omega)
theorem TB.set {N M : Int} {l : List Tally} (h : TB N l) (hm : N ≤ M) (i : Int) (f : Tally → Tally) (hN : 0 ≤ N) (hf : ∀ t : Tally, t.le N → (f t).le M) : TB M (tlSet l i f) := by
  intro t ht
  unfold tlSet at ht
  rcases List.mem_or_eq_of_mem_set ht with g | g
  · exact (h t g).mono hm
  · rw [g]
    refine hf _ ?_
    rw [List.getD_eq_getElem?_getD]
    cases hk : l[i.toNat]? with
    | none => simp only [Option.getD_none, Tally.z, Tally.le]; omega
    | some y => exact h y (List.mem_of_getElem? hk)
theorem TB.trip {N : Int} {l : List Tally} (h : TB N l) (hN : 0 ≤ N) (r : RunS) (i : Nat) (x : Trip) (hx : 0 ≤ x.count ∧ x.count ≤ 100000) (hp : 0 ≤ (r.pt i).people ∧ (r.pt i).people ≤ 100000) : TB (N + 400000) (tallyTrip r i x l) := by
  unfold tallyTrip
  refine h.set (by omega) _ _ hN (fun t ht => ?_)
  have h1 : ({ t with unplanned := t.unplanned - x.count, absent := t.absent + (x.count - (r.pt i).people) } : Tally).le (N + 200000) := by unfold Tally.le at *; simp only; omega
  have := h1.add (r.pt i).state (r.pt i).people (by omega)
  exact this.mono (by omega)
theorem TB.board {N : Int} {l : List Tally} (h : TB N l) (hN : 0 ≤ N) (r : RunS) (j k : Nat) (b : Board) (hb : 0 ≤ b.count ∧ b.count ≤ 100000) (hw : 0 ≤ (r.wt k).count ∧ (r.wt k).count ≤ 100000) : TB (N + 600000) (tallyBoard r j k b l) := by
  unfold tallyBoard
  refine h.set (by omega) _ _ hN (fun t ht => ?_)
  have h1 : ({ t with unplanned := t.unplanned - b.count } : Tally).le (N + 200000) := by unfold Tally.le at *; simp only; omega
  have h2 := h1.add (r.pt j).state (b.count - (r.wt k).count) (by omega)
  unfold tallyWait
  unfold Tally.le at h2 ⊢
  split <;> (simp only; omega)
theorem tlSet_len (l : List Tally) (i : Int) (f : Tally → Tally) : (tlSet l i f).length = l.length := by simp [tlSet]
theorem tallyTrip_len (r : RunS) (i : Nat) (x : Trip) (l : List Tally) : (tallyTrip r i x l).length = l.length := tlSet_len _ _ _
theorem tallyBoard_len (r : RunS) (j k : Nat) (b : Board) (l : List Tally) : (tallyBoard r j k b l).length = l.length := tlSet_len _ _ _

end Go.Proofs.Ytjoihijlcpnhoaa
namespace Go.Proofs.Ytjoihijlcpnhoaa

structure TalG (n : Nat) (r : RunS) : Prop where
  trip : ∀ i, i < n → (r.pt i).ride = false ∧ 0 ≤ (r.pt i).people ∧ (r.pt i).people ≤ 100000
  wait : ∀ k, (r.wt k).count ≤ 100000

theorem TalG.setP {n : Nat} {r : RunS} (h : TalG n r) (i : Nat) (x : Party) (hr : x.ride = (r.pt i).ride) (hp : x.ride = false → x.people = (r.pt i).people) : TalG n (r.setP i x) := by
  refine ⟨fun j hj => ?_, h.wait⟩
  rw [pt_setP]
  split
  · rename_i e
    obtain ⟨rfl, _⟩ := e
    obtain ⟨h1, h2, h3⟩ := h.trip j hj
    rw [h1] at hr
    rw [hr, hp hr]
    exact ⟨rfl, h2, h3⟩
  · exact h.trip j hj
theorem TalG.setW {n : Nat} {r : RunS} (h : TalG n r) (k : Nat) (y : Wait) (hy : y.count ≤ 100000) : TalG n (r.setW k y) := by
  refine ⟨h.trip, fun j => ?_⟩
  rw [wt_setW]
  split
  · exact hy
  · exact h.wait j
theorem TalG.note {n : Nat} {r : RunS} (h : TalG n r) (e : Entry) : TalG n (r.note e) := ⟨h.trip, h.wait⟩
theorem TalG.tell {n : Nat} {r : RunS} (h : TalG n r) (s kind : Int) (i : Nat) (a : Int) : TalG n (r.tell s kind i a) := ⟨h.trip, h.wait⟩
theorem TalG.each {n : Nat} {f : Nat → RunS → RunS} (hf : ∀ i r, TalG n r → TalG n (f i r)) : ∀ k r, TalG n r → TalG n (eachI f k r)
  | 0, _, h => h
  | k + 1, r, h => hf k _ (TalG.each hf k r h)
theorem TalG.arrive (n : Nat) (s : Int) (i : Nat) (r : RunS) (h : TalG n r) : TalG n (arriveAt s i r) := by
  unfold arriveAt
  split
  · exact TalG.tell (h.setP i { r.pt i with state := 1 } rfl (fun _ => rfl)) _ _ _ _
  · exact h
theorem TalG.flood (n : Nat) (T : Town) (s : Int) (i : Nat) (r : RunS) (h : TalG n r) : TalG n (floodAt T s i r) := by
  unfold floodAt
  split
  · exact TalG.tell (h.setP i { r.pt i with state := 5 } rfl (fun _ => rfl)) _ _ _ _
  · exact h
theorem TalG.floodW (n : Nat) (T : Town) (m s : Int) (k : Nat) (r : RunS) (h : TalG n r) : TalG n (floodW T m s k r) := by
  unfold Proofs.Ytjoihijlcpnhoaa.floodW
  split
  · exact TalG.note (h.setW k { r.wt k with lost := true } (h.wait k)) _
  · exact h
theorem TalG.nextAt (n : Nat) (r : RunS) (i : Nat) (h : TalG n r) : TalG n (nextAt r i) := by
  unfold Proofs.Ytjoihijlcpnhoaa.nextAt
  split
  · exact h.setP _ { r.pt (i + 1 + (nextRide r i).toNat) with state := 1, place := (r.pt i).place } rfl (fun _ => rfl)
  · exact h
theorem TalG.enter (n : Nat) (T : Town) (s : Int) (i : Nat) (r : RunS) (h : TalG n r) : TalG n (enterAt T s i r) := by
  unfold enterAt
  split
  · exact h
  · refine TalG.nextAt n _ i (TalG.tell ?_ _ _ _ _)
    have h1 := h.setP i { r.pt i with state := 3 } rfl (fun _ => rfl)
    exact ⟨h1.trip, h1.wait⟩
theorem TalG.board (n : Nat) (i k : Nat) (r : RunS) (h : TalG n r) : TalG n (boardAt i k r) := by
  unfold boardAt
  split
  · rename_i hb
    have hr : (r.pt i).ride = true := by
      unfold boards at hb
      simp only [Bool.and_eq_true] at hb
      exact hb.1.1.1
    exact TalG.setW (h.setP i { r.pt i with people := (r.pt i).people + (r.wt k).count } rfl (fun e => by have e' : (r.pt i).ride = false := e; rw [hr] at e'; cases e')) k { r.wt k with count := 0 } (by show (0 : Int) ≤ 100000; omega)
  · exact h
theorem TalG.begin (n : Nat) (T : Town) (s : Int) (i : Nat) (r : RunS) (h : TalG n r) : TalG n (beginAt T s i r) := by
  unfold beginAt
  split
  · exact h
  split
  · exact TalG.tell (h.setP i { r.pt i with state := 4 } rfl (fun _ => rfl)) _ _ _ _
  split
  · have h0 : TalG n (takesUse r (r.pt i) ((r.pt i).hops.getD 0 Hop.z).way) := ⟨h.trip, h.wait⟩
    have h1 := TalG.each (TalG.board n i) (takesUse r (r.pt i) ((r.pt i).hops.getD 0 Hop.z).way).waits.length _ h0
    exact TalG.setP (TalG.tell h1 _ _ _ _) i _ rfl (fun _ => rfl)
  · exact h
theorem TalG.step (n : Nat) (T : Town) (m s : Int) (r : RunS) (h : TalG n r) : TalG n (stepRun T m s r) := by
  unfold stepRun
  exact TalG.each (TalG.begin n T s) _ _ (TalG.each (TalG.enter n T s) _ _ (TalG.each (TalG.floodW n T m s) _ _ (TalG.each (TalG.flood n T s) _ _ (TalG.each (TalG.arrive n s) _ _ ⟨h.trip, h.wait⟩))))
theorem TalG.play (n : Nat) (T : Town) (m : Int) : ∀ k r, TalG n r → TalG n (playN T m k r)
  | 0, _, h => h
  | k + 1, r, h => TalG.step n T m k _ (TalG.play n T m k r h)

theorem begunS_tal {T : Town} {p : Plan} {c : Case} (hG : TownG T) (hP : PlanG T p) (hC : CaseG p c) : TalG p.trips.length (begunS T p c) := by
  refine ⟨fun i hi => ?_, fun k => ?_⟩
  · have hl : i < (tripParties T c p.trips).length := by simpa [tripParties] using hi
    have e : (begunS T p c).pt i = tripParty T c i p.trips[i] := by
      unfold begunS RunS.pt
      simp only
      rw [List.getD_eq_getElem?_getD, List.getElem?_append_left hl]
      simp [tripParties, hi]
    rw [e]
    have h1 := tripParty_good hG hC i hi (hP.trips _ (List.getElem_mem hi))
    exact ⟨rfl, h1.1.people, h1.2⟩
  · unfold RunS.wt
    rw [List.getD_eq_getElem?_getD]
    cases hk : (begunS T p c).waits[k]? with
    | none => simp [Wait.z]
    | some y =>
      have hm : y ∈ rideWaits T p.rides p.rides.length := List.mem_of_getElem? hk
      obtain ⟨i, hi, b, hb, rfl⟩ := rideWaits_mem _ _ (Nat.le_refl _) hm
      exact (boardWait_good hG i (by have := hP.nr; omega) _ (hP.rides _ (List.getElem_mem hi)) b hb).2

end Go.Proofs.Ytjoihijlcpnhoaa
