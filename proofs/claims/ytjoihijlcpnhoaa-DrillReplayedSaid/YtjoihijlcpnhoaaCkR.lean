/- town: what checked's rides do, in plain lists; and what its boxes are while a row grows. -/
import Derived.Test.YtjoihijlcpnhoaaCkA
import Derived.Test.YtjoihijlcpnhoaaRowM
import Derived.Test.YtjoihijlcpnhoaaOrdT
namespace Go.Proofs.Ytjoihijlcpnhoaa
open Go.RowKit

theorem CkS.grown {T : Town} {a1 a2 a3 a4 : Option Addr} {c1 c2 c3 c4 : Nat} {p : Plan} {p1 p2 : Option Addr} {d1 d2 : Nat} {w W W' : World} {ab mb : Nat} {a : Acc} (h : CkS T a1 a2 a3 a4 c1 c2 c3 c4 p p1 p2 d1 d2 w ab mb a W) {row : Option Nat} (hg : W.grownBy W' row)
    (hr : ∀ r, row = some r → ab < r ∧ mb < r) : CkS T a1 a2 a3 a4 c1 c2 c3 c4 p p1 p2 d1 d2 w ab mb a W' := by
  have h1 := h.hab
  have h2 := h.hmb
  refine ⟨below_of_grown h.bl h.bl.size hg (fun r e => by have := hr r e; omega), (hg.block _ (lt_of_heap h.bt) (fun e => by have := hr _ e.symm; omega)).trans h.bt, (hg.block _ (lt_of_heap h.bp) (fun e => by have := hr _ e.symm; omega)).trans h.bp,
    h.am.same (hg.block _ (lt_of_heap h.am.blk) (fun e => by have := hr _ e.symm; omega)) (hg.block _ h.am.mp.lt (fun e => by have := hr _ e.symm; omega)), h1, h2⟩
theorem CkS.set {T : Town} {a1 a2 a3 a4 : Option Addr} {c1 c2 c3 c4 : Nat} {p : Plan} {p1 p2 : Option Addr} {d1 d2 : Nat} {w W : World} {ab mb : Nat} {a : Acc} (h : CkS T a1 a2 a3 a4 c1 c2 c3 c4 p p1 p2 d1 d2 w ab mb a W) (q : Addr) (v : Value)
    (hq : ab < q.block ∧ mb < q.block) : CkS T a1 a2 a3 a4 c1 c2 c3 c4 p p1 p2 d1 d2 w ab mb a (W.setCell q v) := by
  have h1 := h.hab
  have h2 := h.hmb
  obtain ⟨qb, qo, qs⟩ := q
  simp only at hq
  have hb : ∀ i, i ≠ qb → (W.setCell ⟨qb, qo, qs⟩ v).heap[i]? = W.heap[i]? := by
    intro i hi
    simp [World.setCell, Array.getElem?_modify, Ne.symm hi]
  exact ⟨bl_setCell h.bl _ _ (by show _ ≤ qb; omega), (hb _ (by omega)).trans h.bt, (hb _ (by omega)).trans h.bp, h.am.same (hb _ (by omega)) (hb _ (by omega)), h1, h2⟩

theorem ridesRun_drop (T : Town) (a : Acc) (m : List (Int × Int)) (l : List Ride) (k : Nat) (h : k < l.length) : ridesRun T a m (l.drop k) =
    if !within l[k].vehicle 0 ((m.length : Int) - 1) then .bad 4
    else if (rideT T l[k] (m.getD l[k].vehicle.toNat (0, 0)).1 (m.getD l[k].vehicle.toNat (0, 0)).2).2.2 = 0 then
      ridesRun T (boardsUse T (rideT T l[k] (m.getD l[k].vehicle.toNat (0, 0)).1 (m.getD l[k].vehicle.toNat (0, 0)).2).1 (rideT T l[k] (m.getD l[k].vehicle.toNat (0, 0)).1 (m.getD l[k].vehicle.toNat (0, 0)).2).2.1
          (hopsUse T 2 1 a l[k].hops) (T.vh l[k].vehicle).seats l[k].boards)
        (m.set l[k].vehicle.toNat ((rideT T l[k] (m.getD l[k].vehicle.toNat (0, 0)).1 (m.getD l[k].vehicle.toNat (0, 0)).2).1, (rideT T l[k] (m.getD l[k].vehicle.toNat (0, 0)).1 (m.getD l[k].vehicle.toNat (0, 0)).2).2.1)) (l.drop (k + 1))
      else .bad (rideT T l[k] (m.getD l[k].vehicle.toNat (0, 0)).1 (m.getD l[k].vehicle.toNat (0, 0)).2).2.2 := by
  rw [List.drop_eq_getElem_cons h]; rfl
theorem ridesRun_end (T : Town) (a : Acc) (m : List (Int × Int)) (l : List Ride) (k : Nat) (h : ¬ k < l.length) : ridesRun T a m (l.drop k) = .ok a := by
  rw [List.drop_eq_nil_of_le (by omega)]; rfl

/-- What one board uses. -/
def boardUse (T : Town) (q s : Int) (a : Acc) (n : Int) (b : Board) : Acc :=
  enterT T { useT T a ⟨0, b.group, 0⟩ b.count with full := (useT T a ⟨0, b.group, 0⟩ b.count).full || decide (n < b.count) } q s b.count
theorem boardsUse_drop (T : Town) (q s : Int) (a : Acc) (n : Int) (l : List Board) (k : Nat) (h : k < l.length) : boardsUse T q s a n (l.drop k) = boardsUse T q s (boardUse T q s a n l[k]) (n - min l[k].count n) (l.drop (k + 1)) := by
  rw [List.drop_eq_getElem_cons h]; rfl
theorem boardsUse_end (T : Town) (q s : Int) (a : Acc) (n : Int) (l : List Board) (k : Nat) (h : ¬ k < l.length) : boardsUse T q s a n (l.drop k) = a := by
  rw [List.drop_eq_nil_of_le (by omega)]; rfl

theorem foldS_steps {T : Town} (hG : TownG T) {c : Int} : ∀ (l : List Hop) (st st' : WSt), (∀ h ∈ l, T.unknown h = false ∧ T.outside h = false) → (0 ≤ st.step ∧ st.step ≤ 400) → foldS (hopStep T c) st l = some st' → 0 ≤ st'.step ∧ st'.step ≤ 400
  | [], st, st', _, h, e => by cases e; exact h
  | x :: l, st, st', hl, h, e => by
    unfold foldS at e
    cases h1 : hopStep T c st x with
    | none => rw [h1] at e; cases e
    | some s1 =>
      rw [h1] at e
      exact foldS_steps hG l s1 st' (fun y hy => hl y (List.mem_cons_of_mem _ hy)) (hopStep_step hG (hl x (by simp)).1 (hl x (by simp)).2 h1) e

theorem rideT_step {T : Town} (hG : TownG T) {x : Ride} {p s : Int} (hp : 0 ≤ p ∧ p < (T.places.length : Int)) (hs : 0 ≤ s ∧ s ≤ 400) (h : (rideT T x p s).2.2 = 0) : 0 ≤ (rideT T x p s).2.1 ∧ (rideT T x p s).2.1 ≤ 400 := by
  obtain ⟨z1, _⟩ := rideT_zero hG hp h
  unfold rideT at h ⊢
  split at h
  · cases h
  rename_i h1
  split at h
  · cases h
  rename_i h2
  split at h
  · cases h
  rename_i h3
  rw [if_neg h1, if_neg h2, if_neg h3]
  split at h
  · cases h
  · rename_i st hst
    split at h
    · cases h
    · rename_i hr
      rw [if_neg hr]
      exact foldS_steps hG _ _ _ z1 hs hst

/-- Where vehicles are, and when. -/
def AtS (T : Town) (m : List (Int × Int)) : Prop := ∀ u ∈ m, (0 ≤ u.1 ∧ u.1 < (T.places.length : Int)) ∧ 0 ≤ u.2 ∧ u.2 ≤ 400
theorem AtS.start {T : Town} (hG : TownG T) : AtS T (T.vehicles.map fun v => (v.place, 0)) := by
  intro u hu
  obtain ⟨v, hv, rfl⟩ := List.mem_map.1 hu
  exact ⟨(hG.vehicle v hv).1, Int.le_refl 0, by simp⟩
theorem AtS.set {T : Town} {m : List (Int × Int)} (h : AtS T m) (k : Nat) {q s : Int} (hq : (0 ≤ q ∧ q < (T.places.length : Int)) ∧ 0 ≤ s ∧ s ≤ 400) : AtS T (m.set k (q, s)) := by
  intro u hu
  rcases List.mem_or_eq_of_mem_set hu with h1 | h1
  · exact h u h1
  · subst h1; exact hq

theorem infoM : (Try.prog.info? 121).map (fun i => (i.zero, i.size, i.bytes)) = some (some (.agg #[.int .i64 0, .int .i64 0]), 2, 16) := by kernel_rfl

/-- Behind a call whose two results go into a new box and a slot. -/
def RdB (t1 t2 t3 : Int) (w5 : World) (v e : Value) (wx : World) : Prop :=
  ∃ q, v = .pointer (some ⟨q, 0, none⟩) ∧ e = .int .i64 t3 ∧ w5.heap.size ≤ q ∧ wx.heap[q]? = some (.cells #[.int .i64 t1, .int .i64 t2] 121 (0, 0)) ∧ Below w5.heap.size w5 wx
theorem below_two {B : Nat} {w W : World} {q : Nat} (h : Below B w W) (hq : B ≤ q) (a b : Value) : Below B w ((W.setCell ⟨q, 0, none⟩ a).setCell ⟨q, 1, none⟩ b) := by
  have hb : ∀ (X : World) (o : Nat) (v : Value) (i : Nat), i ≠ q → (X.setCell ⟨q, o, none⟩ v).heap[i]? = X.heap[i]? := by
    intro X o v i hi
    simp [World.setCell, Array.getElem?_modify, Ne.symm hi]
  exact ⟨h.os, h.tape, h.output, by simpa [World.setCell] using h.size, fun k hk => (hb _ _ _ _ (by omega)).trans ((hb _ _ _ _ (by omega)).trans (h.block k hk))⟩
theorem two_at {W : World} {q : Nat} {a b : Value} {t : TypeId} (h : W.heap[q]? = some (.cells #[a, b] t (0, 0))) (u v : Value) : ((W.setCell ⟨q, 0, none⟩ u).setCell ⟨q, 1, none⟩ v).heap[q]? = some (.cells #[u, v] t (0, 0)) :=
  (heap_setCell_at ((heap_setCell_at h _).trans rfl) _).trans rfl
theorem below_on {B : Nat} {w W W' : World} (h : Below B w W) (hB : B ≤ W.heap.size) (k : Below W.heap.size W W') : Below B w W' := h.trans (k.mono hB)

theorem CkS.full {T : Town} {a1 a2 a3 a4 : Option Addr} {c1 c2 c3 c4 : Nat} {p : Plan} {p1 p2 : Option Addr} {d1 d2 : Nat} {w W : World} {ab mb : Nat} {a : Acc} (h : CkS T a1 a2 a3 a4 c1 c2 c3 c4 p p1 p2 d1 d2 w ab mb a W) (f : Bool) :
    CkS T a1 a2 a3 a4 c1 c2 c3 c4 p p1 p2 d1 d2 w ab mb { a with full := f } (W.setCell ⟨ab, 7, none⟩ (.bool f)) := by
  have h1 := h.hab
  have h2 := h.hmb
  have h3 := h.am.ne
  exact ⟨bl_setCell h.bl _ _ (by show _ ≤ ab; omega), heap_setCell_off h.bt _ (by omega), heap_setCell_off h.bp _ (by omega), ⟨(heap_setCell_at h.am.blk _).trans rfl, h.am.mp.same (by simp [World.setCell, Array.getElem?_modify, h3]), h3, ⟨h.am.good.le, h.am.good.nodup⟩, h.am.keys⟩, h1, h2⟩

end Go.Proofs.Ytjoihijlcpnhoaa
