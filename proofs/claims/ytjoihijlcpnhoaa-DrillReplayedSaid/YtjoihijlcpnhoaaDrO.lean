/- drill: check of a case. -/
import Derived.Test.YtjoihijlcpnhoaaDrA
import Derived.Test.YtjoihijlcpnhoaaCauses
import Derived.Laws.OwnMore
import Derived.Test.YtjoihijlcpnhoaaBegun
namespace Go.Proofs.Ytjoihijlcpnhoaa
open Go.RowKit

/-- Fewer people are absent than there are, and not less than none. -/
def badAbs (p : Plan) (c : Case) (i : Nat) : Bool := decide (c.absent.getD i 0 < 0) || decide ((p.trips.getD i ⟨0, 0, [], 0⟩).count < c.absent.getD i 0)
theorem caseErr_eq (p : Plan) (c : Case) : caseErr p c =
    if p.trips.length < max c.late.length c.absent.length ∨ p.rides.length < max c.rides.length c.broken.length then 9
    else if c.late.any (fun n => !within n 0 200) then 3
    else if (List.range c.absent.length).any (badAbs p c) then 3
    else if c.rides.any (fun n => !within n 0 200) then 3
    else 0 := rfl

set_option maxHeartbeats 8000000 in
set_option maxRecDepth 100000 in
theorem ccheck_any (p : Plan) (p1 p2 : Option Addr) (d1 d2 : Nat) (c : Case) (l1 l2 l3 l4 : Option Addr) (e1 e2 e3 e4 B : Nat) (w : World) (hP : PlanM B w p1 p2 p) (hC : CaseM B w l1 l2 l3 l4 c) (hB : B ≤ w.heap.size) :
    Calls Try.prog 60 #[.agg #[.slice l1 c.late.length e1, .slice l2 c.absent.length e2, .slice l3 c.rides.length e3, .slice l4 c.broken.length e4], .agg #[.slice p1 p.trips.length d1, .slice p2 p.rides.length d2]] w
      fun e w' => e = .returned (.int .i64 (caseErr p c)) ∧ Below w.heap.size w w' := by
  have hl1 := hP.trips.1
  have hl2 := hP.rides.1
  have hc1 := hC.late.1
  have hc2 := hC.absent.1
  have hc3 := hC.rides.1
  have hc4 := hC.broken.1
  have hv := caseErr_eq p c
  obtain ⟨bv, hbv⟩ : ∃ v, decide (p.trips.length < max c.late.length c.absent.length ∨ p.rides.length < max c.rides.length c.broken.length) = v := ⟨_, rfl⟩
  have HhP := Lib.hid hP; clear hP; have HhC := Lib.hid hC; clear hC; have Hhv := Lib.hid hv; clear hv; have Hhbv := Lib.hid hbv; clear hbv
  go_enter Try.func60, Try.ntmps60
  go_upto_region 2 with fail
  go_cut [8] from 9 to 32 (fun v wx => v = .bool bv ∧ wx = ((w.alloc (.cells #[.slice l1 c.late.length e1, .slice l2 c.absent.length e2, .slice l3 c.rides.length e3, .slice l4 c.broken.length e4] 62)).alloc (.cells #[.slice p1 p.trips.length d1, .slice p2 p.rides.length d2] 31)))
  case first =>
    go_wp2_with fail
    all_goals (go_meet; refine ⟨congrArg Value.bool ?_, rfl⟩; rw [← Hhbv.out, Bool.eq_iff_iff]; simp only [Bool.or_eq_true, decide_eq_true_eq, true_iff]; omega)
  case rest =>
  obtain ⟨rfl, rfl⟩ := hcut
  have hv := Hhv.out
  have hbv := Hhbv.out
  clear Hhv Hhbv
  cases bv
  rotate_left
  · rw [if_pos (of_decide_eq_true hbv)] at hv
    have Hhv := Lib.hid hv; clear hv; have Hhbv := Lib.hid hbv; clear hbv
    go_wp2_with fail
    go_ret
    exact ⟨by rw [Hhv.out]; rfl, (by repeat (first | exact Below.refl _ _ | (refine bl_setCell ?_ _ _ ?_; rotate_left; focus (first | omega | (simp; done) | (simp; omega))) | refine bl_alloc ?_ _ | refine bl_step ?_ (by assumption) | refine bl_drew ?_ | refine bl_drewN ?_ _))⟩
  have hq := of_decide_eq_false hbv
  rw [if_neg hq] at hv
  have q3 : c.absent.length ≤ p.trips.length := by omega
  clear hbv hq
  obtain ⟨v3, hv3⟩ : ∃ v, c.late.any (fun n => !within n 0 200) = v := ⟨_, rfl⟩
  rw [hv3] at hv
  cases v3
  rotate_left
  · rw [if_pos rfl] at hv
    have Hhv := Lib.hid hv; clear hv
    go_wp2_with (go_at_call 101; refine (late_val c.late l1 e1 B true hv3 _ (HhC.out.below ((show Below w.heap.size w _ from (by repeat (first | exact Below.refl _ _ | (refine bl_setCell ?_ _ _ ?_; rotate_left; focus (first | omega | (simp; done) | (simp; omega))) | refine bl_alloc ?_ _ | refine bl_step ?_ (by assumption) | refine bl_drew ?_ | refine bl_drewN ?_ _))).mono hB)).late (by (first | omega | (simp; done) | (simp; omega)))).mono ?_; rintro e w1 ⟨rfl, hb1⟩; obtain ⟨_, _, _⟩ := bk (w.heap.size) hb1 (by (first | omega | (simp; done) | (simp; omega))); obtain ⟨_, _, _⟩ := bk (w.heap.size + 1) hb1 (by (first | omega | (simp; done) | (simp; omega))); have hzhb1 := bsz hb1; (try simp only [World.size_alloc] at hzhb1))
    go_ret
    exact ⟨by rw [Hhv.out]; rfl, (by repeat (first | exact Below.refl _ _ | (refine bl_setCell ?_ _ _ ?_; rotate_left; focus (first | omega | (simp; done) | (simp; omega))) | refine bl_alloc ?_ _ | refine bl_step ?_ (by assumption) | refine bl_drew ?_ | refine bl_drewN ?_ _))⟩
  rw [if_neg (by simp)] at hv
  have tok1 : True := trivial
  have Hhv := Lib.hid hv; clear hv; have Hq3 := Lib.hid q3; clear q3
  go_wp2_with (go_at_call 101; have _t := tok1; clear _t tok1; refine (late_val c.late l1 e1 B false hv3 _ (HhC.out.below ((show Below w.heap.size w _ from (by repeat (first | exact Below.refl _ _ | (refine bl_setCell ?_ _ _ ?_; rotate_left; focus (first | omega | (simp; done) | (simp; omega))) | refine bl_alloc ?_ _ | refine bl_step ?_ (by assumption) | refine bl_drew ?_ | refine bl_drewN ?_ _))).mono hB)).late (by (first | omega | (simp; done) | (simp; omega)))).mono ?_; rintro e w1 ⟨rfl, hb1⟩; obtain ⟨_, _, _⟩ := bk (w.heap.size) hb1 (by (first | omega | (simp; done) | (simp; omega))); obtain ⟨_, _, _⟩ := bk (w.heap.size + 1) hb1 (by (first | omega | (simp; done) | (simp; omega))); have hzhb1 := bsz hb1; (try simp only [World.size_alloc] at hzhb1))
  have hb0 : Below w.heap.size w w1 := (by repeat (first | exact Below.refl _ _ | (refine bl_setCell ?_ _ _ ?_; rotate_left; focus (first | omega | (simp; done) | (simp; omega))) | refine bl_alloc ?_ _ | refine bl_step ?_ (by assumption) | refine bl_drew ?_ | refine bl_drewN ?_ _))
  go_loopw [41] (fun i wr => ∃ k : Nat, k ≤ c.absent.length ∧ i = .int .i64 k ∧ wr = w1 ∧ Hid (∀ j, j < k → badAbs p c j = false)) (fun i _ => c.absent.length - (intOf i).toNat)
  case atStart => exact ⟨0, Nat.zero_le _, rfl, rfl, Lib.hid (fun j hj => by omega)⟩
  case round =>
    obtain ⟨k, hk, rfl, rfl, hr⟩ := hrel
    by_cases hlt : k < c.absent.length
    · obtain ⟨b, off, hl2', hbb, he⟩ := HhC.out.absent.2 k hlt
      have hq3 := Hq3.out
      have hkt : k < p.trips.length := by omega
      obtain ⟨b2, off2, hp1', hbb2, he2⟩ := HhP.out.trips.2 k hkt
      obtain ⟨n, hn⟩ : ∃ n, n = c.absent[k] := ⟨_, rfl⟩
      obtain ⟨x, hx⟩ : ∃ x, x = p.trips[k] := ⟨_, rfl⟩
      rw [← hn] at he
      rw [← hx] at he2
      obtain ⟨a', c', f0, f1, _, _, _⟩ := he2
      have hBw : Below B w wr := hb0.mono hB
      have he' : wr.cell? ⟨b, off + k, none⟩ = some (.int .i64 n) := by have := ek_cell hBw hbb he; simpa using this
      replace f1 := ek_cell hBw hbb2 f1
      subst hl2' hp1'
      have hsz := hb0.size
      have hbr : b < wr.heap.size := by omega
      have hbr2 : b2 < wr.heap.size := by omega
      have hbad : badAbs p c k = (decide (n < 0) || decide (x.count < n)) := by
        unfold badAbs
        rw [List.getD_eq_getElem?_getD, List.getD_eq_getElem?_getD, List.getElem?_eq_getElem hlt, List.getElem?_eq_getElem hkt, hn, hx]
        rfl
      clear he f0
      obtain ⟨v1, hv1⟩ : ∃ v, decide (n < 0) = v := ⟨_, rfl⟩
      obtain ⟨v2, hv2⟩ : ∃ v, decide (x.count < n) = v := ⟨_, rfl⟩
      rw [hv1, hv2] at hbad
      have Hhn := Lib.hid hn; clear hn; have Hhx := Lib.hid hx; clear hx; have Hhbad := Lib.hid hbad; clear hbad; have Hhq3 := Lib.hid hq3; clear hq3
      have hany : ∀ v, badAbs p c k = true → caseErr p c = v → v = 3 := by
        intro v hb hve
        rw [← hve, Hhv.out, if_pos (List.any_eq_true.2 ⟨k, List.mem_range.2 hlt, hb⟩)]
      have Hhany := Lib.hid hany; clear hany
      cases v1
      · cases v2
        · go_wp2_with fail
          go_roundw
          case rel => exact ⟨k + 1, by omega, by go_num, trivial, Lib.hid (fun j hj => by
            by_cases e : j = k
            · subst e; rw [Hhbad.out]; rfl
            · exact hr.out j (by omega))⟩
          case measure => simp [intOf]; omega
        · go_wp2_with fail
          go_ret
          exact ⟨by rw [Hhany.out _ (by rw [Hhbad.out]; rfl) rfl]; rfl, hb0⟩
      · go_wp2_with fail
        go_ret
        exact ⟨by rw [Hhany.out _ (by rw [Hhbad.out]; rfl) rfl]; rfl, hb0⟩
    · have hno : (List.range c.absent.length).any (badAbs p c) = false := by
        rw [List.any_eq_false]
        intro j hj
        rw [hr.out j (by have := List.mem_range.1 hj; omega)]
        simp
      have hv5 := Hhv.out
      rw [hno, if_neg (by simp)] at hv5
      obtain ⟨v5, hv5'⟩ : ∃ v, c.rides.any (fun n => !within n 0 200) = v := ⟨_, rfl⟩
      rw [hv5'] at hv5
      clear hr hno
      cases v5
      · rw [if_neg (by simp)] at hv5
        clear Hhv
        have Hhv5 := Lib.hid hv5; clear hv5
        go_wp2_with (go_at_call 101; refine (late_val c.rides l3 e3 B false hv5' _ (HhC.out.below (hb0.mono hB)).rides (by have := hb0.size; omega)).mono ?_; rintro e w2 ⟨rfl, hb2⟩)
        go_ret
        exact ⟨by rw [Hhv5.out]; rfl, bl_step hb0 hb2⟩
      · rw [if_pos rfl] at hv5
        clear Hhv
        have Hhv5 := Lib.hid hv5; clear hv5
        go_wp2_with (go_at_call 101; refine (late_val c.rides l3 e3 B true hv5' _ (HhC.out.below (hb0.mono hB)).rides (by have := hb0.size; omega)).mono ?_; rintro e w2 ⟨rfl, hb2⟩)
        go_ret
        exact ⟨by rw [Hhv5.out]; rfl, bl_step hb0 hb2⟩

end Go.Proofs.Ytjoihijlcpnhoaa
namespace Go.Proofs.Ytjoihijlcpnhoaa
open Go.RowKit

def partyCells (x : Party) (ha : Option Addr) (hc : Nat) : Array Value :=
  #[.slice ha x.hops.length (x.hops.length + hc), .int .i64 x.cls, .int .i64 x.late, .int .i64 x.place, .int .i64 x.fin, .bool x.ride, .int .i64 x.index, .int .i64 x.vehicle, .int .i64 x.enter, .bool x.broken, .bool x.moved, .int .i64 x.state, .int .i64 x.people]
def waitCells (y : Wait) : Array Value := #[.int .i64 y.ride, .int .i64 y.group, .int .i64 y.place, .int .i64 y.hop, .int .i64 y.count, .bool y.lost]
def ptrV (q : Nat) : Value := .pointer (some ⟨q, 0, none⟩)

/-- Where a run lies: its own block, those of parties and of those who wait, the three rows, what it notes with. -/
structure RA where
  rb : Nat
  pb : Nat → Nat
  wb : Nat → Nat
  vp : Value
  vw : Value
  vr : Value
  k : FuncId
  lb : Array Value

def encU (x : Use) : Value := .agg #[.int .i64 x.kind, .int .i64 x.id]
def runCells (T : Town) (a1 a2 a3 a4 : Option Addr) (c1 c2 c3 c4 : Nat) (p : Plan) (p1 p2 : Option Addr) (d1 d2 : Nat) (A : RA) (um : Option Nat) (s : Int) : Array Value :=
  #[.int .i64 T.steps, .slice a1 T.places.length c1, .slice a2 T.ways.length c2, .slice a3 T.groups.length c3, .slice a4 T.vehicles.length c4, .slice p1 p.trips.length d1, .slice p2 p.rides.length d2, A.vp, A.vw, A.vr, .map um, .int .i64 s, .func (.func A.k) #[] A.lb]

def RA.own (A : RA) (np nw q : Nat) : Prop := q = A.rb ∨ (∃ i, i < np ∧ q = A.pb i) ∨ (∃ j, j < nw ∧ q = A.wb j) ∨ A.vp.ownBlock = some q ∨ A.vw.ownBlock = some q ∨ A.vr.ownBlock = some q

structure RunM (T : Town) (a1 a2 a3 a4 : Option Addr) (c1 c2 c3 c4 : Nat) (p : Plan) (p1 p2 : Option Addr) (d1 d2 : Nat) (B : Nat) (A : RA) (w : World) (r : RunS) (s : Int) (um : Option Nat) : Prop where
  blk : w.heap[A.rb]? = some (.cells (runCells T a1 a2 a3 a4 c1 c2 c3 c4 p p1 p2 d1 d2 A um s) 161 (0, 0))
  pt : ∀ i, i < r.parties.length → ∃ ha hc, w.heap[A.pb i]? = some (.cells (partyCells (r.pt i) ha hc) 168 (0, 0)) ∧ Sl HopE 2 B w ha (r.pt i).hops
  wt : ∀ j, j < r.waits.length → w.heap[A.wb j]? = some (.cells (waitCells (r.wt j)) 172 (0, 0))
  rowp : w.ownsRow B 162 1 A.vp r.parties.length ((List.range r.parties.length).map fun i => ptrV (A.pb i))
  roww : w.ownsRow B 170 1 A.vw r.waits.length ((List.range r.waits.length).map fun j => ptrV (A.wb j))
  rowr : w.ownsRow B 3 1 A.vr r.room.length (r.room.map fun n => .int .i64 n)
  used : match um with
    | none => r.used = []
    | some m => MapE encU intV w m r.used
  dp : ∀ i j, i < r.parties.length → j < r.parties.length → A.pb i = A.pb j → i = j
  dw : ∀ i j, i < r.waits.length → j < r.waits.length → A.wb i = A.wb j → i = j
  lo : ∀ q, A.own r.parties.length r.waits.length q → B ≤ q
  town : TownM B w a1 a2 a3 a4 T
  plan : PlanM B w p1 p2 p

theorem RunM.lt {T : Town} {a1 a2 a3 a4 : Option Addr} {c1 c2 c3 c4 : Nat} {p : Plan} {p1 p2 : Option Addr} {d1 d2 B : Nat} {A : RA} {w : World} {r : RunS} {s : Int} {um : Option Nat} (h : RunM T a1 a2 a3 a4 c1 c2 c3 c4 p p1 p2 d1 d2 B A w r s um)
    {q : Nat} (hq : A.own r.parties.length r.waits.length q) : q < w.heap.size := by
  rcases hq with rfl | ⟨i, hi, rfl⟩ | ⟨j, hj, rfl⟩ | hq | hq | hq
  · exact lt_of_heap h.blk
  · obtain ⟨_, _, h1, _⟩ := h.pt i hi; exact lt_of_heap h1
  · exact lt_of_heap (h.wt j hj)
  · exact (h.rowp.lt q hq).2
  · exact (h.roww.lt q hq).2
  · exact (h.rowr.lt q hq).2

/-- Only the run's own blocks count, and those ahead of B. -/
theorem RunM.same {T : Town} {a1 a2 a3 a4 : Option Addr} {c1 c2 c3 c4 : Nat} {p : Plan} {p1 p2 : Option Addr} {d1 d2 B : Nat} {A : RA} {w w' : World} {r : RunS} {s : Int} {um : Option Nat} (h : RunM T a1 a2 a3 a4 c1 c2 c3 c4 p p1 p2 d1 d2 B A w r s um)
    (hs : ∀ q, A.own r.parties.length r.waits.length q → w'.heap[q]? = w.heap[q]?) (hm : ∀ m, um = some m → w'.heap[m]? = w.heap[m]?) (hB : BelowL B w w') : RunM T a1 a2 a3 a4 c1 c2 c3 c4 p p1 p2 d1 d2 B A w' r s um := by
  refine ⟨(hs _ (.inl rfl)).trans h.blk, fun i hi => ?_, fun j hj => (hs _ (.inr (.inr (.inl ⟨j, hj, rfl⟩)))).trans (h.wt j hj), row_same h.rowp (fun g hg => hs g (.inr (.inr (.inr (.inl hg))))), row_same h.roww (fun g hg => hs g (.inr (.inr (.inr (.inr (.inl hg)))))),
    row_same h.rowr (fun g hg => hs g (.inr (.inr (.inr (.inr (.inr hg)))))), ?_, h.dp, h.dw, h.lo, h.town.belowL hB, h.plan.belowL hB⟩
  · obtain ⟨ha, hc, h1, h2⟩ := h.pt i hi
    exact ⟨ha, hc, (hs _ (.inr (.inl ⟨i, hi, rfl⟩))).trans h1, h2.belowL (ekl_hop B) hB⟩
  · have := h.used
    cases um with
    | none => exact this
    | some m => exact MapE.same this (hm m rfl)
theorem RunM.below {T : Town} {a1 a2 a3 a4 : Option Addr} {c1 c2 c3 c4 : Nat} {p : Plan} {p1 p2 : Option Addr} {d1 d2 B : Nat} {A : RA} {w w' : World} {r : RunS} {s : Int} {um : Option Nat} (h : RunM T a1 a2 a3 a4 c1 c2 c3 c4 p p1 p2 d1 d2 B A w r s um)
    (hb : Below w.heap.size w w') : RunM T a1 a2 a3 a4 c1 c2 c3 c4 p p1 p2 d1 d2 B A w' r s um := by
  refine h.same (fun q hq => hb.block q (h.lt hq)) (fun m hm => ?_) (Below.lone (hb.mono (by have := h.lo _ (.inl rfl); have := lt_of_heap h.blk; omega)))
  have := h.used
  subst hm
  exact hb.block m (MapE.lt this)

/-- Blocks of other kinds are others. -/
theorem cells_ne {w : World} {q q' : Nat} {c c' : Array Value} {t t' : TypeId} {f f' : Nat × Nat} (h : w.heap[q]? = some (.cells c t f)) (h' : w.heap[q']? = some (.cells c' t' f')) (ht : t ≠ t') : q ≠ q' := by
  intro e
  subst e
  rw [h] at h'
  simp only [Option.some.injEq, Obj.cells.injEq] at h'
  exact ht h'.2.1
theorem map_ne {κ β : Type} {enc : κ → Value} {vl : β → Value} {w : World} {q m : Nat} {c : Array Value} {t : TypeId} {f : Nat × Nat} {l : List (κ × β)} (h : w.heap[q]? = some (.cells c t f)) (h' : MapE enc vl w m l) : q ≠ m := by
  intro e
  subst e
  obtain ⟨es, clock, h1, _⟩ := h'
  rw [h] at h1
  cases h1
theorem row_ne {w : World} {base n size : Nat} {e : TypeId} {v : Value} {xs : List Value} (h : w.ownsRow base e size v n xs) {q : Nat} {c : Array Value} {t : TypeId} {f : Nat × Nat} (hq : w.heap[q]? = some (.cells c t f)) (ht : t ≠ e) : v.ownBlock ≠ some q := by
  rcases h.2 with ⟨rfl, _⟩ | ⟨g, cap, cur, rfl, _, hg, _⟩
  · simp [Value.ownBlock]
  · intro hb
    obtain rfl : g = q := by simpa [Value.ownBlock] using hb
    exact cells_ne hq hg ht rfl
theorem setCell_other (w : World) (q o : Nat) (v : Value) {i : Nat} (hi : i ≠ q) : (w.setCell ⟨q, o, none⟩ v).heap[i]? = w.heap[i]? := by
  simp [World.setCell, Array.getElem?_modify, Ne.symm hi]

/-- A party is written. -/
theorem RunM.setP {T : Town} {a1 a2 a3 a4 : Option Addr} {c1 c2 c3 c4 : Nat} {p : Plan} {p1 p2 : Option Addr} {d1 d2 B : Nat} {A : RA} {w w' : World} {r : RunS} {s : Int} {um : Option Nat} (h : RunM T a1 a2 a3 a4 c1 c2 c3 c4 p p1 p2 d1 d2 B A w r s um)
    {i : Nat} (hi : i < r.parties.length) (x : Party) (ha : Option Addr) (hc : Nat) (hx : w'.heap[A.pb i]? = some (.cells (partyCells x ha hc) 168 (0, 0))) (hsl : Sl HopE 2 B w ha x.hops)
    (ho : ∀ k, k ≠ A.pb i → w'.heap[k]? = w.heap[k]?) (hB : Below B w w') : RunM T a1 a2 a3 a4 c1 c2 c3 c4 p p1 p2 d1 d2 B A w' (r.setP i x) s um := by
  obtain ⟨ha0, hc0, h0, _⟩ := h.pt i hi
  have hl : (r.setP i x).parties.length = r.parties.length := setP_len r i x
  have hpt : ∀ j, (r.setP i x).pt j = if j = i ∧ i < r.parties.length then x else r.pt j := fun j => pt_setP r i j x
  refine ⟨(ho _ (cells_ne h.blk h0 (by decide))).trans h.blk, fun j hj => ?_, fun j hj => (ho _ (cells_ne (h.wt j hj) h0 (by decide))).trans (h.wt j hj), ?_, row_same h.roww (fun g hg => ho g (fun e => row_ne h.roww h0 (by decide) (by rw [← e]; exact hg))),
    row_same h.rowr (fun g hg => ho g (fun e => row_ne h.rowr h0 (by decide) (by rw [← e]; exact hg))), ?_, ?_, h.dw, ?_, h.town.below hB, h.plan.below hB⟩
  · rw [hl] at hj
    rw [hpt]
    by_cases e : j = i
    · subst e
      rw [if_pos ⟨rfl, hi⟩]
      exact ⟨ha, hc, hx, hsl.below (ek_hop B) hB⟩
    · rw [if_neg (fun k => e k.1)]
      obtain ⟨ha1, hc1, h1, h2⟩ := h.pt j hj
      exact ⟨ha1, hc1, (ho _ (fun k => e (h.dp j i hj hi k))).trans h1, h2.below (ek_hop B) hB⟩
  · rw [hl]
    exact row_same h.rowp (fun g hg => ho g (fun e => row_ne h.rowp h0 (by decide) (by rw [← e]; exact hg)))
  · have := h.used
    cases um with
    | none => exact this
    | some m => exact MapE.same this (ho m (fun e => map_ne h0 this e.symm))
  · rw [hl]; exact h.dp
  · rw [hl]; exact h.lo

/-- What a run notes with: what it keeps (J), in blocks of its own (P). -/
structure NoteC (N : Nat) (k : FuncId) (lb : Array Value) (J : World → (Nat → Prop) → List Entry → Prop) : Prop where
  enters : ∀ (args : Array Value) (w : World), (callFunc k args).run Try.prog w = .ok (.enter k args) w
  stable : ∀ w w' P l, J w P l → (∀ q, P q → w'.heap[q]? = w.heap[q]?) → (∀ q, q < N → w'.heap[q]? = w.heap[q]?) → w.heap.size ≤ w'.heap.size → J w' P l
  lt : ∀ w P l q, J w P l → P q → q < w.heap.size
  lone : ∀ w P l q, J w P l → P q → N ≤ q ∨ Lone w q
  call : ∀ w P l (e : Entry), J w P l → l.length ≤ 1000000000 → Calls Try.prog k (#[.agg #[.int .i64 e.step, .int .i64 e.kind, .int .i64 e.party, .int .i64 e.at_, .int .i64 e.people]] ++ lb) w fun en w' =>
    (∃ u, en = .returned u) ∧ (w'.os = w.os ∧ w'.tape = w.tape ∧ w'.output = w.output ∧ w.heap.size ≤ w'.heap.size) ∧ (∀ q, q < w.heap.size → ¬ P q → w'.heap[q]? = w.heap[q]?) ∧ ∃ P', J w' P' (l ++ [e]) ∧ ∀ q, P' q → P q ∨ w.heap.size ≤ q

end Go.Proofs.Ytjoihijlcpnhoaa
namespace Go.Proofs.Ytjoihijlcpnhoaa

theorem each_log {f : Nat → RunS → RunS} {d : Nat} (h : ∀ i r, (f i r).log.length ≤ r.log.length + d) : ∀ k r, (eachI f k r).log.length ≤ r.log.length + k * d
  | 0, r => by simp [eachI]
  | k + 1, r => by
    have h1 := each_log h k r
    have h2 := h k (eachI f k r)
    show (f k (eachI f k r)).log.length ≤ _
    rw [Nat.add_mul]
    omega
theorem arrive_log (s : Int) (i : Nat) (r : RunS) : (arriveAt s i r).log.length ≤ r.log.length + 1 := by
  unfold arriveAt
  split <;> simp [RunS.tell, RunS.note, RunS.setP]
theorem flood_log (T : Town) (s : Int) (i : Nat) (r : RunS) : (floodAt T s i r).log.length ≤ r.log.length + 1 := by
  unfold floodAt
  split <;> simp [RunS.tell, RunS.note, RunS.setP]
theorem floodW_log (T : Town) (n s : Int) (i : Nat) (r : RunS) : (floodW T n s i r).log.length ≤ r.log.length + 1 := by
  unfold floodW
  split <;> simp [RunS.note, RunS.setW]
theorem nextAt_log (r : RunS) (i : Nat) : (nextAt r i).log = r.log := by
  unfold nextAt
  split <;> rfl
theorem enter_log (T : Town) (s : Int) (i : Nat) (r : RunS) : (enterAt T s i r).log.length ≤ r.log.length + 1 := by
  unfold enterAt
  split
  · omega
  · rw [nextAt_log]
    simp [RunS.tell, RunS.note, enterIn]
theorem boardAt_log (i k : Nat) (r : RunS) : (boardAt i k r).log = r.log := by
  unfold boardAt
  split <;> rfl
theorem boardAll_log (i : Nat) (r : RunS) : (boardAll i r).log = r.log := by
  have : ∀ n, (eachI (boardAt i) n r).log = r.log := by
    intro n
    induction n with
    | zero => rfl
    | succ n ih => exact (boardAt_log i n _).trans ih
  exact this _
theorem begin_log (T : Town) (s : Int) (i : Nat) (r : RunS) : (beginAt T s i r).log.length ≤ r.log.length + 1 := by
  unfold beginAt
  split
  · omega
  split
  · simp [RunS.tell, RunS.note, RunS.setP]
  split
  · show ((boardAll i (takesUse r (r.pt i) ((r.pt i).hops.getD 0 Hop.z).way)).log ++ [_]).length ≤ _
    rw [boardAll_log]
    simp [takesUse]
  · omega

theorem each1_log {f : Nat → RunS → RunS} (h : ∀ i r, (f i r).log.length ≤ r.log.length + 1) (k : Nat) (r : RunS) : (eachI f k r).log.length ≤ r.log.length + k := by
  have := each_log (d := 1) h k r
  omega

end Go.Proofs.Ytjoihijlcpnhoaa
namespace Go.Proofs.Ytjoihijlcpnhoaa
open Go.RowKit

/-- A run, and what it notes with, apart from it. -/
structure RunJ (T : Town) (a1 a2 a3 a4 : Option Addr) (c1 c2 c3 c4 : Nat) (p : Plan) (p1 p2 : Option Addr) (d1 d2 : Nat) (B : Nat) (A : RA) (J : World → (Nat → Prop) → List Entry → Prop) (w : World) (r : RunS) (s : Int) (um : Option Nat) (P : Nat → Prop) : Prop where
  run : RunM T a1 a2 a3 a4 c1 c2 c3 c4 p p1 p2 d1 d2 B A w r s um
  note : J w P r.log
  sep : ∀ q, P q → ¬ A.own r.parties.length r.waits.length q ∧ um ≠ some q ∧ True

/-- What a call of the run leaves alone: all but the run's blocks and those it notes in. -/
structure Fr (A : RA) (np nw : Nat) (um : Option Nat) (P P' : Nat → Prop) (w w' : World) : Prop where
  os : w'.os = w.os
  tape : w'.tape = w.tape
  output : w'.output = w.output
  size : w.heap.size ≤ w'.heap.size
  block : ∀ q, q < w.heap.size → ¬ A.own np nw q → um ≠ some q → ¬ P q → w'.heap[q]? = w.heap[q]?
  grow : ∀ q, P' q → P q ∨ w.heap.size ≤ q

theorem Fr.refl (A : RA) (np nw : Nat) (um : Option Nat) (P : Nat → Prop) (w : World) : Fr A np nw um P P w w := ⟨rfl, rfl, rfl, Nat.le_refl _, fun _ _ _ _ _ => rfl, fun _ h => .inl h⟩
theorem Fr.trans {A : RA} {np nw : Nat} {um : Option Nat} {P P' P'' : Nat → Prop} {w w' w'' : World} (h : Fr A np nw um P P' w w') (k : Fr A np nw um P' P'' w' w'') : Fr A np nw um P P'' w w'' :=
  ⟨k.os.trans h.os, k.tape.trans h.tape, k.output.trans h.output, Nat.le_trans h.size k.size, fun q hq ho hu hp => (k.block q (Nat.lt_of_lt_of_le hq h.size) ho hu (fun hp' => by
    rcases h.grow q hp' with h1 | h1
    · exact hp h1
    · omega)).trans (h.block q hq ho hu hp), fun q hq => by
    rcases k.grow q hq with h1 | h1
    · exact h.grow q h1
    · exact .inr (Nat.le_trans h.size h1)⟩
theorem Fr.of_below {A : RA} {np nw : Nat} {um : Option Nat} {P : Nat → Prop} {w w' : World} (h : Below w.heap.size w w') : Fr A np nw um P P w w' := ⟨h.os, h.tape, h.output, h.size, fun q hq _ _ _ => h.block q hq, fun _ h => .inl h⟩

set_option maxHeartbeats 2000000 in
set_option maxRecDepth 100000 in
theorem rdry_any (T : Town) (a1 a2 a3 a4 : Option Addr) (c1 c2 c3 c4 : Nat) (p : Plan) (p1 p2 : Option Addr) (d1 d2 : Nat) (B : Nat) (A : RA) (w : World) (r : RunS) (s : Int) (um : Option Nat) (q : Int) (h : RunM T a1 a2 a3 a4 c1 c2 c3 c4 p p1 p2 d1 d2 B A w r s um) (hB : B ≤ w.heap.size) (h0 : 0 ≤ q) (h1 : q < (T.places.length : Int)) :
    Calls Try.prog 103 #[.pointer (some ⟨A.rb, 0, none⟩), .int .i64 q] w fun e w' => e = .returned (.bool (T.dry q s)) ∧ Below w.heap.size w w' := by
  obtain ⟨b, off, rfl, hb, he⟩ := h.town.places.at h0 h1 Place.z
  have hbw : b < w.heap.size := by omega
  have hl := h.town.places.1
  obtain ⟨x, hx⟩ : ∃ x, x = T.places.getD q.toNat Place.z := ⟨_, rfl⟩
  rw [← hx] at he
  obtain ⟨e0, e1, e2⟩ := he
  have hac := cells_of h.blk
  have hal := lt_of_heap h.blk
  simp only [runCells] at hac
  have Hhx := Lib.hid hx; clear hx; have Hh := Lib.hid h; clear h
  go_enter Try.func103, Try.ntmps103
  go_wp2_with fail
  go_quiet (fail)
  go_wp2_with fail
  go_ret
  exact ⟨by unfold Town.dry Town.pl; rw [← Hhx.out]; rfl, (by repeat (first | exact Below.refl _ _ | (refine bl_setCell ?_ _ _ ?_; rotate_left; focus (first | omega | (simp; done) | (simp; omega))) | refine bl_alloc ?_ _ | refine bl_step ?_ (by assumption) | refine bl_drew ?_ | refine bl_drewN ?_ _))⟩

set_option maxHeartbeats 2000000 in
set_option maxRecDepth 100000 in
theorem tell_any (T : Town) (a1 a2 a3 a4 : Option Addr) (c1 c2 c3 c4 : Nat) (p : Plan) (p1 p2 : Option Addr) (d1 d2 : Nat) (B : Nat) (A : RA) (J : World → (Nat → Prop) → List Entry → Prop) (hN : NoteC B A.k A.lb J) (w : World) (r : RunS) (s : Int) (um : Option Nat) (P : Nat → Prop) (kind at_ : Int) (i : Nat)
    (h : RunJ T a1 a2 a3 a4 c1 c2 c3 c4 p p1 p2 d1 d2 B A J w r s um P) (hi : i < r.parties.length) (hnp : r.parties.length ≤ 4352) (hlg : r.log.length ≤ 1000000000) :
    Calls Try.prog 102 #[.pointer (some ⟨A.rb, 0, none⟩), .int .i64 kind, .int .i64 i, .int .i64 at_] w
      fun e w' => (∃ u, e = .returned u) ∧ ∃ P', RunJ T a1 a2 a3 a4 c1 c2 c3 c4 p p1 p2 d1 d2 B A J w' (r.tell s kind i at_) s um P' ∧ Fr A r.parties.length r.waits.length um P P' w w' := by
  obtain ⟨ha, hc, hpb, _⟩ := h.run.pt i hi
  obtain ⟨g, cap, hvp, hgB, hgl⟩ := h.run.rowp.form (by omega)
  have hrow := h.run.rowp
  rw [hvp] at hrow
  have hg := hrow.cellAt i (by omega)
  have hgi : ((List.range r.parties.length).map fun i => ptrV (A.pb i))[i]? = some (.pointer (some ⟨A.pb i, 0, none⟩)) := by
    rw [List.getElem?_map, List.getElem?_range hi]
    rfl
  rw [hgi] at hg
  have hac := cells_of h.run.blk
  have hal := lt_of_heap h.run.blk
  simp only [runCells] at hac
  rw [hvp] at hac
  have hpc := cells_of hpb
  simp only [partyCells] at hpc
  have hpl := lt_of_heap hpb
  have heg := hN.enters
  have hent : (r.tell s kind i at_).log = r.log ++ [⟨s, kind, i, at_, (r.pt i).people⟩] := rfl
  obtain ⟨np, hnp'⟩ : ∃ n, r.parties.length = n := ⟨_, rfl⟩
  obtain ⟨ppl, hppl⟩ : ∃ n, (r.pt i).people = n := ⟨_, rfl⟩
  rw [hppl] at hpc hent
  rw [hnp'] at hac hi hnp
  have hI : Below w.heap.size w w.drew := (Below.refl _ _).drew
  clear hgi hrow
  have Hh := Lib.hid h; clear h; have Hhpb := Lib.hid hpb; clear hpb; have Hhvp := Lib.hid hvp; clear hvp; have HhN := Lib.hid hN; clear hN; have Hhent := Lib.hid hent; clear hent; have Hhnp' := Lib.hid hnp'; clear hnp'; have Hhppl := Lib.hid hppl; clear hppl; have Hhlg := Lib.hid hlg; clear hlg
  go_enter Try.func102, Try.ntmps102
  go_upto_region 0 with fail
  refine wp_region_ord (fun W => Below w.heap.size w W) [] [0, 1, 2, 3, 4, 5, 6, 7, 8, 9, 10, 11, 12, 13, 14, 15, 16, 17, 18, 19, 20, 21] (some 22) (by kernel_rfl) (by kernel_rfl) hI ?_
  refine OrdI_snk ?_
  (apply StI_plain (w0 := w.drew) hI rfl rfl rfl rfl; (focus (intro W hW K hK; obtain ⟨_, _, _⟩ := bk A.rb hW hal; obtain ⟨_, _, _⟩ := bk g hW hgl; obtain ⟨_, _, _⟩ := bk (A.pb i) hW hpl; go_step; exact hK)); (focus rfl)); (apply StI_plain (w0 := w.drew) hI rfl rfl rfl rfl; (focus (intro W hW K hK; obtain ⟨_, _, _⟩ := bk A.rb hW hal; obtain ⟨_, _, _⟩ := bk g hW hgl; obtain ⟨_, _, _⟩ := bk (A.pb i) hW hpl; go_step; exact hK)); (focus rfl)); (apply StI_plain (w0 := w.drew) hI rfl rfl rfl rfl; (focus (intro W hW K hK; obtain ⟨_, _, _⟩ := bk A.rb hW hal; obtain ⟨_, _, _⟩ := bk g hW hgl; obtain ⟨_, _, _⟩ := bk (A.pb i) hW hpl; go_step; exact hK)); (focus rfl)); (apply StI_plain (w0 := w.drew) hI rfl rfl rfl rfl; (focus (intro W hW K hK; obtain ⟨_, _, _⟩ := bk A.rb hW hal; obtain ⟨_, _, _⟩ := bk g hW hgl; obtain ⟨_, _, _⟩ := bk (A.pb i) hW hpl; go_step; exact hK)); (focus rfl)); (apply StI_plain (w0 := w.drew) hI rfl rfl rfl rfl; (focus (intro W hW K hK; obtain ⟨_, _, _⟩ := bk A.rb hW hal; obtain ⟨_, _, _⟩ := bk g hW hgl; obtain ⟨_, _, _⟩ := bk (A.pb i) hW hpl; go_step; exact hK)); (focus rfl)); (apply StI_plain (w0 := w.drew) hI rfl rfl rfl rfl; (focus (intro W hW K hK; obtain ⟨_, _, _⟩ := bk A.rb hW hal; obtain ⟨_, _, _⟩ := bk g hW hgl; obtain ⟨_, _, _⟩ := bk (A.pb i) hW hpl; go_step; exact hK)); (focus rfl)); (apply StI_plain (w0 := w.drew) hI rfl rfl rfl rfl; (focus (intro W hW K hK; obtain ⟨_, _, _⟩ := bk A.rb hW hal; obtain ⟨_, _, _⟩ := bk g hW hgl; obtain ⟨_, _, _⟩ := bk (A.pb i) hW hpl; go_step; exact hK)); (focus rfl)); (apply StI_plain (w0 := w.drew) hI rfl rfl rfl rfl; (focus (intro W hW K hK; obtain ⟨_, _, _⟩ := bk A.rb hW hal; obtain ⟨_, _, _⟩ := bk g hW hgl; obtain ⟨_, _, _⟩ := bk (A.pb i) hW hpl; go_step; exact hK)); (focus rfl)); (apply StI_plain (w0 := w.drew) hI rfl rfl rfl rfl; (focus (intro W hW K hK; obtain ⟨_, _, _⟩ := bk A.rb hW hal; obtain ⟨_, _, _⟩ := bk g hW hgl; obtain ⟨_, _, _⟩ := bk (A.pb i) hW hpl; go_step; exact hK)); (focus rfl)); (apply StI_plain (w0 := w.drew) hI rfl rfl rfl rfl; (focus (intro W hW K hK; obtain ⟨_, _, _⟩ := bk A.rb hW hal; obtain ⟨_, _, _⟩ := bk g hW hgl; obtain ⟨_, _, _⟩ := bk (A.pb i) hW hpl; go_step; exact hK)); (focus rfl)); (apply StI_plain (w0 := w.drew) hI rfl rfl rfl rfl; (focus (intro W hW K hK; obtain ⟨_, _, _⟩ := bk A.rb hW hal; obtain ⟨_, _, _⟩ := bk g hW hgl; obtain ⟨_, _, _⟩ := bk (A.pb i) hW hpl; go_step; exact hK)); (focus rfl)); (apply StI_plain (w0 := w.drew) hI rfl rfl rfl rfl; (focus (intro W hW K hK; obtain ⟨_, _, _⟩ := bk A.rb hW hal; obtain ⟨_, _, _⟩ := bk g hW hgl; obtain ⟨_, _, _⟩ := bk (A.pb i) hW hpl; go_step; exact hK)); (focus rfl)); (apply StI_plain (w0 := w.drew) hI rfl rfl rfl rfl; (focus (intro W hW K hK; obtain ⟨_, _, _⟩ := bk A.rb hW hal; obtain ⟨_, _, _⟩ := bk g hW hgl; obtain ⟨_, _, _⟩ := bk (A.pb i) hW hpl; go_step; exact hK)); (focus rfl)); (apply StI_plain (w0 := w.drew) hI rfl rfl rfl rfl; (focus (intro W hW K hK; obtain ⟨_, _, _⟩ := bk A.rb hW hal; obtain ⟨_, _, _⟩ := bk g hW hgl; obtain ⟨_, _, _⟩ := bk (A.pb i) hW hpl; go_step; exact hK)); (focus rfl)); (apply StI_plain (w0 := w.drew) hI rfl rfl rfl rfl; (focus (intro W hW K hK; obtain ⟨_, _, _⟩ := bk A.rb hW hal; obtain ⟨_, _, _⟩ := bk g hW hgl; obtain ⟨_, _, _⟩ := bk (A.pb i) hW hpl; go_step; exact hK)); (focus rfl)); (apply StI_plain (w0 := w.drew) hI rfl rfl rfl rfl; (focus (intro W hW K hK; obtain ⟨_, _, _⟩ := bk A.rb hW hal; obtain ⟨_, _, _⟩ := bk g hW hgl; obtain ⟨_, _, _⟩ := bk (A.pb i) hW hpl; go_step; exact hK)); (focus rfl)); (apply StI_plain (w0 := w.drew) hI rfl rfl rfl rfl; (focus (intro W hW K hK; obtain ⟨_, _, _⟩ := bk A.rb hW hal; obtain ⟨_, _, _⟩ := bk g hW hgl; obtain ⟨_, _, _⟩ := bk (A.pb i) hW hpl; go_step; exact hK)); (focus rfl)); (apply StI_plain (w0 := w.drew) hI rfl rfl rfl rfl; (focus (intro W hW K hK; obtain ⟨_, _, _⟩ := bk A.rb hW hal; obtain ⟨_, _, _⟩ := bk g hW hgl; obtain ⟨_, _, _⟩ := bk (A.pb i) hW hpl; go_step; exact hK)); (focus rfl)); (apply StI_plain (w0 := w.drew) hI rfl rfl rfl rfl; (focus (intro W hW K hK; obtain ⟨_, _, _⟩ := bk A.rb hW hal; obtain ⟨_, _, _⟩ := bk g hW hgl; obtain ⟨_, _, _⟩ := bk (A.pb i) hW hpl; go_step; exact hK)); (focus rfl)); (apply StI_plain (w0 := w.drew) hI rfl rfl rfl rfl; (focus (intro W hW K hK; obtain ⟨_, _, _⟩ := bk A.rb hW hal; obtain ⟨_, _, _⟩ := bk g hW hgl; obtain ⟨_, _, _⟩ := bk (A.pb i) hW hpl; go_step; exact hK)); (focus rfl)); (apply StI_plain (w0 := w.drew) hI rfl rfl rfl rfl; (focus (intro W hW K hK; obtain ⟨_, _, _⟩ := bk A.rb hW hal; obtain ⟨_, _, _⟩ := bk g hW hgl; obtain ⟨_, _, _⟩ := bk (A.pb i) hW hpl; go_step; exact hK)); (focus rfl)); (apply StI_plain (w0 := w.drew) hI rfl rfl rfl rfl; (focus (intro W hW K hK; obtain ⟨_, _, _⟩ := bk A.rb hW hal; obtain ⟨_, _, _⟩ := bk g hW hgl; obtain ⟨_, _, _⟩ := bk (A.pb i) hW hpl; go_step; exact hK)); (focus rfl))
  (apply StI_eff rfl; go_wp2_with fail)
  refine (HhN.out.call w.drew P r.log ⟨s, kind, i, at_, ppl⟩ (HhN.out.stable _ _ _ _ Hh.out.note (fun _ _ => rfl) (fun _ _ => rfl) (Nat.le_refl _)) Hhlg.out).mono ?_
  rintro e w' ⟨⟨u, rfl⟩, ⟨hos, htape, hout, hsz⟩, hblk, P', hJ, hP'⟩
  go_wp2_with fail
  refine onNormal_last ?_
  go_wp2_with fail
  (try simp only [Exit.inBlock, Exit.then]); refine bodyPost_end (results_none rfl _ _ _) rfl ?_
  have hrun := Hh.out.run
  have hsep := Hh.out.sep
  have hbk : ∀ q, q < w.heap.size → ¬ P q → w'.heap[q]? = w.heap[q]? := hblk
  have hnote := Hh.out.note
  have hBw : BelowL B w w' := fun q hq => by
    by_cases hp : P q
    · rcases HhN.out.lone _ _ _ _ hnote hp with h1 | h1
      · omega
      · exact .inr h1
    · exact .inl (hbk q (by omega) hp)
  have hrun' : RunM T a1 a2 a3 a4 c1 c2 c3 c4 p p1 p2 d1 d2 B A w' r s um := by
    refine hrun.same (fun q hq => hbk q (hrun.lt hq) (fun hp => (hsep q hp).1 hq)) (fun m hm => ?_) hBw
    have := hrun.used
    subst hm
    exact hbk m (MapE.lt this) (fun hp => (hsep m hp).2.1 rfl)
  refine ⟨⟨_, rfl⟩, P', ⟨⟨hrun'.blk, hrun'.pt, hrun'.wt, hrun'.rowp, hrun'.roww, hrun'.rowr, hrun'.used, hrun'.dp, hrun'.dw, hrun'.lo, hrun'.town, hrun'.plan⟩, by rw [Hhent.out]; exact hJ, fun q hq => ?_⟩, ⟨hos, htape, hout, hsz, fun q hq _ _ hp => hbk q hq hp, hP'⟩⟩
  rcases hP' q hq with h1 | h1
  · exact hsep q h1
  · have hsz' : w.heap.size ≤ q := h1
    refine ⟨fun ho => by have := hrun.lt ho; omega, fun hm => ?_, trivial⟩
    have := hrun.used
    subst hm
    have := MapE.lt this
    omega

end Go.Proofs.Ytjoihijlcpnhoaa
namespace Go.Proofs.Ytjoihijlcpnhoaa
open Go.RowKit

theorem RunJ.drew {T : Town} {a1 a2 a3 a4 : Option Addr} {c1 c2 c3 c4 : Nat} {p : Plan} {p1 p2 : Option Addr} {d1 d2 B : Nat} {A : RA} {J : World → (Nat → Prop) → List Entry → Prop} {w : World} {r : RunS} {s : Int} {um : Option Nat} {P : Nat → Prop} (hN : NoteC B A.k A.lb J)
    (h : RunJ T a1 a2 a3 a4 c1 c2 c3 c4 p p1 p2 d1 d2 B A J w r s um P) : RunJ T a1 a2 a3 a4 c1 c2 c3 c4 p p1 p2 d1 d2 B A J w.drew r s um P :=
  ⟨h.run.below (Below.refl _ _).drew, hN.stable _ _ _ _ h.note (fun _ _ => rfl) (fun _ _ => rfl) (Nat.le_refl _), h.sep⟩
theorem RunJ.below {T : Town} {a1 a2 a3 a4 : Option Addr} {c1 c2 c3 c4 : Nat} {p : Plan} {p1 p2 : Option Addr} {d1 d2 B : Nat} {A : RA} {J : World → (Nat → Prop) → List Entry → Prop} {w w' : World} {r : RunS} {s : Int} {um : Option Nat} {P : Nat → Prop} (hN : NoteC B A.k A.lb J)
    (h : RunJ T a1 a2 a3 a4 c1 c2 c3 c4 p p1 p2 d1 d2 B A J w r s um P) (hb : Below w.heap.size w w') : RunJ T a1 a2 a3 a4 c1 c2 c3 c4 p p1 p2 d1 d2 B A J w' r s um P :=
  ⟨h.run.below hb, hN.stable _ _ _ _ h.note (fun q hq => hb.block q (hN.lt _ _ _ _ h.note hq)) (fun q hq => hb.block q (by have := h.run.lo _ (.inl rfl); have := lt_of_heap h.run.blk; omega)) hb.size, h.sep⟩

theorem RunM.le {T : Town} {a1 a2 a3 a4 : Option Addr} {c1 c2 c3 c4 : Nat} {p : Plan} {p1 p2 : Option Addr} {d1 d2 B : Nat} {A : RA} {w : World} {r : RunS} {s : Int} {um : Option Nat} (h : RunM T a1 a2 a3 a4 c1 c2 c3 c4 p p1 p2 d1 d2 B A w r s um) : B ≤ w.heap.size := by
  have := h.lo _ (.inl rfl)
  have := lt_of_heap h.blk
  omega

/-- A cell of a party is written. -/
theorem RunJ.set {T : Town} {a1 a2 a3 a4 : Option Addr} {c1 c2 c3 c4 : Nat} {p : Plan} {p1 p2 : Option Addr} {d1 d2 B : Nat} {A : RA} {J : World → (Nat → Prop) → List Entry → Prop} {w : World} {r : RunS} {s : Int} {um : Option Nat} {P : Nat → Prop} (hN : NoteC B A.k A.lb J)
    (h : RunJ T a1 a2 a3 a4 c1 c2 c3 c4 p p1 p2 d1 d2 B A J w r s um P) {i : Nat} (hi : i < r.parties.length) (x : Party) {ha : Option Addr} {hc : Nat} (o : Nat) (v : Value) (hcell : w.heap[A.pb i]? = some (.cells (partyCells (r.pt i) ha hc) 168 (0, 0)))
    (hx : (partyCells (r.pt i) ha hc).setIfInBounds o v = partyCells x ha hc) (hsl : Sl HopE 2 B w ha x.hops) :
    RunJ T a1 a2 a3 a4 c1 c2 c3 c4 p p1 p2 d1 d2 B A J (w.setCell ⟨A.pb i, o, none⟩ v) (r.setP i x) s um P ∧ Fr A r.parties.length r.waits.length um P P w (w.setCell ⟨A.pb i, o, none⟩ v) := by
  have hle := h.run.le
  have hlo := h.run.lo (A.pb i) (.inr (.inl ⟨i, hi, rfl⟩))
  have hsz : (w.setCell ⟨A.pb i, o, none⟩ v).heap.size = w.heap.size := by simp [World.setCell]
  have ho : ∀ k, k ≠ A.pb i → (w.setCell ⟨A.pb i, o, none⟩ v).heap[k]? = w.heap[k]? := fun k hk => setCell_other w _ _ _ hk
  have hB : Below B w (w.setCell ⟨A.pb i, o, none⟩ v) := ⟨rfl, rfl, rfl, by rw [hsz]; exact Nat.le_refl _, fun k hk => ho k (by omega)⟩
  refine ⟨⟨h.run.setP hi x ha hc (by rw [← hx]; exact heap_setCell_at hcell v) hsl ho hB, hN.stable _ _ _ _ h.note (fun q hq => ho q (fun e => (h.sep q hq).1 (.inr (.inl ⟨i, hi, e⟩)))) hB.block (by rw [hsz]; exact Nat.le_refl _), fun q hq => by rw [setP_len]; exact h.sep q hq⟩,
    ⟨rfl, rfl, rfl, by rw [hsz]; exact Nat.le_refl _, fun q _ hq _ _ => ho q (fun e => hq (.inr (.inl ⟨i, hi, e⟩))), fun _ hq => .inl hq⟩⟩

/-- The pointer to a party. -/
theorem RunM.ptr {T : Town} {a1 a2 a3 a4 : Option Addr} {c1 c2 c3 c4 : Nat} {p : Plan} {p1 p2 : Option Addr} {d1 d2 B : Nat} {A : RA} {w : World} {r : RunS} {s : Int} {um : Option Nat} (h : RunM T a1 a2 a3 a4 c1 c2 c3 c4 p p1 p2 d1 d2 B A w r s um) {i : Nat} (hi : i < r.parties.length)
    {g n cap : Nat} (hv : A.vp = .slice (some ⟨g, 0, none⟩) n cap) : w.cell? ⟨g, i, none⟩ = some (.pointer (some ⟨A.pb i, 0, none⟩)) ∧ g < w.heap.size := by
  have hrow := h.rowp
  obtain ⟨g', cap', hv', _, hgl⟩ := hrow.form (by omega)
  rw [hv'] at hv
  simp only [Value.slice.injEq, Option.some.injEq, Addr.mk.injEq] at hv
  obtain ⟨⟨rfl, _⟩, _, _⟩ := hv
  rw [hv'] at hrow
  refine ⟨(hrow.cellAt i (by omega)).trans ?_, hgl⟩
  rw [List.getElem?_map, List.getElem?_range hi]
  rfl

theorem eachI_arrive_len (s : Int) (r : RunS) : ∀ k, (eachI (arriveAt s) k r).parties.length = r.parties.length ∧ (eachI (arriveAt s) k r).waits.length = r.waits.length
  | 0 => ⟨rfl, rfl⟩
  | k + 1 => by
    obtain ⟨h1, h2⟩ := eachI_arrive_len s r k
    unfold eachI arriveAt
    split
    · exact ⟨by simp only [RunS.tell, RunS.note, RunS.setP, List.length_set]; exact h1, h2⟩
    · exact ⟨h1, h2⟩

set_option maxHeartbeats 8000000 in
set_option maxRecDepth 100000 in
theorem arrive_any (T : Town) (a1 a2 a3 a4 : Option Addr) (c1 c2 c3 c4 : Nat) (p : Plan) (p1 p2 : Option Addr) (d1 d2 : Nat) (B : Nat) (A : RA) (J : World → (Nat → Prop) → List Entry → Prop) (hN : NoteC B A.k A.lb J) (w : World) (r : RunS) (s : Int) (um : Option Nat) (P : Nat → Prop)
    (h : RunJ T a1 a2 a3 a4 c1 c2 c3 c4 p p1 p2 d1 d2 B A J w r s um P) (hnp : r.parties.length ≤ 4352) (hlog : r.log.length + r.parties.length ≤ 1000000000) :
    Calls Try.prog 67 #[.pointer (some ⟨A.rb, 0, none⟩)] w
      fun e w' => (∃ u, e = .returned u) ∧ ∃ P', RunJ T a1 a2 a3 a4 c1 c2 c3 c4 p p1 p2 d1 d2 B A J w' (eachI (arriveAt s) r.parties.length r) s um P' ∧ Fr A r.parties.length r.waits.length um P P' w w' := by
  have hac := cells_of h.run.blk
  have hal := lt_of_heap h.run.blk
  simp only [runCells] at hac
  obtain ⟨va, vc, hvp⟩ := row_len h.run.rowp
  obtain ⟨np, hnp'⟩ : ∃ n, r.parties.length = n := ⟨_, rfl⟩
  rw [hnp'] at hvp hnp
  rw [hvp] at hac
  have Hh := Lib.hid h; clear h; have Hhvp := Lib.hid hvp; clear hvp; have HhN := Lib.hid hN; clear hN; have Hhnp' := Lib.hid hnp'; clear hnp'; have Hhlog := Lib.hid hlog; clear hlog
  go_enter Try.func67, Try.ntmps67
  go_wp2_with fail
  go_loopw [9] (fun i wr => ∃ (k : Nat) (P' : Nat → Prop), k ≤ np ∧ i = .int .i64 k ∧ RunJ T a1 a2 a3 a4 c1 c2 c3 c4 p p1 p2 d1 d2 B A J wr (eachI (arriveAt s) k r) s um P' ∧ Fr A r.parties.length r.waits.length um P P' w wr) (fun i _ => np - (intOf i).toNat)
  case atStart => exact ⟨0, P, Nat.zero_le _, rfl, Hh.out, Fr.refl _ _ _ _ _ _⟩
  case round =>
    obtain ⟨k, P1, hk, rfl, hrj, hfr⟩ := hrel
    by_cases hlt : k < np
    · obtain ⟨rk, hrk⟩ : ∃ q, eachI (arriveAt s) k r = q := ⟨_, rfl⟩
      have hnx : eachI (arriveAt s) (k + 1) r = arriveAt s k rk := by rw [← hrk]; rfl
      obtain ⟨hlen1, hlen2⟩ := eachI_arrive_len s r k
      have hlgk : (eachI (arriveAt s) k r).log.length ≤ 1000000000 := by have := each1_log (arrive_log s) k r; have := Hhlog.out; have := Hhnp'.out; omega
      rw [hrk] at hrj hlen1 hlen2 hlgk
      have hlen : rk.parties.length = np := hlen1.trans Hhnp'.out
      have hki : k < rk.parties.length := by omega
      obtain ⟨ha, hc, hpb, hhs⟩ := hrj.run.pt k hki
      obtain ⟨x, hx⟩ : ∃ x, rk.pt k = x := ⟨_, rfl⟩
      obtain ⟨g, cap, hvp2, _, hgl⟩ := hrj.run.rowp.form (by omega)
      have hvas : va = some ⟨g, 0, none⟩ := by have := Hhvp.out; rw [hvp2] at this; simp only [Value.slice.injEq] at this; exact this.1.symm
      have hg := (hrj.run.ptr hki hvp2).1
      have harr : arriveAt s k rk = if x.state = 2 ∧ x.fin = s then (rk.setP k { x with state := 1 }).tell s 1 k x.place else rk := by unfold arriveAt; rw [hx]
      rw [hx] at hpb hhs
      subst hvas
      have hwac := cells_of hrj.run.blk
      have hwal := lt_of_heap hrj.run.blk
      simp only [runCells] at hwac
      rw [Hhvp.out] at hwac
      have hpc := cells_of hpb
      have hpf := frozen_of hpb
      simp only [partyCells] at hpc
      have hpl := lt_of_heap hpb
      obtain ⟨v1, hv1⟩ : ∃ v, (x.state == 2) = v := ⟨_, rfl⟩
      obtain ⟨v2, hv2⟩ : ∃ v, (x.fin == s) = v := ⟨_, rfl⟩
      have hpb0 : wr.heap[A.pb k]? = some (.cells (partyCells (rk.pt k) ha hc) 168 (0, 0)) := by rw [hx]; exact hpb
      clear hvp2 hlen1
      have Hhrk := Lib.hid hrk; clear hrk; have Hhnx := Lib.hid hnx; clear hnx; have Hhrj := Lib.hid hrj; clear hrj; have Hhfr := Lib.hid hfr; clear hfr; have Hhpb := Lib.hid hpb; clear hpb; have Hhhs := Lib.hid hhs; clear hhs; have Hharr := Lib.hid harr; clear harr; have Hhx := Lib.hid hx; clear hx; have Hhlen := Lib.hid hlen; clear hlen; have Hhlen2 := Lib.hid hlen2; clear hlen2; have Hhpb0 := Lib.hid hpb0; clear hpb0; have Hhlgk := Lib.hid hlgk; clear hlgk
      cases v1
      · have hno : arriveAt s k rk = rk := by rw [Hharr.out, if_neg (by intro e; rw [e.1] at hv1; cases hv1)]
        have Hhno := Lib.hid hno; clear hno
        go_upto_region 3 with fail
        go_quiet (fail)
        go_wp2_with fail
        go_roundw
        case rel => exact ⟨k + 1, P1, by omega, by go_num, by rw [Hhnx.out, Hhno.out]; exact Hhrj.out.below HhN.out (bl_drewN (Below.refl _ _) _), Hhfr.out.trans (Fr.of_below (bl_drewN (Below.refl _ _) _))⟩
        case measure => simp [intOf]; omega
      · cases v2
        · have hno : arriveAt s k rk = rk := by rw [Hharr.out, if_neg (by intro e; rw [e.2] at hv2; simp at hv2)]
          have Hhno := Lib.hid hno; clear hno
          go_upto_region 3 with fail
          go_quiet (fail)
          go_wp2_with fail
          go_roundw
          case rel => exact ⟨k + 1, P1, by omega, by go_num, by rw [Hhnx.out, Hhno.out]; exact Hhrj.out.below HhN.out (bl_drewN (Below.refl _ _) _), Hhfr.out.trans (Fr.of_below (bl_drewN (Below.refl _ _) _))⟩
          case measure => simp [intOf]; omega
        · have hst : x.state = 2 := by simpa using hv1
          have hfi : x.fin = s := by simpa using hv2
          have hyes : arriveAt s k rk = (rk.setP k { x with state := 1 }).tell s 1 k x.place := by rw [Hharr.out, if_pos ⟨hst, hfi⟩]
          clear hst hfi
          have HJ : ∀ n, RunJ T a1 a2 a3 a4 c1 c2 c3 c4 p p1 p2 d1 d2 B A J ((wr.drewN n).setCell ⟨A.pb k, 11, none⟩ (.int .i64 1)) (rk.setP k { x with state := 1 }) s um P1 ∧ Fr A rk.parties.length rk.waits.length um P1 P1 wr ((wr.drewN n).setCell ⟨A.pb k, 11, none⟩ (.int .i64 1)) := by
            intro n
            have h1 := Hhrj.out.below HhN.out (bl_drewN (Below.refl wr.heap.size wr) n)
            obtain ⟨h2, h3⟩ := h1.set HhN.out hki { x with state := 1 } (ha := ha) (hc := hc) 11 (.int .i64 1) Hhpb0.out (by rw [Hhx.out]; rfl) (Hhhs.out.below (ek_hop B) ((bl_drewN (Below.refl wr.heap.size wr) n).mono Hhrj.out.run.le))
            exact ⟨h2, (Fr.of_below (bl_drewN (Below.refl _ _) n)).trans h3⟩
          have hki2 : k < (rk.setP k { x with state := 1 }).parties.length := by rw [setP_len]; omega
          have hnp2 : (rk.setP k { x with state := 1 }).parties.length ≤ 4352 := by rw [setP_len, Hhlen.out]; exact hnp
          have Hhyes := Lib.hid hyes; clear hyes; have HHJ := Lib.hid HJ; clear HJ; have Hhki2 := Lib.hid hki2; clear hki2; have Hhnp2 := Lib.hid hnp2; clear hnp2
          go_upto_region 3 with fail
          go_quiet (fail)
          go_wp2_with (go_at_call 102; refine (tell_any T _ _ _ _ _ _ _ _ p _ _ _ _ B A J HhN.out _ _ s um P1 1 x.place k (HHJ.out _).1 Hhki2.out Hhnp2.out Hhlgk.out).mono ?_; rintro e w5 ⟨⟨u, rfl⟩, P2, hrj2, hfr2⟩; have hfr3 := Hhfr.out.trans (by have := (HHJ.out _).2.trans (by have := hfr2; rw [setP_len] at this; exact this); rw [Hhlen.out, ← Hhnp'.out, Hhlen2.out] at this; exact this); have Hhrj2 := Lib.hid hrj2; clear hrj2; have Hhfr2 := Lib.hid hfr2; clear hfr2; have Hhfr3 := Lib.hid hfr3; clear hfr3)
          go_roundw
          case rel => exact ⟨k + 1, P2, by omega, by go_num, by rw [Hhnx.out, Hhyes.out]; exact Hhrj2.out, Hhfr3.out⟩
          case measure => simp [intOf]; omega
    · obtain rfl : k = np := by omega
      go_wp2_with fail
      (try simp only [Exit.inBlock, Exit.then]); refine bodyPost_end (results_none rfl _ _ _) rfl ?_
      exact ⟨⟨_, rfl⟩, P1, by rw [Hhnp'.out]; exact hrj, hfr⟩

end Go.Proofs.Ytjoihijlcpnhoaa
