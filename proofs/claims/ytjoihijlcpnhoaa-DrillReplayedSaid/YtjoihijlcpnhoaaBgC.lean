/- drill: begun. -/
import Derived.Test.YtjoihijlcpnhoaaBgD
import Derived.Test.YtjoihijlcpnhoaaVerify
import Derived.Test.YtjoihijlcpnhoaaDrO
import Derived.Test.YtjoihijlcpnhoaaDrL2
import Derived.Deep.DeepCutAuto
namespace Go.Proofs.Ytjoihijlcpnhoaa
open Go.RowKit
open Go.ChangeMaps (setBlock)

/-- A run while it is laid out. -/
def RunN (T : Town) (a1 a2 a3 a4 : Option Addr) (c1 c2 c3 c4 : Nat) (p : Plan) (p1 p2 : Option Addr) (d1 d2 : Nat) (rb : Nat) (w2 W : World) (r : RunS) : Prop :=
  (∃ A : RA, A.rb = rb ∧ A.k = 61 ∧ A.lb = #[] ∧ RunM T a1 a2 a3 a4 c1 c2 c3 c4 p p1 p2 d1 d2 rb A W r 0 none) ∧ Below rb w2 W

/-- What begun answers. -/
def BgPost (T : Town) (a1 a2 a3 a4 : Option Addr) (c1 c2 c3 c4 : Nat) (p : Plan) (p1 p2 : Option Addr) (d1 d2 : Nat) (c : Case) (w : World) (e : Ending) (w' : World) : Prop :=
  Below w.heap.size w w' ∧ ((begunErr T p c ≠ 0 ∧ e = .returned (.tuple #[.pointer none, .int .i64 (begunErr T p c)])) ∨
    (verifyT T p = 0 ∧ caseErr p c = 0 ∧ ∃ (B : Nat) (A : RA), w.heap.size ≤ B ∧ A.k = 61 ∧ A.lb = #[] ∧ e = .returned (.tuple #[.pointer (some ⟨A.rb, 0, none⟩), .int .i64 0]) ∧ RunM T a1 a2 a3 a4 c1 c2 c3 c4 p p1 p2 d1 d2 B A w' (begunS T p c) 0 none))

def RA.new (rb : Nat) : RA := ⟨rb, fun _ => 0, fun _ => 0, .slice none 0 0, .slice none 0 0, .slice none 0 0, 61, #[]⟩

theorem RunM.new {T : Town} {a1 a2 a3 a4 : Option Addr} {c1 c2 c3 c4 : Nat} {p : Plan} {p1 p2 : Option Addr} {d1 d2 : Nat} {w : World} {rb : Nat} (hT : TownM rb w a1 a2 a3 a4 T) (hP : PlanM rb w p1 p2 p)
    (hb : w.heap[rb]? = some (.cells (runCells T a1 a2 a3 a4 c1 c2 c3 c4 p p1 p2 d1 d2 (RA.new rb) none 0) 161 (0, 0))) : RunM T a1 a2 a3 a4 c1 c2 c3 c4 p p1 p2 d1 d2 rb (RA.new rb) w ⟨[], [], [], [], []⟩ 0 none := by
  have hrow : ∀ e, w.ownsRow rb e 1 (.slice none 0 0) 0 [] := fun e => ⟨rfl, .inl ⟨rfl, rfl⟩⟩
  refine ⟨hb, fun i hi => by simp at hi, fun i hi => by simp at hi, hrow _, hrow _, hrow _, rfl, fun i j hi => by simp at hi, fun i j hi => by simp at hi, fun q hq => ?_, hT, hP⟩
  rcases hq with h | ⟨i, hi, _⟩ | ⟨i, hi, _⟩ | h | h | h
  · rw [h]; exact Nat.le_refl _
  · simp at hi
  · simp at hi
  · simp [RA.new, Value.ownBlock] at h
  · simp [RA.new, Value.ownBlock] at h
  · simp [RA.new, Value.ownBlock] at h

def townBox (T : Town) (a1 a2 a3 a4 : Option Addr) (c1 c2 c3 c4 : Nat) : Array Value := #[.int .i64 T.steps, .slice a1 T.places.length c1, .slice a2 T.ways.length c2, .slice a3 T.groups.length c3, .slice a4 T.vehicles.length c4]
def planBox (p : Plan) (p1 p2 : Option Addr) (d1 d2 : Nat) : Array Value := #[.slice p1 p.trips.length d1, .slice p2 p.rides.length d2]
def caseBox (c : Case) (l1 l2 l3 l4 : Option Addr) (e1 e2 e3 e4 : Nat) : Array Value := #[.slice l1 c.late.length e1, .slice l2 c.absent.length e2, .slice l3 c.rides.length e3, .slice l4 c.broken.length e4]

theorem below_cell {B : Nat} {w W : World} (h : Below B w W) {q : Nat} (hq : B ≤ q) (o : Nat) (v : Value) : Below B w (W.setCell ⟨q, o, none⟩ v) :=
  ⟨h.os, h.tape, h.output, by simpa [World.setCell] using h.size, fun k hk => (setCell_other W q o v (by omega)).trans (h.block k hk)⟩

theorem RunN.addR {T : Town} {a1 a2 a3 a4 : Option Addr} {c1 c2 c3 c4 : Nat} {p : Plan} {p1 p2 : Option Addr} {d1 d2 : Nat} {rb : Nat} {w3 w6 w' : World} {A : RA} {r : RunS} (h : RunM T a1 a2 a3 a4 c1 c2 c3 c4 p p1 p2 d1 d2 rb A w6 r 0 none) (h1 : A.rb = rb) (h2 : A.k = 61) (h3 : A.lb = #[]) (hb : Below rb w3 w6) (n : Int) {v' : Value} (hg : w6.grownBy w' A.vr.ownBlock)
    (hr : w'.ownsRow rb 3 1 v' (r.room.length + 1) (r.room.map (fun n => .int .i64 n) ++ [.int .i64 n])) : RunN T a1 a2 a3 a4 c1 c2 c3 c4 p p1 p2 d1 d2 rb w3 (w'.setCell ⟨rb, 9, none⟩ v') { r with room := r.room ++ [n] } := by
  have hB : rb ≤ w6.heap.size := h.le
  refine ⟨⟨{ A with vr := v' }, h1, h2, h3, ?_⟩, below_cell (below_of_grown hb hB hg (fun q e => (h.rowr.lt q e).1)) (Nat.le_refl _) 9 v'⟩
  subst h1
  exact h.addR n hg hr
theorem RunN.addP {T : Town} {a1 a2 a3 a4 : Option Addr} {c1 c2 c3 c4 : Nat} {p : Plan} {p1 p2 : Option Addr} {d1 d2 : Nat} {rb : Nat} {w3 w6 w' : World} {A : RA} {r : RunS} (h : RunM T a1 a2 a3 a4 c1 c2 c3 c4 p p1 p2 d1 d2 rb A w6 r 0 none) (h1 : A.rb = rb) (h2 : A.k = 61) (h3 : A.lb = #[]) (hb : Below rb w3 w6) (x : Party) {q : Nat} {ha : Option Addr} {hc : Nat} (hq : w6.heap[q]? = some (.cells (partyCells x ha hc) 168 (0, 0)))
    (hsl : Sl HopE 2 rb w6 ha x.hops) (hBq : rb ≤ q) (hnew : ∀ i, i < r.parties.length → A.pb i ≠ q) {v' : Value} (hg : w6.grownBy w' A.vp.ownBlock)
    (hr : w'.ownsRow rb 162 1 v' (r.parties.length + 1) ((List.range r.parties.length).map (fun i => ptrV (A.pb i)) ++ [ptrV q])) : RunN T a1 a2 a3 a4 c1 c2 c3 c4 p p1 p2 d1 d2 rb w3 (w'.setCell ⟨rb, 7, none⟩ v') { r with parties := r.parties ++ [x] } := by
  have hB : rb ≤ w6.heap.size := h.le
  refine ⟨⟨{ A with vp := v', pb := fun i => if i = r.parties.length then q else A.pb i }, h1, h2, h3, ?_⟩, below_cell (below_of_grown hb hB hg (fun q e => (h.rowp.lt q e).1)) (Nat.le_refl _) 7 v'⟩
  subst h1
  exact h.addP x hq hsl hBq hnew hg hr
theorem RunN.addW {T : Town} {a1 a2 a3 a4 : Option Addr} {c1 c2 c3 c4 : Nat} {p : Plan} {p1 p2 : Option Addr} {d1 d2 : Nat} {rb : Nat} {w3 w6 w' : World} {A : RA} {r : RunS} (h : RunM T a1 a2 a3 a4 c1 c2 c3 c4 p p1 p2 d1 d2 rb A w6 r 0 none) (h1 : A.rb = rb) (h2 : A.k = 61) (h3 : A.lb = #[]) (hb : Below rb w3 w6) (x : Wait) {q : Nat} (hq : w6.heap[q]? = some (.cells (waitCells x) 172 (0, 0)))
    (hBq : rb ≤ q) (hnew : ∀ i, i < r.waits.length → A.wb i ≠ q) {v' : Value} (hg : w6.grownBy w' A.vw.ownBlock)
    (hr : w'.ownsRow rb 170 1 v' (r.waits.length + 1) ((List.range r.waits.length).map (fun i => ptrV (A.wb i)) ++ [ptrV q])) : RunN T a1 a2 a3 a4 c1 c2 c3 c4 p p1 p2 d1 d2 rb w3 (w'.setCell ⟨rb, 8, none⟩ v') { r with waits := r.waits ++ [x] } := by
  have hB : rb ≤ w6.heap.size := h.le
  refine ⟨⟨{ A with vw := v', wb := fun i => if i = r.waits.length then q else A.wb i }, h1, h2, h3, ?_⟩, below_cell (below_of_grown hb hB hg (fun q e => (h.roww.lt q e).1)) (Nat.le_refl _) 8 v'⟩
  subst h1
  exact h.addW x hq hBq hnew hg hr

set_option maxHeartbeats 16000000 in
set_option maxRecDepth 100000 in
theorem begun_any (T : Town) (a1 a2 a3 a4 : Option Addr) (c1 c2 c3 c4 : Nat) (p : Plan) (p1 p2 : Option Addr) (d1 d2 : Nat) (c : Case) (l1 l2 l3 l4 : Option Addr) (e1 e2 e3 e4 : Nat) (w : World) (hT : TownM w.heap.size w a1 a2 a3 a4 T) (hP : PlanM w.heap.size w p1 p2 p) (hC : CaseM w.heap.size w l1 l2 l3 l4 c) :
    Calls Try.prog 32 #[.agg #[.int .i64 T.steps, .slice a1 T.places.length c1, .slice a2 T.ways.length c2, .slice a3 T.groups.length c3, .slice a4 T.vehicles.length c4], .agg #[.slice p1 p.trips.length d1, .slice p2 p.rides.length d2], .agg #[.slice l1 c.late.length e1, .slice l2 c.absent.length e2, .slice l3 c.rides.length e3, .slice l4 c.broken.length e4]] w (BgPost T a1 a2 a3 a4 c1 c2 c3 c4 p p1 p2 d1 d2 c w) := by
  have hV : ∀ W, Below w.heap.size w W → Calls Try.prog 10 #[.agg #[.int .i64 T.steps, .slice a1 T.places.length c1, .slice a2 T.ways.length c2, .slice a3 T.groups.length c3, .slice a4 T.vehicles.length c4], .agg #[.slice p1 p.trips.length d1, .slice p2 p.rides.length d2]] W fun e w' => e = .returned (.int .i64 (verifyT T p)) ∧ Below W.heap.size W w' := fun W hW => verify_any T _ _ _ _ _ _ _ _ p _ _ _ _ w.heap.size W (hT.below hW) (hP.below hW) hW.size
  have hK : ∀ W, Below w.heap.size w W → Calls Try.prog 60 #[.agg #[.slice l1 c.late.length e1, .slice l2 c.absent.length e2, .slice l3 c.rides.length e3, .slice l4 c.broken.length e4], .agg #[.slice p1 p.trips.length d1, .slice p2 p.rides.length d2]] W fun e w' => e = .returned (.int .i64 (caseErr p c)) ∧ Below W.heap.size W w' :=
    fun W hW => ccheck_any p _ _ _ _ c l1 l2 l3 l4 e1 e2 e3 e4 w.heap.size W (hP.below hW) (hC.below hW) hW.size
  obtain ⟨ev, hev⟩ : ∃ v, verifyT T p = v := ⟨_, rfl⟩
  obtain ⟨ec, hec⟩ : ∃ v, caseErr p c = v := ⟨_, rfl⟩
  rw [hev] at hV
  rw [hec] at hK
  have HhV := Lib.hid hV; clear hV; have HhK := Lib.hid hK; clear hK; have HhT := Lib.hid hT; clear hT; have HhP := Lib.hid hP; clear hP; have HhC := Lib.hid hC; clear hC; have Hhev := Lib.hid hev; clear hev; have Hhec := Lib.hid hec; clear hec
  go_enter Try.func32, Try.ntmps32
  obtain ⟨v1, hv1⟩ : ∃ v, (ev != 0) = v := ⟨_, rfl⟩
  cases v1
  rotate_left
  · have hne : ev ≠ 0 := by simpa using hv1
    go_wp2_with (go_at_call 10; refine (HhV.out _ (by repeat (first | exact Below.refl _ _ | (refine bl_setCell ?_ _ _ ?_; rotate_left; focus (first | omega | (simp; done) | (simp; omega))) | refine bl_alloc ?_ _ | refine bl_step ?_ (by assumption) | refine bl_drew ?_ | refine bl_drewN ?_ _))).mono ?_; rintro e w1 ⟨rfl, hb1⟩)
    go_ret2
    exact ⟨(by repeat (first | exact Below.refl _ _ | (refine bl_setCell ?_ _ _ ?_; rotate_left; focus (first | omega | (simp; done) | (simp; omega))) | refine bl_alloc ?_ _ | refine bl_step ?_ (by assumption) | refine bl_drew ?_ | refine bl_drewN ?_ _)), .inl (by unfold begunErr; rw [Hhev.out, if_neg hne]; exact ⟨hne, rfl⟩)⟩
  have hv0 : ev = 0 := by simpa using hv1
  obtain ⟨v2, hv2⟩ : ∃ v, (ec != 0) = v := ⟨_, rfl⟩
  cases v2
  rotate_left
  · have hne : ec ≠ 0 := by simpa using hv2
    go_wp2_with (first | (go_at_call 10; refine (HhV.out _ (by repeat (first | exact Below.refl _ _ | (refine bl_setCell ?_ _ _ ?_; rotate_left; focus (first | omega | (simp; done) | (simp; omega))) | refine bl_alloc ?_ _ | refine bl_step ?_ (by assumption) | refine bl_drew ?_ | refine bl_drewN ?_ _))).mono ?_; rintro e w1 ⟨rfl, hb1⟩; obtain ⟨_, _, _⟩ := bk (w.heap.size) hb1 (by (first | omega | (simp; done) | (simp; omega))); obtain ⟨_, _, _⟩ := bk (w.heap.size + 1) hb1 (by (first | omega | (simp; done) | (simp; omega))); obtain ⟨_, _, _⟩ := bk (w.heap.size + 1 + 1) hb1 (by (first | omega | (simp; done) | (simp; omega))); have hzhb1 := bsz hb1; (try simp only [World.size_alloc] at hzhb1)) | (go_at_call 60; refine (HhK.out _ (by repeat (first | exact Below.refl _ _ | (refine bl_setCell ?_ _ _ ?_; rotate_left; focus (first | omega | (simp; done) | (simp; omega))) | refine bl_alloc ?_ _ | refine bl_step ?_ (by assumption) | refine bl_drew ?_ | refine bl_drewN ?_ _))).mono ?_; rintro e w2 ⟨rfl, hb2⟩))
    go_ret2
    exact ⟨(by repeat (first | exact Below.refl _ _ | (refine bl_setCell ?_ _ _ ?_; rotate_left; focus (first | omega | (simp; done) | (simp; omega))) | refine bl_alloc ?_ _ | refine bl_step ?_ (by assumption) | refine bl_drew ?_ | refine bl_drewN ?_ _)), .inl (by unfold begunErr; rw [Hhev.out, if_pos hv0, Hhec.out]; exact ⟨hne, rfl⟩)⟩
  have hv0' : ec = 0 := by simpa using hv2
  go_upto_region 8 with (first | (go_at_call 10; refine (HhV.out _ (by repeat (first | exact Below.refl _ _ | (refine bl_setCell ?_ _ _ ?_; rotate_left; focus (first | omega | (simp; done) | (simp; omega))) | refine bl_alloc ?_ _ | refine bl_step ?_ (by assumption) | refine bl_drew ?_ | refine bl_drewN ?_ _))).mono ?_; rintro e w1 ⟨rfl, hb1⟩; obtain ⟨_, _, _⟩ := bk (w.heap.size) hb1 (by (first | omega | (simp; done) | (simp; omega))); obtain ⟨_, _, _⟩ := bk (w.heap.size + 1) hb1 (by (first | omega | (simp; done) | (simp; omega))); obtain ⟨_, _, _⟩ := bk (w.heap.size + 1 + 1) hb1 (by (first | omega | (simp; done) | (simp; omega))); have hzhb1 := bsz hb1; (try simp only [World.size_alloc] at hzhb1)) | (go_at_call 60; refine (HhK.out _ (by repeat (first | exact Below.refl _ _ | (refine bl_setCell ?_ _ _ ?_; rotate_left; focus (first | omega | (simp; done) | (simp; omega))) | refine bl_alloc ?_ _ | refine bl_step ?_ (by assumption) | refine bl_drew ?_ | refine bl_drewN ?_ _))).mono ?_; rintro e w2 ⟨rfl, hb2⟩; obtain ⟨_, _, _⟩ := bk (w.heap.size) hb2 (by (first | omega | (simp; done) | (simp; omega))); obtain ⟨_, _, _⟩ := bk (w.heap.size + 1) hb2 (by (first | omega | (simp; done) | (simp; omega))); obtain ⟨_, _, _⟩ := bk (w.heap.size + 1 + 1) hb2 (by (first | omega | (simp; done) | (simp; omega))); have hzhb2 := bsz hb2; (try simp only [World.size_alloc] at hzhb2)))
  have hG : TownG T := (verifyT_zero (Hhev.out.trans hv0)).1
  have hPG : PlanG T p := (verifyT_zero (Hhev.out.trans hv0)).2
  have hCG : CaseG p c := caseErr_zero (Hhec.out.trans hv0')
  have hwz : w.heap.size + 3 ≤ w2.heap.size := by have h1 := hb1.size; have h2 := hb2.size; simp only [World.size_alloc] at h1; omega
  have y3 : w2.heap[w.heap.size]? = some (.cells (townBox T a1 a2 a3 a4 c1 c2 c3 c4) 27 (0, 0)) := heap_below hb2 (heap_below hb1 (by unfold townBox; repeat (first | with_reducible assumption | (with_reducible refine heap_alloc_at' _ _ ?_; focus (simp; done)) | with_reducible refine heap_alloc_off ?_ _ | (with_reducible refine heap_setCell_off ?_ _ ?_; rotate_left; focus omega) | with_reducible refine heap_drew' ?_ | with_reducible refine heap_drewN' ?_ | with_reducible refine heap_below (by with_reducible assumption) ?_)))
  have y4 : w2.heap[w.heap.size + 1]? = some (.cells (planBox p p1 p2 d1 d2) 31 (0, 0)) := heap_below hb2 (heap_below hb1 (by unfold planBox; repeat (first | with_reducible assumption | (with_reducible refine heap_alloc_at' _ _ ?_; focus (simp; done)) | with_reducible refine heap_alloc_off ?_ _ | (with_reducible refine heap_setCell_off ?_ _ ?_; rotate_left; focus omega) | with_reducible refine heap_drew' ?_ | with_reducible refine heap_drewN' ?_ | with_reducible refine heap_below (by with_reducible assumption) ?_)))
  have y5 : w2.heap[w.heap.size + 1 + 1]? = some (.cells (caseBox c l1 l2 l3 l4 e1 e2 e3 e4) 62 (0, 0)) := heap_below hb2 (heap_below hb1 (by unfold caseBox; repeat (first | with_reducible assumption | (with_reducible refine heap_alloc_at' _ _ ?_; focus (simp; done)) | with_reducible refine heap_alloc_off ?_ _ | (with_reducible refine heap_setCell_off ?_ _ ?_; rotate_left; focus omega) | with_reducible refine heap_drew' ?_ | with_reducible refine heap_drewN' ?_ | with_reducible refine heap_below (by with_reducible assumption) ?_)))
  have hbw2 : Below w.heap.size w w2 := (by repeat (first | exact Below.refl _ _ | (refine bl_setCell ?_ _ _ ?_; rotate_left; focus (first | omega | (simp; done) | (simp; omega))) | refine bl_alloc ?_ _ | refine bl_step ?_ (by assumption) | refine bl_drew ?_ | refine bl_drewN ?_ _))
  obtain ⟨w3, hw3⟩ : ∃ W, w2.alloc (.cells (runCells T a1 a2 a3 a4 c1 c2 c3 c4 p p1 p2 d1 d2 (RA.new w2.heap.size) none 0) 161) = W := ⟨_, rfl⟩
  obtain ⟨rb, hrb⟩ : ∃ q, w2.heap.size = q := ⟨_, rfl⟩
  have hbw3 : Below w2.heap.size w2 w3 := by rw [← hw3]; exact bl_alloc (Below.refl _ _) _
  have hr3 : RunM T a1 a2 a3 a4 c1 c2 c3 c4 p p1 p2 d1 d2 rb (RA.new rb) w3 ⟨[], [], [], [], []⟩ 0 none := by
    have hb3 : Below w.heap.size w w3 := bl_step hbw2 hbw3
    refine RunM.new ((HhT.out.below hb3).mono (by omega)) ((HhP.out.below hb3).mono (by omega)) ?_
    rw [← hrb, ← hw3]
    exact heap_alloc_at _ _
  have hC3 : CaseM rb w3 l1 l2 l3 l4 c := (HhC.out.below (bl_step hbw2 hbw3)).mono (by omega)
  replace y3 := heap_below hbw3 y3
  replace y4 := heap_below hbw3 y4
  replace y5 := heap_below hbw3 y5
  have hbw : Below w.heap.size w w3 := bl_step hbw2 hbw3
  simp only [runCells, RA.new] at hw3
  rw [hw3]
  rw [hrb]
  rw [hrb] at hwz
  clear hw3 hrb hb1 hb2 hbw3 hbw2 HhV HhK HhT HhP HhC
  obtain ⟨q3, hq3⟩ : ∃ q, w.heap.size = q := ⟨_, rfl⟩
  rw [hq3] at y3 y4 y5 hwz ⊢
  have hlp := hr3.town.places.1
  have hlt := hr3.plan.trips.1
  have hlr := hr3.plan.rides.1
  have hsz3 : rb < w3.heap.size := lt_of_heap hr3.blk
  have z3 := cells_of y3
  simp only [townBox] at z3
  have z3l := lt_of_heap y3
  have hN3 : RunN T a1 a2 a3 a4 c1 c2 c3 c4 p p1 p2 d1 d2 rb w3 w3 ⟨[], [], [], [], []⟩ := ⟨⟨_, rfl, rfl, rfl, hr3⟩, Below.refl _ _⟩
  have hq3rb : q3 + 2 < rb := by omega
  have hnp64 : T.places.length ≤ 64 := by have := hG.np.2; omega
  have Hhr3 := Lib.hid hr3; clear hr3; have HhC3 := Lib.hid hC3; clear hC3; have Hy3 := Lib.hid y3; clear y3; have Hy4 := Lib.hid y4; clear y4; have Hy5 := Lib.hid y5; clear y5; have Hhbw := Lib.hid hbw; clear hbw; have HhG := Lib.hid hG; clear hG; have HhPG := Lib.hid hPG; clear hPG; have HhCG := Lib.hid hCG; clear hCG; have HhN3 := Lib.hid hN3; clear hN3; have Hhq3 := Lib.hid hq3; clear hq3
  go_wp2_with fail
  go_loopw [42] (fun i W => ∃ k : Nat, k ≤ T.places.length ∧ i = .int .i64 k ∧ RunN T a1 a2 a3 a4 c1 c2 c3 c4 p p1 p2 d1 d2 rb w3 W ⟨[], [], (T.places.take k).map Place.room, [], []⟩) (fun i _ => T.places.length - (intOf i).toNat)
  case atStart => exact ⟨0, Nat.zero_le _, rfl, by simpa using HhN3.out⟩
  case round =>
    obtain ⟨k, hk, rfl, ⟨A, hA1, hA2, hA3, hrk⟩, hbk⟩ := hrel
    by_cases hltk : k < T.places.length
    · as_aux_lemma =>
      obtain ⟨b, off, ha1, hbb, hpl⟩ := hrk.town.places.2 k hltk
      subst ha1
      have hblk := hrk.blk
      rw [hA1] at hblk
      have hwac := cells_of hblk
      have hwaf := frozen_of hblk
      have hwal := lt_of_heap hblk
      simp only [runCells] at hwac
      have hbw3 : b < wr.heap.size := by omega
      obtain ⟨pl, hplq⟩ : ∃ q, T.places[k] = q := ⟨_, rfl⟩
      rw [hplq] at hpl
      obtain ⟨f0, f1, f2⟩ := hpl
      clear z3 z3l
      have Hhrk := Lib.hid hrk; clear hrk; have Hhblk := Lib.hid hblk; clear hblk; have Hhbk := Lib.hid hbk; clear hbk; have Hhplq := Lib.hid hplq; clear hplq; have HhA1 := Lib.hid hA1; clear hA1; have HhA2 := Lib.hid hA2; clear hA2; have HhA3 := Lib.hid hA3; clear hA3
      go_upto_region 11 with fail
      obtain ⟨q12, hq12⟩ : ∃ q, wr.heap.size = q := ⟨_, rfl⟩
      obtain ⟨w5, hw5⟩ : ∃ W, wr.alloc (.cells #[.int .i64 pl.room, .int .i64 pl.door, .int .i64 pl.till] 74) = W := ⟨_, rfl⟩
      have x12 : w5.heap[q12]? = some (.cells #[.int .i64 pl.room, .int .i64 pl.door, .int .i64 pl.till] 74 (0, 0)) := by rw [← hw5, ← hq12]; exact heap_alloc_at _ _
      have hb5 : Below wr.heap.size wr w5 := by rw [← hw5]; exact bl_alloc (Below.refl _ _) _
      have hblk5 := heap_below hb5 Hhblk.out
      have hr5 := Hhrk.out.below hb5
      have hle5 := hr5.le
      rw [hw5, hq12]
      clear hw5 hwac hwaf hwal
      have hwac := cells_of hblk5
      have hwal := lt_of_heap hblk5
      simp only [runCells] at hwac
      have c12 := cells_of x12
      have l12 := lt_of_heap x12
      have hI5 : SameAt [rb, q12] w5 w5.drew := SameAt.refl _ _
      obtain ⟨wn, hwn⟩ : ∃ n, w5.heap.size = n := ⟨_, rfl⟩
      obtain ⟨w6, hw6⟩ : ∃ W, (w5.alloc (.cells #[.int .i64 pl.room] 3)).drew = W := ⟨_, rfl⟩
      have x6 : w6.heap[wn]? = some (.cells #[.int .i64 pl.room] 3 (0, 0)) := by rw [← hw6, ← hwn]; exact heap_drew' (heap_alloc_at _ _)
      have hb6 : Below w5.heap.size w5 w6 := by rw [← hw6]; exact bl_drew (bl_alloc (Below.refl _ _) _)
      have hI6 : SameAt [rb, q12] w5 w6 := fun b hb => hb6.block b (by simp only [List.mem_cons, List.not_mem_nil, or_false] at hb; rcases hb with rfl | rfl <;> assumption)
      have hr6 := hr5.below hb6
      have hrow6 := hr6.rowr
      have hle6 := hr6.le
      have hbr6 : Below rb w3 w6 := (Hhbk.out.trans (hb5.mono Hhrk.out.le)).trans (hb6.mono hle5)
      have Hx12 := Lib.hid x12; clear x12; have Hhb5 := Lib.hid hb5; clear hb5; have Hhblk5 := Lib.hid hblk5; clear hblk5; have Hhr5 := Lib.hid hr5; clear hr5; have Hhb6 := Lib.hid hb6; clear hb6; have Hhr6 := Lib.hid hr6; clear hr6; have Hhrow6 := Lib.hid hrow6; clear hrow6; have Hhbr6 := Lib.hid hbr6; clear hbr6; have Hx6 := Lib.hid x6; clear x6
      refine wp_region_ord (SameAt [rb, q12] w5) [([0, 1, 2, 3, 4, 5, 6], 7), ([], 8)] [9, 10] (some 11) (by kernel_rfl) (by kernel_rfl) hI5 ?_
      refine OrdI_cons ?_
      (apply StI_plain (w0 := w5.drew) hI5 rfl rfl rfl rfl; (focus (intro W hW K hK; have cc1 := hW.cell (b := rb) (by simp); have cc2 := hW.cell (b := q12) (by simp); go_step; exact hK)); (focus rfl)); (apply StI_plain (w0 := w5.drew) hI5 rfl rfl rfl rfl; (focus (intro W hW K hK; have cc1 := hW.cell (b := rb) (by simp); have cc2 := hW.cell (b := q12) (by simp); go_step; exact hK)); (focus rfl)); (apply StI_plain (w0 := w5.drew) hI5 rfl rfl rfl rfl; (focus (intro W hW K hK; have cc1 := hW.cell (b := rb) (by simp); have cc2 := hW.cell (b := q12) (by simp); go_step; exact hK)); (focus rfl)); (apply StI_plain (w0 := w5.drew) hI5 rfl rfl rfl rfl; (focus (intro W hW K hK; have cc1 := hW.cell (b := rb) (by simp); have cc2 := hW.cell (b := q12) (by simp); go_step; exact hK)); (focus rfl)); (apply StI_plain (w0 := w5.drew) hI5 rfl rfl rfl rfl; (focus (intro W hW K hK; have cc1 := hW.cell (b := rb) (by simp); have cc2 := hW.cell (b := q12) (by simp); go_step; exact hK)); (focus rfl)); (apply StI_plain (w0 := w5.drew) hI5 rfl rfl rfl rfl; (focus (intro W hW K hK; have cc1 := hW.cell (b := rb) (by simp); have cc2 := hW.cell (b := q12) (by simp); go_step; exact hK)); (focus rfl)); (apply StI_plain (w0 := w5.drew) hI5 rfl rfl rfl rfl; (focus (intro W hW K hK; have cc1 := hW.cell (b := rb) (by simp); have cc2 := hW.cell (b := q12) (by simp); go_step; exact hK)); (focus rfl))
      (apply StI_eff rfl; go_wp2_with fail)
      (try rw [hw6]); (try rw [hwn])
      refine onNormal_mk hI6 (OrdI_cons ?_)
      (apply StI_eff rfl; refine append_one rfl (.tmp 50) (.tmp 53) 59 3 (.int .i64 0) rfl infoInt Try.underlying59 rfl rb A.vr _ _ rfl Hhrow6.out wn 1 (.int .i64 pl.room) rfl Hx6.out rfl (by simp; omega) hle6 ?_; intro g7 cap7 w7 hown hg; go_wp2_with fail)
      have hI7 : SameAt [rb, q12] w5 w7 := hI6.grown (fun b hb => by simp only [List.mem_cons, List.not_mem_nil, or_false] at hb; have := Hhb6.out.size; rcases hb with rfl | rfl <;> omega) hg (fun b hb e => by
        simp only [List.mem_cons, List.not_mem_nil, or_false] at hb
        rcases hb with rfl | rfl
        · exact row_ne Hhrow6.out (heap_below Hhb6.out Hhblk5.out) (by decide) e.symm
        · exact row_ne Hhrow6.out (heap_below Hhb6.out Hx12.out) (by decide) e.symm)
      have hblk7 : w7.heap[rb]? = _ := (hI7 rb (by simp)).trans Hhblk5.out
      have hfin := RunN.addR Hhr6.out HhA1.out HhA2.out HhA3.out Hhbr6.out pl.room hg hown
      have hkl : ((T.places.take k).map Place.room).length = k := by simp; omega
      simp only [hkl] at hfin
      clear hwac hwal c12
      have hwac := cells_of hblk7
      have hwaf := frozen_of hblk7
      have hwal := lt_of_heap hblk7
      simp only [runCells] at hwac
      have Hhfin := Lib.hid hfin; clear hfin; have Hhblk7 := Lib.hid hblk7; clear hblk7; have Hhg := Lib.hid hg; clear hg; have Hhown := Lib.hid hown; clear hown
      refine onNormal_mk hI7 (OrdI_snk ?_)
      (apply StI_plain (w0 := w7) hI7 rfl rfl rfl rfl; (focus (intro W hW K hK; skip; go_step; exact hK)); (focus rfl)); (apply StI_plain (w0 := w7) hI7 rfl rfl rfl rfl; (focus (intro W hW K hK; skip; go_step; exact hK)); (focus rfl))
      (apply StI_eff rfl; go_wp2_with fail)
      refine onNormal_last ?_
      go_wp2_with fail
      go_roundw
      case rel => exact ⟨k + 1, by omega, by go_num, by rw [List.take_succ_eq_append_getElem hltk, List.map_append, Hhplq.out]; exact Hhfin.out⟩
      case measure => simp [intOf]; omega
    · obtain rfl : k = T.places.length := by omega
      as_aux_lemma =>
      rw [List.take_length] at hrk
      have hNA : RunN T a1 a2 a3 a4 c1 c2 c3 c4 p p1 p2 d1 d2 rb w3 wr ⟨[], [], T.places.map Place.room, [], []⟩ := ⟨⟨A, hA1, hA2, hA3, hrk⟩, hbk⟩
      have u4 := (hbk.block (q3 + 1) (by omega)).trans Hy4.out
      have z4 := cells_of u4
      simp only [planBox] at z4
      have z4l := lt_of_heap u4
      clear z3 z3l hrk hA1 hA2 hA3 hbk
      have HhNA := Lib.hid hNA; clear hNA; have Hu4 := Lib.hid u4; clear u4
      go_wp2_with fail
      clear z4 z4l
      go_loopw [61] (fun i W => ∃ k : Nat, k ≤ p.trips.length ∧ i = .int .i64 k ∧ RunN T a1 a2 a3 a4 c1 c2 c3 c4 p p1 p2 d1 d2 rb w3 W ⟨tripParties T c (p.trips.take k), [], T.places.map Place.room, [], []⟩) (fun i _ => p.trips.length - (intOf i).toNat)
      case atStart => exact ⟨0, Nat.zero_le _, rfl, by simpa [tripParties] using HhNA.out⟩
      case round =>
        obtain ⟨k, hk, rfl, ⟨A, hA1, hA2, hA3, hrk⟩, hbk⟩ := hrel
        by_cases hltk : k < p.trips.length
        · as_aux_lemma =>
          obtain ⟨b, off, hp1, hbb, ah, ch, f0, f1, f2, f3, hsl⟩ := hrk.plan.trips.2 k hltk
          have htg := HhPG.out.trips _ (List.getElem_mem hltk)
          obtain ⟨x, hxq⟩ : ∃ q, p.trips[k] = q := ⟨_, rfl⟩
          rw [hxq] at f0 f1 f2 f3 hsl htg
          have hgr := htg.group
          have hcnt := htg.count
          obtain ⟨bg, offg, ha3, hbg, g0, g1, g2⟩ := hrk.town.groups.at hgr.1 hgr.2 ⟨0, 0, 0⟩
          have hlg := hrk.town.groups.1
          subst hp1
          subst ha3
          obtain ⟨gr, hgrq⟩ : ∃ q, T.groups.getD x.group.toNat ⟨0, 0, 0⟩ = q := ⟨_, rfl⟩
          rw [hgrq] at g0 g1 g2
          have hblk := hrk.blk
          rw [hA1] at hblk
          have hwal := lt_of_heap hblk
          have hbw3 : b < wr.heap.size := by omega
          have hbw4 : bg < wr.heap.size := by omega
          have u3 := (hbk.block q3 (by omega)).trans Hy3.out
          have z3 := cells_of u3
          simp only [townBox] at z3
          have z3l := lt_of_heap u3
          have Hhrk := Lib.hid hrk; clear hrk; have Hhblk := Lib.hid hblk; clear hblk; have Hhbk := Lib.hid hbk; clear hbk; have Hhxq := Lib.hid hxq; clear hxq; have Hhgrq := Lib.hid hgrq; clear hgrq; have HhA1 := Lib.hid hA1; clear hA1; have HhA2 := Lib.hid hA2; clear hA2; have HhA3 := Lib.hid hA3; clear hA3; have Hhsl := Lib.hid hsl; clear hsl; have Hu3 := Lib.hid u3; clear u3; have Hhtg := Lib.hid htg; clear htg
          go_upto_region 17 with fail
          obtain ⟨q14, hq14⟩ : ∃ q, wr.heap.size = q := ⟨_, rfl⟩
          obtain ⟨w5, hw5⟩ : ∃ W, (wr.alloc (.cells #[.int .i64 x.group, .int .i64 x.count, .slice ah x.hops.length (x.hops.length + ch), .int .i64 x.enter] 41)).alloc (.cells #[.int .i64 gr.place, .int .i64 gr.cls, .int .i64 gr.count] 43) = W := ⟨_, rfl⟩
          have x14 : w5.heap[q14]? = some (.cells #[.int .i64 x.group, .int .i64 x.count, .slice ah x.hops.length (x.hops.length + ch), .int .i64 x.enter] 41 (0, 0)) := by rw [← hw5, ← hq14]; exact heap_alloc_off (heap_alloc_at _ _) _
          have x15 : w5.heap[q14 + 1]? = some (.cells #[.int .i64 gr.place, .int .i64 gr.cls, .int .i64 gr.count] 43 (0, 0)) := by rw [← hw5, ← hq14]; exact heap_alloc_at' _ _ (by simp)
          have hb5 : Below wr.heap.size wr w5 := by rw [← hw5]; exact bl_alloc (bl_alloc (Below.refl _ _) _) _
          rw [hw5, hq14]
          clear hw5 z3 z3l f0 f1 f2 f3 g0 g1 g2
          have hblk5 := heap_below hb5 Hhblk.out
          have hr5 := Hhrk.out.below hb5
          have hle5 := hr5.le
          have hC5 := (HhC3.out.below Hhbk.out).below (hb5.mono Hhrk.out.le)
          have u5 : w5.heap[q3 + 1 + 1]? = some (.cells (caseBox c l1 l2 l3 l4 e1 e2 e3 e4) 62 (0, 0)) := heap_below hb5 ((Hhbk.out.block (q3 + 1 + 1) (by omega)).trans Hy5.out)
          have hsl5 := Hhsl.out.below (ek_hop rb) (hb5.mono Hhrk.out.le)
          have hbr5 : Below rb w3 w5 := Hhbk.out.trans (hb5.mono Hhrk.out.le)
          obtain ⟨lt, hlt1⟩ : ∃ v, c.late.getD k 0 = v := ⟨_, rfl⟩
          obtain ⟨ab, hab⟩ : ∃ v, c.absent.getD k 0 = v := ⟨_, rfl⟩
          have habs : 0 ≤ ab ∧ ab ≤ x.count := by
            rw [← hab]
            by_cases h : k < c.absent.length
            · have h1 := HhCG.out.absent k h
              rw [List.getD_eq_getElem?_getD, List.getElem?_eq_getElem hltk] at h1
              rw [List.getD_eq_getElem?_getD, List.getElem?_eq_getElem h]
              have h2 : (some p.trips[k]).getD (⟨0, 0, [], 0⟩ : Trip) = x := Hhxq.out
              rw [h2] at h1
              exact h1
            · rw [List.getD_eq_getElem?_getD, List.getElem?_eq_none (by omega)]
              exact ⟨Int.le_refl 0, by show (0 : Int) ≤ x.count; omega⟩
          have hAt1 : ∀ W, Below w5.heap.size w5 W → Calls Try.prog 62 #[.slice l1 c.late.length e1, .int .i64 k] W fun e w' => e = .returned (.int .i64 lt) ∧ Below W.heap.size W w' := fun W hW => by
            rw [← hlt1]
            exact atI_any c.late l1 e1 rb k W (Nat.le_trans hle5 hW.size) (hC5.below (hW.mono hle5)).late
          have hAt2 : ∀ W, Below w5.heap.size w5 W → Calls Try.prog 62 #[.slice l2 c.absent.length e2, .int .i64 k] W fun e w' => e = .returned (.int .i64 ab) ∧ Below W.heap.size W w' := fun W hW => by
            rw [← hab]
            exact atI_any c.absent l2 e2 rb k W (Nat.le_trans hle5 hW.size) (hC5.below (hW.mono hle5)).absent
          have c14 := cells_of x14
          have l14 := lt_of_heap x14
          have c15 := cells_of x15
          have l15 := lt_of_heap x15
          have c5 := cells_of u5
          have l5 := lt_of_heap u5
          simp only [caseBox] at c5
          have hI : Below w5.heap.size w5 w5.drew := (Below.refl _ _).drew
          have hnk : (k : Int) ≤ 4096 := by have := HhPG.out.nt; omega
          clear hwal
          have Hx14 := Lib.hid x14; clear x14; have Hx15 := Lib.hid x15; clear x15; have Hhb5 := Lib.hid hb5; clear hb5; have Hhblk5 := Lib.hid hblk5; clear hblk5; have Hhr5 := Lib.hid hr5; clear hr5; have HhC5 := Lib.hid hC5; clear hC5; have Hu5 := Lib.hid u5; clear u5; have Hhsl5 := Lib.hid hsl5; clear hsl5; have Hhbr5 := Lib.hid hbr5; clear hbr5; have Hhlt1 := Lib.hid hlt1; clear hlt1; have Hhab := Lib.hid hab; clear hab; have HhAt1 := Lib.hid hAt1; clear hAt1; have HhAt2 := Lib.hid hAt2; clear hAt2
          refine wp_region_ord (fun W => Below w5.heap.size w5 W) [([0, 1, 2, 3, 4, 5, 6, 8, 9, 11, 12, 13, 14, 15, 16, 17, 18], 7), ([10], 19), ([20, 21], 22)] [23] none (by kernel_rfl) (by kernel_rfl) hI ?_
          refine OrdI_cons ?_
          (apply StI_plain (w0 := w5.drew) hI rfl rfl rfl rfl; (focus (intro W hW K hK; obtain ⟨_, _, _⟩ := bk q14 hW l14; obtain ⟨_, _, _⟩ := bk (q14 + 1) hW l15; obtain ⟨_, _, _⟩ := bk (q3 + 1 + 1) hW l5; go_step; exact hK)); (focus rfl)); (apply StI_plain (w0 := w5.drew) hI rfl rfl rfl rfl; (focus (intro W hW K hK; obtain ⟨_, _, _⟩ := bk q14 hW l14; obtain ⟨_, _, _⟩ := bk (q14 + 1) hW l15; obtain ⟨_, _, _⟩ := bk (q3 + 1 + 1) hW l5; go_step; exact hK)); (focus rfl)); (apply StI_plain (w0 := w5.drew) hI rfl rfl rfl rfl; (focus (intro W hW K hK; obtain ⟨_, _, _⟩ := bk q14 hW l14; obtain ⟨_, _, _⟩ := bk (q14 + 1) hW l15; obtain ⟨_, _, _⟩ := bk (q3 + 1 + 1) hW l5; go_step; exact hK)); (focus rfl)); (apply StI_plain (w0 := w5.drew) hI rfl rfl rfl rfl; (focus (intro W hW K hK; obtain ⟨_, _, _⟩ := bk q14 hW l14; obtain ⟨_, _, _⟩ := bk (q14 + 1) hW l15; obtain ⟨_, _, _⟩ := bk (q3 + 1 + 1) hW l5; go_step; exact hK)); (focus rfl)); (apply StI_plain (w0 := w5.drew) hI rfl rfl rfl rfl; (focus (intro W hW K hK; obtain ⟨_, _, _⟩ := bk q14 hW l14; obtain ⟨_, _, _⟩ := bk (q14 + 1) hW l15; obtain ⟨_, _, _⟩ := bk (q3 + 1 + 1) hW l5; go_step; exact hK)); (focus rfl)); (apply StI_plain (w0 := w5.drew) hI rfl rfl rfl rfl; (focus (intro W hW K hK; obtain ⟨_, _, _⟩ := bk q14 hW l14; obtain ⟨_, _, _⟩ := bk (q14 + 1) hW l15; obtain ⟨_, _, _⟩ := bk (q3 + 1 + 1) hW l5; go_step; exact hK)); (focus rfl)); (apply StI_plain (w0 := w5.drew) hI rfl rfl rfl rfl; (focus (intro W hW K hK; obtain ⟨_, _, _⟩ := bk q14 hW l14; obtain ⟨_, _, _⟩ := bk (q14 + 1) hW l15; obtain ⟨_, _, _⟩ := bk (q3 + 1 + 1) hW l5; go_step; exact hK)); (focus rfl)); (apply StI_plain (w0 := w5.drew) hI rfl rfl rfl rfl; (focus (intro W hW K hK; obtain ⟨_, _, _⟩ := bk q14 hW l14; obtain ⟨_, _, _⟩ := bk (q14 + 1) hW l15; obtain ⟨_, _, _⟩ := bk (q3 + 1 + 1) hW l5; go_step; exact hK)); (focus rfl)); (apply StI_plain (w0 := w5.drew) hI rfl rfl rfl rfl; (focus (intro W hW K hK; obtain ⟨_, _, _⟩ := bk q14 hW l14; obtain ⟨_, _, _⟩ := bk (q14 + 1) hW l15; obtain ⟨_, _, _⟩ := bk (q3 + 1 + 1) hW l5; go_step; exact hK)); (focus rfl)); (apply StI_plain (w0 := w5.drew) hI rfl rfl rfl rfl; (focus (intro W hW K hK; obtain ⟨_, _, _⟩ := bk q14 hW l14; obtain ⟨_, _, _⟩ := bk (q14 + 1) hW l15; obtain ⟨_, _, _⟩ := bk (q3 + 1 + 1) hW l5; go_step; exact hK)); (focus rfl)); (apply StI_plain (w0 := w5.drew) hI rfl rfl rfl rfl; (focus (intro W hW K hK; obtain ⟨_, _, _⟩ := bk q14 hW l14; obtain ⟨_, _, _⟩ := bk (q14 + 1) hW l15; obtain ⟨_, _, _⟩ := bk (q3 + 1 + 1) hW l5; go_step; exact hK)); (focus rfl)); (apply StI_plain (w0 := w5.drew) hI rfl rfl rfl rfl; (focus (intro W hW K hK; obtain ⟨_, _, _⟩ := bk q14 hW l14; obtain ⟨_, _, _⟩ := bk (q14 + 1) hW l15; obtain ⟨_, _, _⟩ := bk (q3 + 1 + 1) hW l5; go_step; exact hK)); (focus rfl)); (apply StI_plain (w0 := w5.drew) hI rfl rfl rfl rfl; (focus (intro W hW K hK; obtain ⟨_, _, _⟩ := bk q14 hW l14; obtain ⟨_, _, _⟩ := bk (q14 + 1) hW l15; obtain ⟨_, _, _⟩ := bk (q3 + 1 + 1) hW l5; go_step; exact hK)); (focus rfl)); (apply StI_plain (w0 := w5.drew) hI rfl rfl rfl rfl; (focus (intro W hW K hK; obtain ⟨_, _, _⟩ := bk q14 hW l14; obtain ⟨_, _, _⟩ := bk (q14 + 1) hW l15; obtain ⟨_, _, _⟩ := bk (q3 + 1 + 1) hW l5; go_step; exact hK)); (focus rfl)); (apply StI_plain (w0 := w5.drew) hI rfl rfl rfl rfl; (focus (intro W hW K hK; obtain ⟨_, _, _⟩ := bk q14 hW l14; obtain ⟨_, _, _⟩ := bk (q14 + 1) hW l15; obtain ⟨_, _, _⟩ := bk (q3 + 1 + 1) hW l5; go_step; exact hK)); (focus rfl)); (apply StI_plain (w0 := w5.drew) hI rfl rfl rfl rfl; (focus (intro W hW K hK; obtain ⟨_, _, _⟩ := bk q14 hW l14; obtain ⟨_, _, _⟩ := bk (q14 + 1) hW l15; obtain ⟨_, _, _⟩ := bk (q3 + 1 + 1) hW l5; go_step; exact hK)); (focus rfl)); (apply StI_plain (w0 := w5.drew) hI rfl rfl rfl rfl; (focus (intro W hW K hK; obtain ⟨_, _, _⟩ := bk q14 hW l14; obtain ⟨_, _, _⟩ := bk (q14 + 1) hW l15; obtain ⟨_, _, _⟩ := bk (q3 + 1 + 1) hW l5; go_step; exact hK)); (focus rfl))
          (apply StI_eff rfl; go_wp2_with (first | (go_at_call 62; refine (HhAt1.out _ hI).mono ?_; rintro e x1 ⟨rfl, hy1⟩)))
          have hI1 : Below w5.heap.size w5 x1 := below_on hI (Nat.le_refl _) hy1
          refine onNormal_mk hI1 (OrdI_cons ?_)
          (apply StI_plain (w0 := x1) hI1 rfl rfl rfl rfl; (focus (intro W hW K hK; skip; go_step; exact hK)); (focus rfl))
          (apply StI_eff rfl; go_wp2_with (first | (go_at_call 62; refine (HhAt2.out _ hI1).mono ?_; rintro e x2 ⟨rfl, hy2⟩)))
          have hI2 : Below w5.heap.size w5 x2 := below_on hI1 hI1.size hy2
          clear hI1 hy1 hy2
          refine onNormal_mk hI2 (OrdI_cons ?_)
          obtain ⟨n20, n21⟩ := habs
          obtain ⟨n22, n23⟩ := hcnt
          have nrange : -9223372036854775808 ≤ x.count - ab ∧ x.count - ab ≤ 9223372036854775807 := by omega
          (apply StI_plain (w0 := x2) hI2 rfl rfl rfl rfl; (focus (intro W hW K hK; skip; go_step; exact hK)); (focus rfl))
          apply StI_plain (w0 := x2) hI2 rfl rfl rfl rfl; (focus (intro W hW K hK; refine wp_op_build 168 _ rfl _ _ (build_trip ah x.hops.length (x.hops.length + ch) gr.cls lt gr.place 0 k (-1) x.enter 1 (x.count - ab)) rfl ?_; exact hK)); (focus rfl)
          obtain ⟨qp, hqp⟩ : ∃ n, x2.heap.size = n := ⟨_, rfl⟩
          obtain ⟨y0, hy0⟩ : ∃ q : Party, q = { hops := x.hops, cls := gr.cls, late := lt, place := gr.place, fin := 0, ride := false, index := k, vehicle := -1, enter := x.enter, broken := false, moved := false, state := 1, people := x.count - ab } := ⟨_, rfl⟩
          obtain ⟨x3, hx3⟩ : ∃ W, x2.alloc (.cells #[.slice ah x.hops.length (x.hops.length + ch), .int .i64 gr.cls, .int .i64 lt, .int .i64 gr.place, .int .i64 0, .bool false, .int .i64 k, .int .i64 (-1), .int .i64 x.enter, .bool false, .bool false, .int .i64 1, .int .i64 (x.count - ab)] 168) = W := ⟨_, rfl⟩
          have xp : x3.heap[qp]? = some (.cells (partyCells y0 ah ch) 168 (0, 0)) := by rw [← hx3, ← hqp, hy0]; exact heap_alloc_at _ _
          have hI3 : Below w5.heap.size w5 x3 := by rw [← hx3]; exact bl_alloc hI2 _
          have hqpl : w5.heap.size ≤ qp := by rw [← hqp]; exact hI2.size
          have htp : tripParty T c k x = if x.count - ab = 0 then { y0 with state := 0 } else y0 := by
            unfold tripParty Town.gr
            rw [hy0, Hhlt1.out, Hhab.out]
            have e : T.groups.getD x.group.toNat Group.z = gr := Hhgrq.out
            rw [e]
            split <;> rfl
          (apply StI_eff rfl; go_wp2_with fail)
          (try rw [hx3]); (try rw [hqp])
          refine onNormal_mk hI3 (OrdI_fin ?_)
          (apply StI_plain (w0 := x3) hI3 rfl rfl rfl rfl; (focus (intro W hW K hK; skip; go_step; exact hK)); (focus rfl))
          refine StI_nil ?_
          have xpc := cells_of xp
          have xpf := frozen_of xp
          have xpl := lt_of_heap xp
          rw [hy0] at xpc
          simp only [partyCells] at xpc
          obtain ⟨pv, hpv⟩ : ∃ v, (x.count - ab == 0) = v := ⟨_, rfl⟩
          clear hx3 hqp hI2 hI c14 c15 c5 l14 l15 l5
          have Hxp := Lib.hid xp; clear xp; have Hhtp := Lib.hid htp; clear htp; have Hhy0 := Lib.hid hy0; clear hy0
          cases pv
          · have hyA : tripParty T c k x = y0 := by rw [Hhtp.out, if_neg (by simpa using hpv)]
            go_upto_region 20 with fail
            have xpX := Hxp.out
            have hbX := hI3
            clear hI3 xpc xpf
            obtain ⟨wn, hwn⟩ : ∃ n, x3.heap.size = n := ⟨_, rfl⟩
            obtain ⟨w6, hw6⟩ : ∃ W, x3.alloc (.cells #[.pointer (some ⟨qp, 0, none⟩)] 162) = W := ⟨_, rfl⟩
            have x6 : w6.heap[wn]? = some (.cells #[.pointer (some ⟨qp, 0, none⟩)] 162 (0, 0)) := by rw [← hw6, ← hwn]; exact heap_alloc_at _ _
            have hb6 : Below x3.heap.size x3 w6 := by rw [← hw6]; exact bl_alloc (Below.refl _ _) _
            have hbX6 : Below w5.heap.size w5 w6 := hbX.trans (hb6.mono hbX.size)
            have hr6 := Hhr5.out.below hbX6
            have hrow6 := hr6.rowp
            have hle6 := hr6.le
            have hbr6 : Below rb w3 w6 := Hhbr5.out.trans (hbX6.mono hle5)
            have xp6 := heap_below hb6 xpX
            have hblk6 := heap_below hbX6 Hhblk5.out
            have hbqp : rb ≤ qp := by have := hqpl; omega
            have hnew : ∀ i, i < (tripParties T c (p.trips.take k)).length → A.pb i ≠ qp := fun i hi e => by have := Hhr5.out.lt (q := A.pb i) (.inr (.inl ⟨i, hi, rfl⟩)); omega
            have hrbX : x3.heap[rb]? = _ := (hbX.block rb (lt_of_heap Hhblk5.out)).trans Hhblk5.out
            have hwac := cells_of hrbX
            have hwal := lt_of_heap hrbX
            simp only [runCells] at hwac
            have Hhb6 := Lib.hid hb6; clear hb6; have HhbX6 := Lib.hid hbX6; clear hbX6; have Hhr6 := Lib.hid hr6; clear hr6; have Hhrow6 := Lib.hid hrow6; clear hrow6; have Hhbr6 := Lib.hid hbr6; clear hbr6; have Hxp6 := Lib.hid xp6; clear xp6; have Hhblk6 := Lib.hid hblk6; clear hblk6; have Hx6 := Lib.hid x6; clear x6; have Hhnew := Lib.hid hnew; clear hnew; have HhrbX := Lib.hid hrbX; clear hrbX; have HxpX := Lib.hid xpX; clear xpX; have HhbX := Lib.hid hbX; clear hbX
            go_wp2_with (at_builtin; refine append_one rfl (.tmp 107) (.tmp 109) 157 162 (.pointer none) rfl infoPP Try.underlying157 rfl rb A.vp _ _ rfl Hhrow6.out wn 1 (.pointer (some ⟨qp, 0, none⟩)) rfl Hx6.out rfl (by simp [tripParties]; omega) hle6 ?_; intro g7 cap7 w7 hown hg; have hblk7 : w7.heap[rb]? = _ := (hg.block rb (lt_of_heap Hhblk6.out) (fun e => row_ne Hhrow6.out Hhblk6.out (by decide) e.symm)).trans Hhblk6.out; have hwac7 := cells_of hblk7; have hwaf7 := frozen_of hblk7; have hwal7 := lt_of_heap hblk7; simp only [runCells] at hwac7; have Hhblk7 := Lib.hid hblk7; clear hblk7; have Hhown := Lib.hid hown; clear hown; have Hhg := Lib.hid hg; clear hg)
            have hfin := RunN.addP Hhr6.out HhA1.out HhA2.out HhA3.out Hhbr6.out (tripParty T c k x) (q := qp) (ha := ah) (hc := ch) (by rw [hyA]; exact Hxp6.out) (Hhsl5.out.below (ek_hop rb) (HhbX6.out.mono hle5)) hbqp Hhnew.out Hhg.out Hhown.out
            have Hhfin := Lib.hid hfin; clear hfin
            go_roundw
            case rel => exact ⟨k + 1, by omega, by go_num, by rw [tripParties_snoc T c p.trips k hltk, Hhxq.out]; exact Hhfin.out⟩
            case measure => simp [intOf]; omega
          · have hyB : tripParty T c k x = { y0 with state := 0 } := by rw [Hhtp.out, if_pos (by simpa using hpv)]
            go_upto_region 20 with fail
            obtain ⟨x4, hx4⟩ : ∃ W, x3.setCell ⟨qp, 11, none⟩ (.int .i64 0) = W := ⟨_, rfl⟩
            have xpX : x4.heap[qp]? = some (.cells (partyCells { y0 with state := 0 } ah ch) 168 (0, 0)) := by rw [← hx4]; exact (heap_setCell_at Hxp.out _).trans rfl
            have hbX : Below w5.heap.size w5 x4 := by rw [← hx4]; exact below_cell hI3 hqpl _ _
            rw [hx4]
            clear hI3 xpc xpf hx4
            obtain ⟨wn, hwn⟩ : ∃ n, x4.heap.size = n := ⟨_, rfl⟩
            obtain ⟨w6, hw6⟩ : ∃ W, x4.alloc (.cells #[.pointer (some ⟨qp, 0, none⟩)] 162) = W := ⟨_, rfl⟩
            have x6 : w6.heap[wn]? = some (.cells #[.pointer (some ⟨qp, 0, none⟩)] 162 (0, 0)) := by rw [← hw6, ← hwn]; exact heap_alloc_at _ _
            have hb6 : Below x4.heap.size x4 w6 := by rw [← hw6]; exact bl_alloc (Below.refl _ _) _
            have hbX6 : Below w5.heap.size w5 w6 := hbX.trans (hb6.mono hbX.size)
            have hr6 := Hhr5.out.below hbX6
            have hrow6 := hr6.rowp
            have hle6 := hr6.le
            have hbr6 : Below rb w3 w6 := Hhbr5.out.trans (hbX6.mono hle5)
            have xp6 := heap_below hb6 xpX
            have hblk6 := heap_below hbX6 Hhblk5.out
            have hbqp : rb ≤ qp := by have := hqpl; omega
            have hnew : ∀ i, i < (tripParties T c (p.trips.take k)).length → A.pb i ≠ qp := fun i hi e => by have := Hhr5.out.lt (q := A.pb i) (.inr (.inl ⟨i, hi, rfl⟩)); omega
            have hrbX : x4.heap[rb]? = _ := (hbX.block rb (lt_of_heap Hhblk5.out)).trans Hhblk5.out
            have hwac := cells_of hrbX
            have hwal := lt_of_heap hrbX
            simp only [runCells] at hwac
            have Hhb6 := Lib.hid hb6; clear hb6; have HhbX6 := Lib.hid hbX6; clear hbX6; have Hhr6 := Lib.hid hr6; clear hr6; have Hhrow6 := Lib.hid hrow6; clear hrow6; have Hhbr6 := Lib.hid hbr6; clear hbr6; have Hxp6 := Lib.hid xp6; clear xp6; have Hhblk6 := Lib.hid hblk6; clear hblk6; have Hx6 := Lib.hid x6; clear x6; have Hhnew := Lib.hid hnew; clear hnew; have HhrbX := Lib.hid hrbX; clear hrbX; have HxpX := Lib.hid xpX; clear xpX; have HhbX := Lib.hid hbX; clear hbX
            go_wp2_with (at_builtin; refine append_one rfl (.tmp 107) (.tmp 109) 157 162 (.pointer none) rfl infoPP Try.underlying157 rfl rb A.vp _ _ rfl Hhrow6.out wn 1 (.pointer (some ⟨qp, 0, none⟩)) rfl Hx6.out rfl (by simp [tripParties]; omega) hle6 ?_; intro g7 cap7 w7 hown hg; have hblk7 : w7.heap[rb]? = _ := (hg.block rb (lt_of_heap Hhblk6.out) (fun e => row_ne Hhrow6.out Hhblk6.out (by decide) e.symm)).trans Hhblk6.out; have hwac7 := cells_of hblk7; have hwaf7 := frozen_of hblk7; have hwal7 := lt_of_heap hblk7; simp only [runCells] at hwac7; have Hhblk7 := Lib.hid hblk7; clear hblk7; have Hhown := Lib.hid hown; clear hown; have Hhg := Lib.hid hg; clear hg)
            have hfin := RunN.addP Hhr6.out HhA1.out HhA2.out HhA3.out Hhbr6.out (tripParty T c k x) (q := qp) (ha := ah) (hc := ch) (by rw [hyB]; exact Hxp6.out) (Hhsl5.out.below (ek_hop rb) (HhbX6.out.mono hle5)) hbqp Hhnew.out Hhg.out Hhown.out
            have Hhfin := Lib.hid hfin; clear hfin
            go_roundw
            case rel => exact ⟨k + 1, by omega, by go_num, by rw [tripParties_snoc T c p.trips k hltk, Hhxq.out]; exact Hhfin.out⟩
            case measure => simp [intOf]; omega
        · obtain rfl : k = p.trips.length := by omega
          as_aux_lemma =>
          rw [List.take_length] at hrk
          have hNB : RunN T a1 a2 a3 a4 c1 c2 c3 c4 p p1 p2 d1 d2 rb w3 wr ⟨tripParties T c p.trips, [], T.places.map Place.room, [], []⟩ := ⟨⟨A, hA1, hA2, hA3, hrk⟩, hbk⟩
          have u4 := (hbk.block (q3 + 1) (by omega)).trans Hy4.out
          have z4 := cells_of u4
          simp only [planBox] at z4
          have z4l := lt_of_heap u4
          have hmm := @run_makeMap Try.prog
          have hlew := hrk.le
          obtain ⟨wm, hwm⟩ : ∃ W, wr.alloc (.map #[] 0) = W := ⟨_, rfl⟩
          obtain ⟨qm, hqm⟩ : ∃ n, wr.heap.size = n := ⟨_, rfl⟩
          have hmap : MapE encI intV wm qm (metL p.rides 0) := by rw [← hwm, ← hqm]; exact MapE.made encI intV wr
          have hbm : Below wr.heap.size wr wm := by rw [← hwm]; exact bl_alloc (Below.refl _ _) _
          have hNm : RunN T a1 a2 a3 a4 c1 c2 c3 c4 p p1 p2 d1 d2 rb w3 wm ⟨tripParties T c p.trips, [], T.places.map Place.room, [], []⟩ := ⟨⟨A, hA1, hA2, hA3, hrk.below hbm⟩, hbk.trans (hbm.mono hlew)⟩
          have u4m := heap_below hbm u4
          clear z4 z4l
          have z4 := cells_of u4m
          simp only [planBox] at z4
          have z4l := lt_of_heap u4m
          have hqmrb : rb ≤ qm := by omega
          clear hrk hA1 hA2 hA3 hbk HhNA hNB
          have HhNm := Lib.hid hNm; clear hNm; have Hu4 := Lib.hid u4; clear u4; have Hu4m := Lib.hid u4m; clear u4m; have Hhmap := Lib.hid hmap; clear hmap; have Hhbm := Lib.hid hbm; clear hbm
          go_wp2_with fail
          clear z4 z4l hmm hwm hqm Hhbm
          go_loopw [118] (fun i W => ∃ k : Nat, k ≤ p.rides.length ∧ i = .int .i64 k ∧ RunN T a1 a2 a3 a4 c1 c2 c3 c4 p p1 p2 d1 d2 rb w3 W ⟨tripParties T c p.trips ++ rideParties T c p.rides k, rideWaits T p.rides k, T.places.map Place.room, [], []⟩ ∧ MapE encI intV W qm (metL p.rides k)) (fun i _ => p.rides.length - (intOf i).toNat)
          case atStart => exact ⟨0, Nat.zero_le _, rfl, by simpa [rideParties, rideWaits] using HhNm.out, Hhmap.out⟩
          case round =>
            obtain ⟨k, hk, rfl, ⟨⟨A, hA1, hA2, hA3, hrk⟩, hbk⟩, hmk⟩ := hrel
            clear HhNm Hhmap
            by_cases hltk : k < p.rides.length
            · as_aux_lemma =>
              obtain ⟨b, off, hp2, hbb, ah, ch, bh, bc, f0', f1', f2', hsl', hbl3⟩ := Hhr3.out.plan.rides.2 k hltk
              have f0 := ek_cell hbk hbb f0'
              have f1 := ek_cell hbk hbb f1'
              have f2 := ek_cell hbk hbb f2'
              have hsl := hsl'.below (ek_hop rb) hbk
              clear f0' f1' f2' hsl'
              have hrg := HhPG.out.rides _ (List.getElem_mem hltk)
              obtain ⟨x, hxq⟩ : ∃ q, p.rides[k] = q := ⟨_, rfl⟩
              rw [hxq] at f0 f1 f2 hsl hbl3 hrg
              have hvr := hrg.vehicle
              obtain ⟨bg, offg, ha4, hbg, g0, g1⟩ := hrk.town.vehicles.at hvr.1 hvr.2 ⟨0, 0⟩
              have hlg := hrk.town.vehicles.1
              subst hp2
              subst ha4
              obtain ⟨vh, hvhq⟩ : ∃ q, T.vehicles.getD x.vehicle.toNat ⟨0, 0⟩ = q := ⟨_, rfl⟩
              rw [hvhq] at g0 g1
              have hblk := hrk.blk
              rw [hA1] at hblk
              have hwal := lt_of_heap hblk
              have hbw3 : b < wr.heap.size := by omega
              have hbw4 : bg < wr.heap.size := by omega
              have u3 := (hbk.block q3 (by omega)).trans Hy3.out
              have z3 := cells_of u3
              simp only [townBox] at z3
              have z3l := lt_of_heap u3
              have hmlt := MapE.lt hmk
              have Hhrk := Lib.hid hrk; clear hrk; have Hhblk := Lib.hid hblk; clear hblk; have Hhbk := Lib.hid hbk; clear hbk; have Hhxq := Lib.hid hxq; clear hxq; have Hhvhq := Lib.hid hvhq; clear hvhq; have HhA1 := Lib.hid hA1; clear hA1; have HhA2 := Lib.hid hA2; clear hA2; have HhA3 := Lib.hid hA3; clear hA3; have Hhsl := Lib.hid hsl; clear hsl; have Hhbl3 := Lib.hid hbl3; clear hbl3; have Hu3 := Lib.hid u3; clear u3; have Hhrg := Lib.hid hrg; clear hrg; have Hhmk := Lib.hid hmk; clear hmk
              go_upto_region 26 with fail
              obtain ⟨q19, hq19⟩ : ∃ q, wr.heap.size = q := ⟨_, rfl⟩
              obtain ⟨w5, hw5⟩ : ∃ W, wr.alloc (.cells #[.int .i64 x.vehicle, .slice ah x.hops.length (x.hops.length + ch), .slice bh x.boards.length bc] 53) = W := ⟨_, rfl⟩
              have x19 : w5.heap[q19]? = some (.cells #[.int .i64 x.vehicle, .slice ah x.hops.length (x.hops.length + ch), .slice bh x.boards.length bc] 53 (0, 0)) := by rw [← hw5, ← hq19]; exact heap_alloc_at _ _
              have hb5 : Below wr.heap.size wr w5 := by rw [← hw5]; exact bl_alloc (Below.refl _ _) _
              rw [hw5, hq19]
              have g05 : w5.cell? ⟨bg, offg + x.vehicle.toNat * 2, none⟩ = some (.int .i64 vh.place) := (hb5.cell (p := ⟨bg, offg + x.vehicle.toNat * 2, none⟩) hbw4).trans g0
              have hbw5 : bg < w5.heap.size := by have := hb5.size; omega
              clear hw5 z3 z3l f0 f1 f2 g0 g1
              have hblk5 := heap_below hb5 Hhblk.out
              have hr5 := Hhrk.out.below hb5
              have hle5 := hr5.le
              have hC5 := (HhC3.out.below Hhbk.out).below (hb5.mono Hhrk.out.le)
              have u5 : w5.heap[q3 + 1 + 1]? = some (.cells (caseBox c l1 l2 l3 l4 e1 e2 e3 e4) 62 (0, 0)) := heap_below hb5 ((Hhbk.out.block (q3 + 1 + 1) (by omega)).trans Hy5.out)
              have u35 := heap_below hb5 Hu3.out
              have hsl5 := Hhsl.out.below (ek_hop rb) (hb5.mono Hhrk.out.le)
              have hbr5 : Below rb w3 w5 := Hhbk.out.trans (hb5.mono Hhrk.out.le)
              have hm5 : MapE encI intV w5 qm (metL p.rides k) := MapE.same Hhmk.out (hb5.block qm hmlt)
              obtain ⟨lt, hlt1⟩ : ∃ v, c.rides.getD k 0 = v := ⟨_, rfl⟩
              obtain ⟨br, hbrq⟩ : ∃ v, c.broken.getD k false = v := ⟨_, rfl⟩
              have hAt1 : ∀ W, Below w5.heap.size w5 W → Calls Try.prog 62 #[.slice l3 c.rides.length e3, .int .i64 k] W fun e w' => e = .returned (.int .i64 lt) ∧ Below W.heap.size W w' := fun W hW => by
                rw [← hlt1]
                exact atI_any c.rides l3 e3 rb k W (Nat.le_trans hle5 hW.size) (hC5.below (hW.mono hle5)).rides
              have hAt2 : ∀ W, Below w5.heap.size w5 W → Calls Try.prog 63 #[.slice l4 c.broken.length e4, .int .i64 k] W fun e w' => e = .returned (.bool br) ∧ Below W.heap.size W w' := fun W hW => by
                rw [← hbrq]
                exact atB_any c.broken l4 e4 rb k W (Nat.le_trans hle5 hW.size) (hC5.below (hW.mono hle5)).broken
              have c19 := cells_of x19
              have l19 := lt_of_heap x19
              have c5 := cells_of u5
              have l5 := lt_of_heap u5
              simp only [caseBox] at c5
              have c3 := cells_of u35
              have l3' := lt_of_heap u35
              simp only [townBox] at c3
              have hI : Below w5.heap.size w5 w5.drew := (Below.refl _ _).drew
              have hnk : (k : Int) ≤ 256 := by have := HhPG.out.nr; omega
              clear hwal
              have Hx19 := Lib.hid x19; clear x19; have Hhb5 := Lib.hid hb5; clear hb5; have Hhblk5 := Lib.hid hblk5; clear hblk5; have Hhr5 := Lib.hid hr5; clear hr5; have HhC5 := Lib.hid hC5; clear hC5; have Hu5 := Lib.hid u5; clear u5; have Hu35 := Lib.hid u35; clear u35; have Hhsl5 := Lib.hid hsl5; clear hsl5; have Hhbr5 := Lib.hid hbr5; clear hbr5; have Hhlt1 := Lib.hid hlt1; clear hlt1; have Hhbrq := Lib.hid hbrq; clear hbrq; have HhAt1 := Lib.hid hAt1; clear hAt1; have HhAt2 := Lib.hid hAt2; clear hAt2; have Hhm5 := Lib.hid hm5; clear hm5
              refine wp_region_ord (fun W => Below w5.heap.size w5 W) [([0, 1, 2, 3, 4, 6, 7, 8, 9, 10, 11, 12, 14, 15, 16, 17, 18, 19], 5), ([13], 20), ([21], 22)] [23] none (by kernel_rfl) (by kernel_rfl) hI ?_
              refine OrdI_cons ?_
              (apply StI_plain (w0 := w5.drew) hI rfl rfl rfl rfl; (focus (intro W hW K hK; obtain ⟨_, _, _⟩ := bk q19 hW l19; obtain ⟨_, _, _⟩ := bk q3 hW l3'; obtain ⟨_, _, _⟩ := bk (q3 + 1 + 1) hW l5; obtain ⟨_, _, _⟩ := bk bg hW hbw5; go_step; exact hK)); (focus rfl)); (apply StI_plain (w0 := w5.drew) hI rfl rfl rfl rfl; (focus (intro W hW K hK; obtain ⟨_, _, _⟩ := bk q19 hW l19; obtain ⟨_, _, _⟩ := bk q3 hW l3'; obtain ⟨_, _, _⟩ := bk (q3 + 1 + 1) hW l5; obtain ⟨_, _, _⟩ := bk bg hW hbw5; go_step; exact hK)); (focus rfl)); (apply StI_plain (w0 := w5.drew) hI rfl rfl rfl rfl; (focus (intro W hW K hK; obtain ⟨_, _, _⟩ := bk q19 hW l19; obtain ⟨_, _, _⟩ := bk q3 hW l3'; obtain ⟨_, _, _⟩ := bk (q3 + 1 + 1) hW l5; obtain ⟨_, _, _⟩ := bk bg hW hbw5; go_step; exact hK)); (focus rfl)); (apply StI_plain (w0 := w5.drew) hI rfl rfl rfl rfl; (focus (intro W hW K hK; obtain ⟨_, _, _⟩ := bk q19 hW l19; obtain ⟨_, _, _⟩ := bk q3 hW l3'; obtain ⟨_, _, _⟩ := bk (q3 + 1 + 1) hW l5; obtain ⟨_, _, _⟩ := bk bg hW hbw5; go_step; exact hK)); (focus rfl)); (apply StI_plain (w0 := w5.drew) hI rfl rfl rfl rfl; (focus (intro W hW K hK; obtain ⟨_, _, _⟩ := bk q19 hW l19; obtain ⟨_, _, _⟩ := bk q3 hW l3'; obtain ⟨_, _, _⟩ := bk (q3 + 1 + 1) hW l5; obtain ⟨_, _, _⟩ := bk bg hW hbw5; go_step; exact hK)); (focus rfl)); (apply StI_plain (w0 := w5.drew) hI rfl rfl rfl rfl; (focus (intro W hW K hK; obtain ⟨_, _, _⟩ := bk q19 hW l19; obtain ⟨_, _, _⟩ := bk q3 hW l3'; obtain ⟨_, _, _⟩ := bk (q3 + 1 + 1) hW l5; obtain ⟨_, _, _⟩ := bk bg hW hbw5; go_step; exact hK)); (focus rfl)); (apply StI_plain (w0 := w5.drew) hI rfl rfl rfl rfl; (focus (intro W hW K hK; obtain ⟨_, _, _⟩ := bk q19 hW l19; obtain ⟨_, _, _⟩ := bk q3 hW l3'; obtain ⟨_, _, _⟩ := bk (q3 + 1 + 1) hW l5; obtain ⟨_, _, _⟩ := bk bg hW hbw5; go_step; exact hK)); (focus rfl)); (apply StI_plain (w0 := w5.drew) hI rfl rfl rfl rfl; (focus (intro W hW K hK; obtain ⟨_, _, _⟩ := bk q19 hW l19; obtain ⟨_, _, _⟩ := bk q3 hW l3'; obtain ⟨_, _, _⟩ := bk (q3 + 1 + 1) hW l5; obtain ⟨_, _, _⟩ := bk bg hW hbw5; go_step; exact hK)); (focus rfl)); (apply StI_plain (w0 := w5.drew) hI rfl rfl rfl rfl; (focus (intro W hW K hK; obtain ⟨_, _, _⟩ := bk q19 hW l19; obtain ⟨_, _, _⟩ := bk q3 hW l3'; obtain ⟨_, _, _⟩ := bk (q3 + 1 + 1) hW l5; obtain ⟨_, _, _⟩ := bk bg hW hbw5; go_step; exact hK)); (focus rfl)); (apply StI_plain (w0 := w5.drew) hI rfl rfl rfl rfl; (focus (intro W hW K hK; obtain ⟨_, _, _⟩ := bk q19 hW l19; obtain ⟨_, _, _⟩ := bk q3 hW l3'; obtain ⟨_, _, _⟩ := bk (q3 + 1 + 1) hW l5; obtain ⟨_, _, _⟩ := bk bg hW hbw5; go_step; exact hK)); (focus rfl)); (apply StI_plain (w0 := w5.drew) hI rfl rfl rfl rfl; (focus (intro W hW K hK; obtain ⟨_, _, _⟩ := bk q19 hW l19; obtain ⟨_, _, _⟩ := bk q3 hW l3'; obtain ⟨_, _, _⟩ := bk (q3 + 1 + 1) hW l5; obtain ⟨_, _, _⟩ := bk bg hW hbw5; go_step; exact hK)); (focus rfl)); (apply StI_plain (w0 := w5.drew) hI rfl rfl rfl rfl; (focus (intro W hW K hK; obtain ⟨_, _, _⟩ := bk q19 hW l19; obtain ⟨_, _, _⟩ := bk q3 hW l3'; obtain ⟨_, _, _⟩ := bk (q3 + 1 + 1) hW l5; obtain ⟨_, _, _⟩ := bk bg hW hbw5; go_step; exact hK)); (focus rfl)); (apply StI_plain (w0 := w5.drew) hI rfl rfl rfl rfl; (focus (intro W hW K hK; obtain ⟨_, _, _⟩ := bk q19 hW l19; obtain ⟨_, _, _⟩ := bk q3 hW l3'; obtain ⟨_, _, _⟩ := bk (q3 + 1 + 1) hW l5; obtain ⟨_, _, _⟩ := bk bg hW hbw5; go_step; exact hK)); (focus rfl)); (apply StI_plain (w0 := w5.drew) hI rfl rfl rfl rfl; (focus (intro W hW K hK; obtain ⟨_, _, _⟩ := bk q19 hW l19; obtain ⟨_, _, _⟩ := bk q3 hW l3'; obtain ⟨_, _, _⟩ := bk (q3 + 1 + 1) hW l5; obtain ⟨_, _, _⟩ := bk bg hW hbw5; go_step; exact hK)); (focus rfl)); (apply StI_plain (w0 := w5.drew) hI rfl rfl rfl rfl; (focus (intro W hW K hK; obtain ⟨_, _, _⟩ := bk q19 hW l19; obtain ⟨_, _, _⟩ := bk q3 hW l3'; obtain ⟨_, _, _⟩ := bk (q3 + 1 + 1) hW l5; obtain ⟨_, _, _⟩ := bk bg hW hbw5; go_step; exact hK)); (focus rfl)); (apply StI_plain (w0 := w5.drew) hI rfl rfl rfl rfl; (focus (intro W hW K hK; obtain ⟨_, _, _⟩ := bk q19 hW l19; obtain ⟨_, _, _⟩ := bk q3 hW l3'; obtain ⟨_, _, _⟩ := bk (q3 + 1 + 1) hW l5; obtain ⟨_, _, _⟩ := bk bg hW hbw5; go_step; exact hK)); (focus rfl)); (apply StI_plain (w0 := w5.drew) hI rfl rfl rfl rfl; (focus (intro W hW K hK; obtain ⟨_, _, _⟩ := bk q19 hW l19; obtain ⟨_, _, _⟩ := bk q3 hW l3'; obtain ⟨_, _, _⟩ := bk (q3 + 1 + 1) hW l5; obtain ⟨_, _, _⟩ := bk bg hW hbw5; go_step; exact hK)); (focus rfl)); (apply StI_plain (w0 := w5.drew) hI rfl rfl rfl rfl; (focus (intro W hW K hK; obtain ⟨_, _, _⟩ := bk q19 hW l19; obtain ⟨_, _, _⟩ := bk q3 hW l3'; obtain ⟨_, _, _⟩ := bk (q3 + 1 + 1) hW l5; obtain ⟨_, _, _⟩ := bk bg hW hbw5; go_step; exact hK)); (focus rfl))
              (apply StI_eff rfl; go_wp2_with (first | (go_at_call 62; refine (HhAt1.out _ hI).mono ?_; rintro e x1 ⟨rfl, hy1⟩)))
              have hI1 : Below w5.heap.size w5 x1 := below_on hI (Nat.le_refl _) hy1
              refine onNormal_mk hI1 (OrdI_cons ?_)
              (apply StI_plain (w0 := x1) hI1 rfl rfl rfl rfl; (focus (intro W hW K hK; skip; go_step; exact hK)); (focus rfl))
              (apply StI_eff rfl; go_wp2_with (first | (go_at_call 63; refine (HhAt2.out _ hI1).mono ?_; rintro e x2 ⟨rfl, hy2⟩)))
              have hI2 : Below w5.heap.size w5 x2 := below_on hI1 hI1.size hy2
              clear hI1 hy1 hy2
              refine onNormal_mk hI2 (OrdI_cons ?_)
              apply StI_plain (w0 := x2) hI2 rfl rfl rfl rfl; (focus (intro W hW K hK; refine wp_op_build 168 _ rfl _ _ (build_ride ah x.hops.length (x.hops.length + ch) 2 lt vh.place 0 k x.vehicle br) rfl ?_; exact hK)); (focus rfl)
              obtain ⟨qp, hqp⟩ : ∃ n, x2.heap.size = n := ⟨_, rfl⟩
              obtain ⟨y0, hy0⟩ : ∃ q : Party, q = { hops := x.hops, cls := 2, late := lt, place := vh.place, fin := 0, ride := true, index := k, vehicle := x.vehicle, enter := 0, broken := br, moved := false, state := 0, people := 0 } := ⟨_, rfl⟩
              obtain ⟨x3, hx3⟩ : ∃ W, x2.alloc (.cells #[.slice ah x.hops.length (x.hops.length + ch), .int .i64 2, .int .i64 lt, .int .i64 vh.place, .int .i64 0, .bool true, .int .i64 k, .int .i64 x.vehicle, .int .i64 0, .bool br, .bool false, .int .i64 0, .int .i64 0] 168) = W := ⟨_, rfl⟩
              have xp : x3.heap[qp]? = some (.cells (partyCells y0 ah ch) 168 (0, 0)) := by rw [← hx3, ← hqp, hy0]; exact heap_alloc_at _ _
              have hI3 : Below w5.heap.size w5 x3 := by rw [← hx3]; exact bl_alloc hI2 _
              have hqpl : w5.heap.size ≤ qp := by rw [← hqp]; exact hI2.size
              obtain ⟨fst, hfst⟩ : ∃ v, (!(p.rides.take k).any (fun y => y.vehicle == x.vehicle)) = v := ⟨_, rfl⟩
              have htp : rideParty T c fst k x = if fst then { y0 with state := 1 } else y0 := by
                unfold rideParty Town.vh
                rw [hy0, Hhlt1.out, Hhbrq.out]
                have e : T.vehicles.getD x.vehicle.toNat Vehicle.z = vh := Hhvhq.out
                rw [e]
                cases fst <;> rfl
              have hrp : rideParties T c p.rides (k + 1) = rideParties T c p.rides k ++ [rideParty T c fst k x] := by
                have e : p.rides.getD k ⟨0, [], []⟩ = x := by rw [List.getD_eq_getElem?_getD, List.getElem?_eq_getElem hltk]; exact Hhxq.out
                show rideParties T c p.rides k ++ [rideParty T c (!(p.rides.take k).any (fun y => y.vehicle == (p.rides.getD k ⟨0, [], []⟩).vehicle)) k (p.rides.getD k ⟨0, [], []⟩)] = _
                rw [e, hfst]
              have hmx : metL p.rides (k + 1) = mput (metL p.rides k) x.vehicle (mlook (metL p.rides k) x.vehicle + 1) := by
                have e : p.rides.getD k ⟨0, [], []⟩ = x := by rw [List.getD_eq_getElem?_getD, List.getElem?_eq_getElem hltk]; exact Hhxq.out
                show mput (metL p.rides k) (p.rides.getD k ⟨0, [], []⟩).vehicle (mlook (metL p.rides k) (p.rides.getD k ⟨0, [], []⟩).vehicle + 1) = _
                rw [e]
              obtain ⟨hml0, hml1, hml2⟩ := metL_le p.rides k (by omega) x.vehicle
              obtain ⟨hmg1, hmg2⟩ := metL_good HhPG.out.rides (by have := HhG.out.nv; omega) k (by omega)
              rw [hfst] at hml2
              obtain ⟨ml, hmlq⟩ : ∃ v, mlook (metL p.rides k) x.vehicle = v := ⟨_, rfl⟩
              rw [hmlq] at hml0 hml1 hml2 hmx
              have hvi : I64 x.vehicle := by unfold I64; have := HhG.out.nv; omega
              (apply StI_eff rfl; go_wp2_with fail)
              (try rw [hx3]); (try rw [hqp])
              refine onNormal_mk hI3 (OrdI_fin ?_)
              (apply StI_plain (w0 := x3) hI3 rfl rfl rfl rfl; (focus (intro W hW K hK; skip; go_step; exact hK)); (focus rfl))
              refine StI_nil ?_
              have xpc := cells_of xp
              have xpf := frozen_of xp
              have xpl := lt_of_heap xp
              rw [hy0] at xpc
              simp only [partyCells] at xpc
              have x193 := heap_below hI3 Hx19.out
              have c19 := cells_of x193
              have l19 := lt_of_heap x193
              have hm3 : MapE encI intV x3 qm (metL p.rides k) := MapE.same Hhm5.out (hI3.block qm (MapE.lt Hhm5.out))
              have hl3 := met_look hm3 hmg1 hmg2 x.vehicle hvi
              rw [hmlq] at hl3
              clear hx3 hqp hI2 hI c5 l5 c3 l3' g05
              have Hxp := Lib.hid xp; clear xp; have Hhtp := Lib.hid htp; clear htp; have Hhy0 := Lib.hid hy0; clear hy0; have Hhrp := Lib.hid hrp; clear hrp; have Hhmx := Lib.hid hmx; clear hmx; have Hhmlq := Lib.hid hmlq; clear hmlq; have Hhfst := Lib.hid hfst; clear hfst; have Hhm3 := Lib.hid hm3; clear hm3; have Hx193 := Lib.hid x193; clear x193; have Hhmg1 := Lib.hid hmg1; clear hmg1; have Hhmg2 := Lib.hid hmg2; clear hmg2; have Hhvi := Lib.hid hvi; clear hvi
              go_upto_region 27 with fail
              go_cut [150] from 146 to 149 (fun v W => v = .bool fst ∧ W = x3)
              case first =>
                go_wp2_with fail
                go_meet
                exact ⟨by first | rfl | (simp; exact hml2) | simp, rfl⟩
              case rest =>
              obtain ⟨rfl, hwq⟩ := hcut
              rw [hwq]
              clear hwq
              apply_assumption
              go_cut [] from 151 to 153 (fun W => Below w5.heap.size w5 W ∧ W.heap[qp]? = some (.cells (partyCells (rideParty T c fst k x) ah ch) 168 (0, 0)))
              case first =>
                cases fst
                · have hyA : rideParty T c false k x = y0 := by rw [Hhtp.out]; rfl
                  go_wp2_with fail
                  go_meet
                  exact ⟨hI3, by rw [hyA]; exact Hxp.out⟩
                · have hyB : rideParty T c true k x = { y0 with state := 1 } := by rw [Hhtp.out]; rfl
                  go_wp2_with fail
                  go_meet
                  exact ⟨below_cell hI3 hqpl _ _, by rw [hyB]; exact (heap_setCell_at Hxp.out _).trans rfl⟩
              case rest =>
              obtain ⟨hbX, hxpX⟩ := hcut
              clear xpc xpf xpl c19 l19 hl3 hI3 Hhm3 Hx193 Hxp
              have hmX : MapE encI intV wc qm (metL p.rides k) := MapE.same Hhm5.out (hbX.block qm (MapE.lt Hhm5.out))
              have hlX := met_look hmX Hhmg1.out Hhmg2.out x.vehicle Hhvi.out
              rw [Hhmlq.out] at hlX
              obtain ⟨X2, hput, hm2, ho2, k1, k2, k3, k4⟩ := met_put hmX Hhmg1.out Hhmg2.out x.vehicle (ml + 1) Hhvi.out
              have hBX2 : Below rb wc X2 := ⟨k1, k2, k3, by rw [k4]; exact Nat.le_refl _, fun q hq => ho2 q (by omega)⟩
              have hrX0 := Hhr5.out.below hbX
              have hrX := hrX0.mapset hmX ho2 hBX2
              have hbrX : Below rb w3 X2 := (Hhbr5.out.trans (hbX.mono hle5)).trans hBX2
              have hrb0 := heap_below hbX Hhblk5.out
              have hrbX := (ho2 rb (map_ne hrb0 hmX)).trans hrb0
              have xpX := (ho2 qp (map_ne hxpX hmX)).trans hxpX
              have x190 := heap_below hbX Hx19.out
              have x19X := (ho2 q19 (map_ne x190 hmX)).trans x190
              have hbqp : rb ≤ qp := by omega
              have hnew : ∀ i, i < (tripParties T c p.trips ++ rideParties T c p.rides k).length → A.pb i ≠ qp := fun i hi e => by have := Hhr5.out.lt (q := A.pb i) (.inr (.inl ⟨i, hi, rfl⟩)); omega
              have c19 := cells_of x190
              have l19 := lt_of_heap x190
              have hslX : Sl HopE 2 rb X2 ah x.hops := (Hhsl5.out.below (ek_hop rb) (hbX.mono hle5)).below (ek_hop rb) hBX2
              clear k1 k2 k3 k4
              have Hhput := Lib.hid hput
              clear hput
              have HhbX := Lib.hid hbX; clear hbX; have HhxpX := Lib.hid hxpX; clear hxpX; have HhmX := Lib.hid hmX; clear hmX; have Hhm2 := Lib.hid hm2; clear hm2; have Hho2 := Lib.hid ho2; clear ho2; have HhBX2 := Lib.hid hBX2; clear hBX2; have HhrX0 := Lib.hid hrX0; clear hrX0; have Hhrb0 := Lib.hid hrb0; clear hrb0; have Hx190 := Lib.hid x190; clear x190; have Hx19X := Lib.hid x19X; clear x19X; have HhslX := Lib.hid hslX; clear hslX
              obtain ⟨wn, hwn⟩ : ∃ n, X2.heap.size = n := ⟨_, rfl⟩
              obtain ⟨w6, hw6⟩ : ∃ W, X2.alloc (.cells #[.pointer (some ⟨qp, 0, none⟩)] 162) = W := ⟨_, rfl⟩
              have x6 : w6.heap[wn]? = some (.cells #[.pointer (some ⟨qp, 0, none⟩)] 162 (0, 0)) := by rw [← hw6, ← hwn]; exact heap_alloc_at _ _
              have hb6 : Below X2.heap.size X2 w6 := by rw [← hw6]; exact bl_alloc (Below.refl _ _) _
              have hr6 := hrX.below hb6
              have hrow6 := hr6.rowp
              have hle6 := hr6.le
              have hbr6 : Below rb w3 w6 := hbrX.trans (hb6.mono hrX.le)
              have xp6 := heap_below hb6 xpX
              have hblk6 := heap_below hb6 hrbX
              have hwac := cells_of hrbX
              have hwal := lt_of_heap hrbX
              simp only [runCells] at hwac
              have Hhb6 := Lib.hid hb6; clear hb6; have Hhr6 := Lib.hid hr6; clear hr6; have Hhrow6 := Lib.hid hrow6; clear hrow6; have Hhbr6 := Lib.hid hbr6; clear hbr6; have Hxp6 := Lib.hid xp6; clear xp6; have Hhblk6 := Lib.hid hblk6; clear hblk6; have Hx6 := Lib.hid x6; clear x6; have Hhnew := Lib.hid hnew; clear hnew; have HhrbX := Lib.hid hrbX; clear hrbX; have HxpX := Lib.hid xpX; clear xpX; have HhrX := Lib.hid hrX; clear hrX; have HhbrX := Lib.hid hbrX; clear hbrX
              go_upto_region 31 with (first | (at_mapUpdate; refine wpList_mapUpdate_run _ X2 rfl (.tmp 154) (.tmp 156) (.tmp 158) 38 rfl _ _ _ rfl rfl rfl Hhput.out ?_) | (at_builtin; refine append_one rfl (.tmp 163) (.tmp 165) 157 162 (.pointer none) rfl infoPP Try.underlying157 rfl rb A.vp _ _ rfl Hhrow6.out wn 1 (.pointer (some ⟨qp, 0, none⟩)) rfl Hx6.out rfl (by simp [tripParties, rideParties_len]; have := HhPG.out.nt; have := HhPG.out.nr; omega) hle6 ?_; intro g7 cap7 w7 hown hg; have hblk7 : w7.heap[rb]? = _ := (hg.block rb (lt_of_heap Hhblk6.out) (fun e => row_ne Hhrow6.out Hhblk6.out (by decide) e.symm)).trans Hhblk6.out; have hwac7 := cells_of hblk7; have hwaf7 := frozen_of hblk7; have hwal7 := lt_of_heap hblk7; simp only [runCells] at hwac7; have Hhblk7 := Lib.hid hblk7; clear hblk7; have Hhown := Lib.hid hown; clear hown; have Hhg := Lib.hid hg; clear hg))
              have hfin := RunN.addP Hhr6.out HhA1.out HhA2.out HhA3.out Hhbr6.out (rideParty T c fst k x) (q := qp) (ha := ah) (hc := ch) Hxp6.out (HhslX.out.below (ek_hop rb) (Hhb6.out.mono (by have := Hhr6.out.le; have := HhrX.out.le; omega))) hbqp Hhnew.out Hhg.out Hhown.out
              simp only [List.length_append] at hfin
              obtain ⟨w8, hw8⟩ : ∃ W, w7.setCell ⟨rb, 7, none⟩ (.slice (some ⟨g7, 0, none⟩) ((tripParties T c p.trips).length + (rideParties T c p.rides k).length + 1) cap7) = W := ⟨_, rfl⟩
              rw [hw8] at hfin ⊢
              rw [List.append_assoc, ← Hhrp.out] at hfin
              have hm6 : MapE encI intV w6 qm (mput (metL p.rides k) x.vehicle (ml + 1)) := MapE.same Hhm2.out (Hhb6.out.block qm (MapE.lt Hhm2.out))
              have x196 : w6.heap[q19]? = some (.cells #[.int .i64 x.vehicle, .slice ah x.hops.length (x.hops.length + ch), .slice bh x.boards.length bc] 53 (0, 0)) := heap_below Hhb6.out Hx19X.out
              have hm8 : MapE encI intV w8 qm (metL p.rides (k + 1)) := by
                rw [Hhmx.out]
                refine MapE.same hm6 ?_
                rw [← hw8]
                exact (setCell_other _ _ _ _ (Ne.symm (map_ne Hhblk6.out hm6))).trans (Hhg.out.block qm (MapE.lt hm6) (row_ne_map Hhrow6.out hm6))
              have hnrq : q19 ≠ rb := cells_ne x196 Hhblk6.out (by decide)
              have hnrw : some q19 ≠ A.vp.ownBlock := fun e => row_ne Hhrow6.out x196 (by decide) e.symm
              have x198 : w8.heap[q19]? = some (.cells #[.int .i64 x.vehicle, .slice ah x.hops.length (x.hops.length + ch), .slice bh x.boards.length bc] 53 (0, 0)) := by
                rw [← hw8, setCell_other _ _ _ _ hnrq, Hhg.out.block q19 (lt_of_heap x196) hnrw]
                exact x196
              have c19 := cells_of x198
              have l19 := lt_of_heap x198
              clear hw8 hwac hwal hwac7 hwaf7 hwal7 hlX hm6 x196 Hhg Hhown Hhblk7 Hhr6 Hhrow6 Hhbr6 Hxp6 Hhblk6 Hx6 Hhb6
              have Hhfin := Lib.hid hfin; clear hfin; have Hhm8 := Lib.hid hm8; clear hm8; have Hx198 := Lib.hid x198; clear x198
              go_wp2_with fail
              clear c19 l19
              go_loopw [172] (fun i W => ∃ j : Nat, j ≤ x.boards.length ∧ i = .int .i64 j ∧ RunN T a1 a2 a3 (some ⟨bg, offg, none⟩) c1 c2 c3 c4 p p1 (some ⟨b, off, none⟩) d1 d2 rb w3 W ⟨tripParties T c p.trips ++ rideParties T c p.rides (k + 1), rideWaits T p.rides k ++ (x.boards.take j).map (boardWait T k x), T.places.map Place.room, [], []⟩ ∧ MapE encI intV W qm (metL p.rides (k + 1)) ∧ W.heap[q19]? = some (.cells #[.int .i64 x.vehicle, .slice ah x.hops.length (x.hops.length + ch), .slice bh x.boards.length bc] 53 (0, 0))) (fun i _ => x.boards.length - (intOf i).toNat)
              case atStart => exact ⟨0, Nat.zero_le _, rfl, by simpa using Hhfin.out, Hhm8.out, Hx198.out⟩
              case round =>
                obtain ⟨j, hj, rfl, ⟨⟨A2, hB1, hB2, hB3, hrj⟩, hbj⟩, hmj, x19j⟩ := hrel
                clear Hhfin Hhm8 Hx198
                by_cases hltj : j < x.boards.length
                · as_aux_lemma =>
                  obtain ⟨bb, offb, hbq, hbbl, f0, f1, f2⟩ := (Hhbl3.out.below (ek_board rb) hbj).2 j hltj
                  subst hbq
                  have hbG := Hhrg.out.boards _ (List.getElem_mem hltj)
                  have hbl3l := Hhbl3.out.1
                  obtain ⟨bo, hboq⟩ : ∃ q, x.boards[j] = q := ⟨_, rfl⟩
                  rw [hboq] at f0 f1 f2 hbG
                  have hgr := hbG.group
                  have hbh := hbG.hop
                  have hnhx := Hhrg.out.nh
                  obtain ⟨bgg, offgg, ha3, hbgg, g0, _, _⟩ := hrj.town.groups.at hgr.1 hgr.2 Group.z
                  have hlgg := hrj.town.groups.1
                  subst ha3
                  obtain ⟨gr, hgrq⟩ : ∃ q, T.groups.getD bo.group.toNat Group.z = q := ⟨_, rfl⟩
                  rw [hgrq] at g0
                  have hblk := hrj.blk
                  rw [hB1] at hblk
                  have hwal := lt_of_heap hblk
                  have u3 := (hbj.block q3 (by omega)).trans Hy3.out
                  have hbw3 : bb < wr.heap.size := by omega
                  have hmlj := MapE.lt hmj
                  have x19l := lt_of_heap x19j
                  have Hhrj := Lib.hid hrj; clear hrj; have Hhblk := Lib.hid hblk; clear hblk; have Hhbj := Lib.hid hbj; clear hbj; have Hhboq := Lib.hid hboq; clear hboq; have Hhgrq := Lib.hid hgrq; clear hgrq; have HhB1 := Lib.hid hB1; clear hB1; have HhB2 := Lib.hid hB2; clear hB2; have HhB3 := Lib.hid hB3; clear hB3; have Hu3 := Lib.hid u3; clear u3; have HhbG := Lib.hid hbG; clear hbG; have Hhmj := Lib.hid hmj; clear hmj; have Hx19j := Lib.hid x19j; clear x19j
                  go_upto_region 34 with fail
                  obtain ⟨q22, hq22⟩ : ∃ q, wr.heap.size = q := ⟨_, rfl⟩
                  obtain ⟨w5, hw5⟩ : ∃ W, wr.alloc (.cells #[.int .i64 bo.hop, .int .i64 bo.group, .int .i64 bo.count] 56) = W := ⟨_, rfl⟩
                  have x22 : w5.heap[q22]? = some (.cells #[.int .i64 bo.hop, .int .i64 bo.group, .int .i64 bo.count] 56 (0, 0)) := by rw [← hw5, ← hq22]; exact heap_alloc_at _ _
                  have hb5 : Below wr.heap.size wr w5 := by rw [← hw5]; exact bl_alloc (Below.refl _ _) _
                  rw [hw5, hq22]
                  have g05 : w5.cell? ⟨bgg, offgg + bo.group.toNat * 3, none⟩ = some (.int .i64 gr.place) := (hb5.cell (p := ⟨bgg, offgg + bo.group.toNat * 3, none⟩) (show bgg < wr.heap.size by omega)).trans g0
                  have hbw5 : bgg < w5.heap.size := by have := hb5.size; omega
                  clear hw5 f0 f1 f2 g0
                  have hblk5 := heap_below hb5 Hhblk.out
                  have hr5 := Hhrj.out.below hb5
                  have hle5 := hr5.le
                  have u35 := heap_below hb5 Hu3.out
                  have x195 := heap_below hb5 Hx19j.out
                  have hbr5 : Below rb w3 w5 := Hhbj.out.trans (hb5.mono Hhrj.out.le)
                  have hm5 : MapE encI intV w5 qm (metL p.rides (k + 1)) := MapE.same Hhmj.out (hb5.block qm hmlj)
                  have c22 := cells_of x22
                  have l22 := lt_of_heap x22
                  have c19 := cells_of x195
                  have l19 := lt_of_heap x195
                  have c3 := cells_of u35
                  have l3' := lt_of_heap u35
                  simp only [townBox] at c3
                  have hwac := cells_of hblk5
                  have hwal5 := lt_of_heap hblk5
                  simp only [runCells] at hwac
                  have hI : SameAt [rb, q22, q3, bgg, q19] w5 w5.drew := SameAt.refl _ _
                  have hnk : (k : Int) ≤ 256 := by have := HhPG.out.nr; omega
                  clear hwal
                  have Hx22 := Lib.hid x22; clear x22; have Hhb5 := Lib.hid hb5; clear hb5; have Hhblk5 := Lib.hid hblk5; clear hblk5; have Hhr5 := Lib.hid hr5; clear hr5; have Hu35 := Lib.hid u35; clear u35; have Hx195 := Lib.hid x195; clear x195; have Hhbr5 := Lib.hid hbr5; clear hbr5; have Hhm5 := Lib.hid hm5; clear hm5
                  refine wp_region_ord (SameAt [rb, q22, q3, bgg, q19] w5) [([0, 1, 2, 3, 4, 5, 6, 7, 8, 9, 10, 11, 12, 13, 14, 15, 16, 17, 18, 19, 20, 21, 22, 23], 24), ([], 25), ([], 26)] [27, 28] (some 29) (by kernel_rfl) (by kernel_rfl) hI ?_
                  refine OrdI_cons ?_
                  (apply StI_plain (w0 := w5.drew) hI rfl rfl rfl rfl; (focus (intro W hW K hK; have s1 := hW.cell (b := rb) (by simp); have s2 := hW.cell (b := q22) (by simp); have s3 := hW.cell (b := q3) (by simp); have s4 := hW.cell (b := bgg) (by simp); have s5 := hW.cell (b := q19) (by simp); go_step; exact hK)); (focus rfl)); (apply StI_plain (w0 := w5.drew) hI rfl rfl rfl rfl; (focus (intro W hW K hK; have s1 := hW.cell (b := rb) (by simp); have s2 := hW.cell (b := q22) (by simp); have s3 := hW.cell (b := q3) (by simp); have s4 := hW.cell (b := bgg) (by simp); have s5 := hW.cell (b := q19) (by simp); go_step; exact hK)); (focus rfl)); (apply StI_plain (w0 := w5.drew) hI rfl rfl rfl rfl; (focus (intro W hW K hK; have s1 := hW.cell (b := rb) (by simp); have s2 := hW.cell (b := q22) (by simp); have s3 := hW.cell (b := q3) (by simp); have s4 := hW.cell (b := bgg) (by simp); have s5 := hW.cell (b := q19) (by simp); go_step; exact hK)); (focus rfl)); (apply StI_plain (w0 := w5.drew) hI rfl rfl rfl rfl; (focus (intro W hW K hK; have s1 := hW.cell (b := rb) (by simp); have s2 := hW.cell (b := q22) (by simp); have s3 := hW.cell (b := q3) (by simp); have s4 := hW.cell (b := bgg) (by simp); have s5 := hW.cell (b := q19) (by simp); go_step; exact hK)); (focus rfl)); (apply StI_plain (w0 := w5.drew) hI rfl rfl rfl rfl; (focus (intro W hW K hK; have s1 := hW.cell (b := rb) (by simp); have s2 := hW.cell (b := q22) (by simp); have s3 := hW.cell (b := q3) (by simp); have s4 := hW.cell (b := bgg) (by simp); have s5 := hW.cell (b := q19) (by simp); go_step; exact hK)); (focus rfl)); (apply StI_plain (w0 := w5.drew) hI rfl rfl rfl rfl; (focus (intro W hW K hK; have s1 := hW.cell (b := rb) (by simp); have s2 := hW.cell (b := q22) (by simp); have s3 := hW.cell (b := q3) (by simp); have s4 := hW.cell (b := bgg) (by simp); have s5 := hW.cell (b := q19) (by simp); go_step; exact hK)); (focus rfl)); (apply StI_plain (w0 := w5.drew) hI rfl rfl rfl rfl; (focus (intro W hW K hK; have s1 := hW.cell (b := rb) (by simp); have s2 := hW.cell (b := q22) (by simp); have s3 := hW.cell (b := q3) (by simp); have s4 := hW.cell (b := bgg) (by simp); have s5 := hW.cell (b := q19) (by simp); go_step; exact hK)); (focus rfl)); (apply StI_plain (w0 := w5.drew) hI rfl rfl rfl rfl; (focus (intro W hW K hK; have s1 := hW.cell (b := rb) (by simp); have s2 := hW.cell (b := q22) (by simp); have s3 := hW.cell (b := q3) (by simp); have s4 := hW.cell (b := bgg) (by simp); have s5 := hW.cell (b := q19) (by simp); go_step; exact hK)); (focus rfl)); (apply StI_plain (w0 := w5.drew) hI rfl rfl rfl rfl; (focus (intro W hW K hK; have s1 := hW.cell (b := rb) (by simp); have s2 := hW.cell (b := q22) (by simp); have s3 := hW.cell (b := q3) (by simp); have s4 := hW.cell (b := bgg) (by simp); have s5 := hW.cell (b := q19) (by simp); go_step; exact hK)); (focus rfl)); (apply StI_plain (w0 := w5.drew) hI rfl rfl rfl rfl; (focus (intro W hW K hK; have s1 := hW.cell (b := rb) (by simp); have s2 := hW.cell (b := q22) (by simp); have s3 := hW.cell (b := q3) (by simp); have s4 := hW.cell (b := bgg) (by simp); have s5 := hW.cell (b := q19) (by simp); go_step; exact hK)); (focus rfl)); (apply StI_plain (w0 := w5.drew) hI rfl rfl rfl rfl; (focus (intro W hW K hK; have s1 := hW.cell (b := rb) (by simp); have s2 := hW.cell (b := q22) (by simp); have s3 := hW.cell (b := q3) (by simp); have s4 := hW.cell (b := bgg) (by simp); have s5 := hW.cell (b := q19) (by simp); go_step; exact hK)); (focus rfl)); (apply StI_plain (w0 := w5.drew) hI rfl rfl rfl rfl; (focus (intro W hW K hK; have s1 := hW.cell (b := rb) (by simp); have s2 := hW.cell (b := q22) (by simp); have s3 := hW.cell (b := q3) (by simp); have s4 := hW.cell (b := bgg) (by simp); have s5 := hW.cell (b := q19) (by simp); go_step; exact hK)); (focus rfl)); (apply StI_plain (w0 := w5.drew) hI rfl rfl rfl rfl; (focus (intro W hW K hK; have s1 := hW.cell (b := rb) (by simp); have s2 := hW.cell (b := q22) (by simp); have s3 := hW.cell (b := q3) (by simp); have s4 := hW.cell (b := bgg) (by simp); have s5 := hW.cell (b := q19) (by simp); go_step; exact hK)); (focus rfl)); (apply StI_plain (w0 := w5.drew) hI rfl rfl rfl rfl; (focus (intro W hW K hK; have s1 := hW.cell (b := rb) (by simp); have s2 := hW.cell (b := q22) (by simp); have s3 := hW.cell (b := q3) (by simp); have s4 := hW.cell (b := bgg) (by simp); have s5 := hW.cell (b := q19) (by simp); go_step; exact hK)); (focus rfl)); (apply StI_plain (w0 := w5.drew) hI rfl rfl rfl rfl; (focus (intro W hW K hK; have s1 := hW.cell (b := rb) (by simp); have s2 := hW.cell (b := q22) (by simp); have s3 := hW.cell (b := q3) (by simp); have s4 := hW.cell (b := bgg) (by simp); have s5 := hW.cell (b := q19) (by simp); go_step; exact hK)); (focus rfl)); (apply StI_plain (w0 := w5.drew) hI rfl rfl rfl rfl; (focus (intro W hW K hK; have s1 := hW.cell (b := rb) (by simp); have s2 := hW.cell (b := q22) (by simp); have s3 := hW.cell (b := q3) (by simp); have s4 := hW.cell (b := bgg) (by simp); have s5 := hW.cell (b := q19) (by simp); go_step; exact hK)); (focus rfl)); (apply StI_plain (w0 := w5.drew) hI rfl rfl rfl rfl; (focus (intro W hW K hK; have s1 := hW.cell (b := rb) (by simp); have s2 := hW.cell (b := q22) (by simp); have s3 := hW.cell (b := q3) (by simp); have s4 := hW.cell (b := bgg) (by simp); have s5 := hW.cell (b := q19) (by simp); go_step; exact hK)); (focus rfl)); (apply StI_plain (w0 := w5.drew) hI rfl rfl rfl rfl; (focus (intro W hW K hK; have s1 := hW.cell (b := rb) (by simp); have s2 := hW.cell (b := q22) (by simp); have s3 := hW.cell (b := q3) (by simp); have s4 := hW.cell (b := bgg) (by simp); have s5 := hW.cell (b := q19) (by simp); go_step; exact hK)); (focus rfl)); (apply StI_plain (w0 := w5.drew) hI rfl rfl rfl rfl; (focus (intro W hW K hK; have s1 := hW.cell (b := rb) (by simp); have s2 := hW.cell (b := q22) (by simp); have s3 := hW.cell (b := q3) (by simp); have s4 := hW.cell (b := bgg) (by simp); have s5 := hW.cell (b := q19) (by simp); go_step; exact hK)); (focus rfl)); (apply StI_plain (w0 := w5.drew) hI rfl rfl rfl rfl; (focus (intro W hW K hK; have s1 := hW.cell (b := rb) (by simp); have s2 := hW.cell (b := q22) (by simp); have s3 := hW.cell (b := q3) (by simp); have s4 := hW.cell (b := bgg) (by simp); have s5 := hW.cell (b := q19) (by simp); go_step; exact hK)); (focus rfl)); (apply StI_plain (w0 := w5.drew) hI rfl rfl rfl rfl; (focus (intro W hW K hK; have s1 := hW.cell (b := rb) (by simp); have s2 := hW.cell (b := q22) (by simp); have s3 := hW.cell (b := q3) (by simp); have s4 := hW.cell (b := bgg) (by simp); have s5 := hW.cell (b := q19) (by simp); go_step; exact hK)); (focus rfl)); (apply StI_plain (w0 := w5.drew) hI rfl rfl rfl rfl; (focus (intro W hW K hK; have s1 := hW.cell (b := rb) (by simp); have s2 := hW.cell (b := q22) (by simp); have s3 := hW.cell (b := q3) (by simp); have s4 := hW.cell (b := bgg) (by simp); have s5 := hW.cell (b := q19) (by simp); go_step; exact hK)); (focus rfl)); (apply StI_plain (w0 := w5.drew) hI rfl rfl rfl rfl; (focus (intro W hW K hK; have s1 := hW.cell (b := rb) (by simp); have s2 := hW.cell (b := q22) (by simp); have s3 := hW.cell (b := q3) (by simp); have s4 := hW.cell (b := bgg) (by simp); have s5 := hW.cell (b := q19) (by simp); go_step; exact hK)); (focus rfl))
                  apply StI_plain (w0 := w5.drew) hI rfl rfl rfl rfl; (focus (intro W hW K hK; refine wp_op_build 172 _ rfl _ _ (build_wait k bo.group gr.place ((x.hops.length : Int) - bo.hop) bo.count) rfl ?_; exact hK)); (focus rfl)
                  obtain ⟨qp, hqp⟩ : ∃ n, w5.heap.size = n := ⟨_, rfl⟩
                  obtain ⟨x3, hx3⟩ : ∃ W, (w5.alloc (.cells #[.int .i64 k, .int .i64 bo.group, .int .i64 gr.place, .int .i64 ((x.hops.length : Int) - bo.hop), .int .i64 bo.count, .bool false] 172)).drew = W := ⟨_, rfl⟩
                  have hbw : boardWait T k x bo = ⟨k, bo.group, gr.place, (x.hops.length : Int) - bo.hop, bo.count, false⟩ := by
                    unfold boardWait Town.gr
                    rw [Hhgrq.out]
                  have xp : x3.heap[qp]? = some (.cells (waitCells (boardWait T k x bo)) 172 (0, 0)) := by rw [← hx3, ← hqp, hbw]; exact heap_drew' (heap_alloc_at _ _)
                  have hbx3 : Below w5.heap.size w5 x3 := by rw [← hx3]; exact bl_drew (bl_alloc (Below.refl _ _) _)
                  have hI3 : SameAt [rb, q22, q3, bgg, q19] w5 x3 := fun b hb => hbx3.block b (by simp only [List.mem_cons, List.not_mem_nil, or_false] at hb; rcases hb with rfl | rfl | rfl | rfl | rfl <;> assumption)
                  (apply StI_eff rfl; go_wp2_with fail)
                  (try rw [hx3]); (try rw [hqp])
                  refine onNormal_mk hI3 (OrdI_cons ?_)
                  obtain ⟨wn, hwn⟩ : ∃ n, x3.heap.size = n := ⟨_, rfl⟩
                  obtain ⟨w6, hw6⟩ : ∃ W, x3.alloc (.cells #[.pointer (some ⟨qp, 0, none⟩)] 170) = W := ⟨_, rfl⟩
                  have x6 : w6.heap[wn]? = some (.cells #[.pointer (some ⟨qp, 0, none⟩)] 170 (0, 0)) := by rw [← hw6, ← hwn]; exact heap_alloc_at _ _
                  have hb6 : Below x3.heap.size x3 w6 := by rw [← hw6]; exact bl_alloc (Below.refl _ _) _
                  have hb56 : Below w5.heap.size w5 w6 := hbx3.trans (hb6.mono hbx3.size)
                  have hI6 : SameAt [rb, q22, q3, bgg, q19] w5 w6 := fun b hb => hb56.block b (by simp only [List.mem_cons, List.not_mem_nil, or_false] at hb; rcases hb with rfl | rfl | rfl | rfl | rfl <;> assumption)
                  have hr6 := Hhr5.out.below hb56
                  have hrow6 := hr6.roww
                  obtain ⟨wl, hwlq⟩ : ∃ n, (rideWaits T p.rides k ++ (x.boards.take j).map (boardWait T k x)).length = n := ⟨_, rfl⟩
                  simp only at hrow6
                  rw [hwlq] at hrow6
                  have hle6 := hr6.le
                  have hbr6 : Below rb w3 w6 := Hhbr5.out.trans (hb56.mono hle5)
                  have xp6 := heap_below hb6 xp
                  have hblk6 := heap_below hb56 Hhblk5.out
                  have x196 : w6.heap[q19]? = some (.cells #[.int .i64 x.vehicle, .slice ah x.hops.length (x.hops.length + ch), .slice (some ⟨bb, offb, none⟩) x.boards.length bc] 53 (0, 0)) := heap_below hb56 Hx195.out
                  have hm6 : MapE encI intV w6 qm (metL p.rides (k + 1)) := MapE.same Hhm5.out (hb56.block qm (MapE.lt Hhm5.out))
                  have hbqp : rb ≤ qp := by omega
                  have hnew : ∀ i, i < (rideWaits T p.rides k ++ (x.boards.take j).map (boardWait T k x)).length → A2.wb i ≠ qp := fun i hi e => by have := Hhr5.out.lt (q := A2.wb i) (.inr (.inr (.inl ⟨i, hi, rfl⟩))); omega
                  have hwl : (rideWaits T p.rides k ++ (x.boards.take j).map (boardWait T k x)).length ≤ 100000 := by
                    have h1 := rideWaits_len (T := T) (l := p.rides) (fun y hy => (HhPG.out.rides y hy).nb) k (by omega)
                    have h2 := Hhrg.out.nb
                    simp only [List.length_append, List.length_map, List.length_take]
                    omega
                  rw [hwlq] at hwl
                  clear hwac hwal5 c22 c19 c3 l22 l19 l3' hI g05
                  have Hhwlq := Lib.hid hwlq; clear hwlq; have Hxp := Lib.hid xp; clear xp; have Hhbx3 := Lib.hid hbx3; clear hbx3; have Hhb6 := Lib.hid hb6; clear hb6; have Hhb56 := Lib.hid hb56; clear hb56; have Hhr6 := Lib.hid hr6; clear hr6; have Hhrow6 := Lib.hid hrow6; clear hrow6; have Hhbr6 := Lib.hid hbr6; clear hbr6; have Hxp6 := Lib.hid xp6; clear xp6; have Hhblk6 := Lib.hid hblk6; clear hblk6; have Hx6 := Lib.hid x6; clear x6; have Hx196 := Lib.hid x196; clear x196; have Hhm6 := Lib.hid hm6; clear hm6; have Hhnew := Lib.hid hnew; clear hnew; have Hhbw := Lib.hid hbw; clear hbw
                  (apply StI_eff rfl; go_wp2_with fail)
                  (try rw [hw6]); (try rw [hwn])
                  refine onNormal_mk hI6 (OrdI_cons ?_)
                  (apply StI_eff rfl; refine append_one rfl (.tmp 180) (.tmp 201) 158 170 (.pointer none) rfl infoPW Try.underlying158 rfl rb A2.vw _ _ rfl Hhrow6.out wn 1 (.pointer (some ⟨qp, 0, none⟩)) rfl Hx6.out rfl hwl hle6 ?_; intro g7 cap7 w7 hown hg; go_wp2_with fail)
                  have n1 : some rb ≠ A2.vw.ownBlock := fun e => row_ne Hhrow6.out Hhblk6.out (by decide) e.symm
                  have n2 : some q19 ≠ A2.vw.ownBlock := fun e => row_ne Hhrow6.out Hx196.out (by decide) e.symm
                  have hblk7 := (hg.block rb (lt_of_heap Hhblk6.out) n1).trans Hhblk6.out
                  have x197 := (hg.block q19 (lt_of_heap Hx196.out) n2).trans Hx196.out
                  have hm7 : MapE encI intV w7 qm (metL p.rides (k + 1)) := MapE.same Hhm6.out (hg.block qm (MapE.lt Hhm6.out) (row_ne_map Hhrow6.out Hhm6.out))
                  have n3 : some q22 ≠ A2.vw.ownBlock := fun e => row_ne Hhrow6.out (heap_below Hhb56.out Hx22.out) (by decide) e.symm
                  have n4 : some q3 ≠ A2.vw.ownBlock := fun e => by have := (Hhrow6.out.lt q3 e.symm).1; omega
                  have n5 : some bgg ≠ A2.vw.ownBlock := fun e => by have := (Hhrow6.out.lt bgg e.symm).1; omega
                  have hI7 : SameAt [rb, q22, q3, bgg, q19] w5 w7 := hI6.grown (fun b hb => by
                    have h0 := Hhb56.out.size
                    have h1 := lt_of_heap Hhblk5.out
                    have h2 := lt_of_heap Hx22.out
                    have h3 := lt_of_heap Hu35.out
                    have h4 := lt_of_heap Hx195.out
                    simp only [List.mem_cons, List.not_mem_nil, or_false] at hb
                    rcases hb with rfl | rfl | rfl | rfl | rfl <;> omega) hg (fun b hb => by
                    simp only [List.mem_cons, List.not_mem_nil, or_false] at hb
                    rcases hb with rfl | rfl | rfl | rfl | rfl <;> assumption)
                  have hown' := hown
                  rw [← Hhwlq.out] at hown'
                  have hfin := RunN.addW Hhr6.out HhB1.out HhB2.out HhB3.out Hhbr6.out (boardWait T k x bo) Hxp6.out hbqp Hhnew.out hg hown'
                  rw [Hhwlq.out] at hfin
                  obtain ⟨w9, hw9⟩ : ∃ W, w7.setCell ⟨rb, 8, none⟩ (.slice (some ⟨g7, 0, none⟩) (wl + 1) cap7) = W := ⟨_, rfl⟩
                  have x199 : w9.heap[q19]? = some (.cells #[.int .i64 x.vehicle, .slice ah x.hops.length (x.hops.length + ch), .slice (some ⟨bb, offb, none⟩) x.boards.length bc] 53 (0, 0)) := by rw [← hw9, setCell_other _ _ _ _ (cells_ne Hx196.out Hhblk6.out (by decide))]; exact x197
                  have hm9 : MapE encI intV w9 qm (metL p.rides (k + 1)) := MapE.same hm7 (by rw [← hw9]; exact setCell_other _ _ _ _ (Ne.symm (map_ne Hhblk6.out Hhm6.out)))
                  have hwac := cells_of hblk7
                  have hwaf := frozen_of hblk7
                  have hwal := lt_of_heap hblk7
                  simp only [runCells] at hwac
                  rw [hw9] at hfin
                  clear n1 n2 n3 n4 n5 hown hown' hm7 x197 hblk7 hg
                  have Hhfin := Lib.hid hfin; clear hfin; have Hhw9 := Lib.hid hw9; clear hw9; have Hx199 := Lib.hid x199; clear x199; have Hhm9 := Lib.hid hm9; clear hm9
                  refine onNormal_mk hI7 (OrdI_snk ?_)
                  (apply StI_plain (w0 := w7) hI7 rfl rfl rfl rfl; (focus (intro W hW K hK; skip; go_step; exact hK)); (focus rfl)); (apply StI_plain (w0 := w7) hI7 rfl rfl rfl rfl; (focus (intro W hW K hK; skip; go_step; exact hK)); (focus rfl))
                  (apply StI_eff rfl; go_wp2_with fail)
                  refine onNormal_last ?_
                  rw [Hhw9.out]
                  go_wp2_with fail
                  go_roundw
                  case rel => exact ⟨j + 1, by omega, by go_num, by rw [List.take_succ_eq_append_getElem hltj, List.map_append, ← List.append_assoc, Hhboq.out]; exact Hhfin.out, Hhm9.out, Hx199.out⟩
                  case measure => simp [intOf]; omega
                · obtain rfl : j = x.boards.length := by omega
                  as_aux_lemma =>
                  rw [List.take_length] at hrj
                  have hrw : rideWaits T p.rides (k + 1) = rideWaits T p.rides k ++ x.boards.map (boardWait T k x) := by
                    have e : p.rides.getD k ⟨0, [], []⟩ = x := by rw [List.getD_eq_getElem?_getD, List.getElem?_eq_getElem hltk]; exact Hhxq.out
                    show rideWaits T p.rides k ++ (p.rides.getD k ⟨0, [], []⟩).boards.map (boardWait T k (p.rides.getD k ⟨0, [], []⟩)) = _
                    rw [e]
                  rw [← hrw] at hrj
                  have Hhrj := Lib.hid hrj; clear hrj; have Hhbj := Lib.hid hbj; clear hbj; have Hhmj := Lib.hid hmj; clear hmj; have Hx19j := Lib.hid x19j; clear x19j; have HhB1 := Lib.hid hB1; clear hB1; have HhB2 := Lib.hid hB2; clear hB2; have HhB3 := Lib.hid hB3; clear hB3
                  go_wp2_with fail
                  go_roundw
                  case rel => exact ⟨k + 1, by omega, by go_num, ⟨⟨A2, HhB1.out, HhB2.out, HhB3.out, Hhrj.out⟩, Hhbj.out⟩, Hhmj.out⟩
                  case measure => simp [intOf]; omega
            · obtain rfl : k = p.rides.length := by omega
              as_aux_lemma =>
              go_wp2_with fail
              go_ret2
              have hbf : Below w.heap.size w wr := Hhbw.out.trans (hbk.mono (by have := Hhq3.out; omega))
              exact ⟨hbf, .inr ⟨Hhev.out.trans hv0, Hhec.out.trans hv0', rb, A, by have := Hhq3.out; omega, hA2, hA3, by rw [hA1]; rfl, hrk⟩⟩

end Go.Proofs.Ytjoihijlcpnhoaa
