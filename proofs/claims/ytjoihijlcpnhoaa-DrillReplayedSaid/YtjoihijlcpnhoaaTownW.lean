/- town: the walker's hop and error. -/
import Derived.Test.YtjoihijlcpnhoaaTownC
import Derived.Test.YtjoihijlcpnhoaaRowM
import Derived.Test.YtjoihijlcpnhoaaDataC
import Derived.RegionTactic
import Derived.ChangeAlike
import Derived.BigRegion
import Derived.Deep.DeepCutAuto
import Derived.Deep.RegionHeld3
import Derived.Test.YtjoihijlcpnhoaaOrdT
namespace Go.Proofs.Ytjoihijlcpnhoaa
open Go.RowKit

/-- The cells of a walker. -/
def wkCells (T : Town) (a1 a2 a3 a4 : Option Addr) (c1 c2 c3 c4 : Nat) (c p s : Int) (la cu we : Bool) : Array Value :=
  #[.int .i64 T.steps, .slice a1 T.places.length c1, .slice a2 T.ways.length c2, .slice a3 T.groups.length c3, .slice a4 T.vehicles.length c4, .int .i64 c, .int .i64 p, .int .i64 s, .bool la, .bool cu, .bool we]
def wkObj (T : Town) (a1 a2 a3 a4 : Option Addr) (c1 c2 c3 c4 : Nat) (c p s : Int) (la cu we : Bool) : Obj := .cells (wkCells T a1 a2 a3 a4 c1 c2 c3 c4 c p s la cu we) 204 (0, 0)
def wkOf (T : Town) (a1 a2 a3 a4 : Option Addr) (c1 c2 c3 c4 : Nat) (c : Int) (st : WSt) : Obj := wkObj T a1 a2 a3 a4 c1 c2 c3 c4 c st.place st.step st.late st.cut st.wet

def wayBox (x : Way) : Array Value := #[.int .i64 x.src, .int .i64 x.dst, .int .i64 x.s0, .int .i64 x.s1, .int .i64 x.s2, .int .i64 x.room, .int .i64 x.cars, .int .i64 x.till]

/-- In the midst of a hop: the walker, and the first two boxes of the call's own. -/
def HopS2 (w : World) (q : Nat) (h : Hop) (x : Way) (ob : Obj) (wx : World) : Prop :=
  Keeps [q] w wx ∧ wx.heap[q]? = some ob ∧ wx.heap[w.heap.size]? = some (.cells #[.int .i64 h.way, .int .i64 h.leave] 47 (0, 0)) ∧
  wx.heap[w.heap.size + 1]? = some (.cells (wayBox x) 77 (0, 0)) ∧ wx.heap.size = w.heap.size + 1 + 1
def HopSt (w : World) (q : Nat) (h : Hop) (x : Way) (ob : Obj) (wx : World) : Prop :=
  Keeps [q] w wx ∧ wx.heap[q]? = some ob ∧ wx.heap[w.heap.size]? = some (.cells #[.int .i64 h.way, .int .i64 h.leave] 47 (0, 0)) ∧
  wx.heap[w.heap.size + 1]? = some (.cells (wayBox x) 77 (0, 0)) ∧
  wx.heap[w.heap.size + 1 + 1]? = some (.cells #[.int .i64 x.src, .int .i64 h.leave] 121 (0, 0))

theorem wayBox_cells {w : World} {b : Nat} {x : Way} {e : TypeId} {f : Nat × Nat} (h : w.heap[b]? = some (.cells (wayBox x) e f)) (c : Int) (h0 : 0 ≤ c) (h3 : c < 3) :
    w.cell? ⟨b, 0, none⟩ = some (.int .i64 x.src) ∧ w.cell? ⟨b, 1, none⟩ = some (.int .i64 x.dst) ∧ w.cell? ⟨b, 5, none⟩ = some (.int .i64 x.room) ∧ w.cell? ⟨b, 6, none⟩ = some (.int .i64 x.cars) ∧ w.cell? ⟨b, 7, none⟩ = some (.int .i64 x.till) ∧
    w.cell? ⟨b, 2 + c.toNat, none⟩ = some (.int .i64 (x.steps c)) := by
  have hc := cells_of h
  refine ⟨by rw [hc]; rfl, by rw [hc]; rfl, by rw [hc]; rfl, by rw [hc]; rfl, by rw [hc]; rfl, ?_⟩
  rw [hc]
  have : c = 0 ∨ c = 1 ∨ c = 2 := by omega
  rcases this with rfl | rfl | rfl <;> rfl

theorem TownM.drew {B : Nat} {w : World} {a1 a2 a3 a4 : Option Addr} {T : Town} (h : TownM B w a1 a2 a3 a4 T) : TownM B w.drew a1 a2 a3 a4 T := ⟨h.places, h.ways, h.groups, h.vehicles⟩
theorem dry_val (T : Town) (a1 a2 a3 a4 : Option Addr) (c1 c2 c3 c4 : Nat) (B : Nat) (p s : Int) (v : Bool) (hv : T.dry p s = v) (w : World) (hT : TownM B w a1 a2 a3 a4 T) (hB : B ≤ w.heap.size) (h0 : 0 ≤ p) (h1 : p < (T.places.length : Int)) :
    Calls Try.prog 45 #[.agg #[.int .i64 T.steps, .slice a1 T.places.length c1, .slice a2 T.ways.length c2, .slice a3 T.groups.length c3, .slice a4 T.vehicles.length c4], .agg #[.int .i64 p, .int .i64 s]] w fun e w' => e = .returned (.bool v) ∧ Below w.heap.size w w' := by
  subst hv
  exact dry_any T _ _ _ _ _ _ _ _ B p s w hT hB h0 h1

set_option maxHeartbeats 2000000 in
set_option maxRecDepth 100000 in
theorem hop_any (T : Town) (a1 a2 a3 a4 : Option Addr) (c1 c2 c3 c4 : Nat) (B : Nat) (q : Nat) (c : Int) (st : WSt) (h : Hop) (w : World) (hT : TownM B w a1 a2 a3 a4 T) (hB : B ≤ w.heap.size) (hBq : B ≤ q)
    (hq : w.heap[q]? = some (wkOf T a1 a2 a3 a4 c1 c2 c3 c4 c st))
    (h0 : 0 ≤ h.way) (h1 : h.way < (T.ways.length : Int)) (hc0 : 0 ≤ c) (hc3 : c < 3)
    (b1 : 0 ≤ h.leave ∧ h.leave ≤ 200) (b2 : 0 ≤ (T.wy h.way).steps c ∧ (T.wy h.way).steps c ≤ 200)
    (p1 : 0 ≤ (T.wy h.way).src ∧ (T.wy h.way).src < (T.places.length : Int)) (p2 : 0 ≤ (T.wy h.way).dst ∧ (T.wy h.way).dst < (T.places.length : Int)) :
    Calls Try.prog 93 #[.pointer (some ⟨q, 0, none⟩), .agg #[.int .i64 h.way, .int .i64 h.leave]] w
      fun e w' => e = .returned (.bool (hopStep T c st h).isSome) ∧ Keeps [q] w w' ∧ w'.heap[q]? = some (wkOf T a1 a2 a3 a4 c1 c2 c3 c4 c ((hopStep T c st h).getD st)) := by
  obtain ⟨x, hx⟩ : ∃ x, x = T.wy h.way := ⟨_, rfl⟩
  rw [← hx] at b2 p1 p2
  obtain ⟨p, s, la, cu, we⟩ := st
  replace hq : w.heap[q]? = some (wkObj T a1 a2 a3 a4 c1 c2 c3 c4 c p s la cu we) := hq
  have hqc := cells_of hq
  simp only [wkCells] at hqc
  have hqf := frozen_of hq
  have hqs := lt_of_heap hq
  have hT' := hT
  obtain ⟨_, _, _, _, _, _, _⟩ := lts hqs
  obtain ⟨b, off, ha2, hb, he⟩ := hT.ways.at h0 h1 Way.z
  have hbw : b < w.heap.size := by omega
  have hl := hT.ways.1
  have he' : WayE w b (off + h.way.toNat * 8) x := by rw [hx]; exact he
  clear he
  obtain ⟨e0, e1, e2, e3, e4, e5, e6, e7⟩ := he'
  obtain ⟨b1a, b1b⟩ := b1
  obtain ⟨b2a, b2b⟩ := b2
  obtain ⟨p1a, p1b⟩ := p1
  obtain ⟨p2a, p2b⟩ := p2
  subst ha2
  have hstep := hopStep_eq T c p s la cu we h
  rw [← hx] at hstep
  have Hhx := Lib.hid hx; clear hx; have HhT := Lib.hid hT; clear hT; have HhT' := Lib.hid hT'; clear hT'; have Hhq := Lib.hid hq; clear hq; have Hhstep := Lib.hid hstep; clear hstep
  go_enter Try.func93, Try.ntmps93
  go_upto_region 1 with fail
  go_cut [5] from 7 to 15 (fun v wx => v = .pointer (some ⟨w.heap.size + 1, 0, none⟩) ∧ HopS2 w q h x (wkObj T a1 (some ⟨b, off, none⟩) a3 a4 c1 c2 c3 c4 c p s la cu we) wx)
  case first =>
    go_region
    go_wp2_with fail
    go_meet
    exact ⟨rfl, (by repeat (first | with_reducible exact Keeps.refl _ _ | with_reducible refine Keeps.drew ?_ | with_reducible refine Keeps.drewN ?_ _ | with_reducible refine Keeps.alloc ?_ _ | (with_reducible refine Keeps.setCell ?_ _ _ ?_; rotate_left; focus (first | (simp; done) | (simp; omega))) | with_reducible assumption | with_reducible refine Keeps.stepB ?_ (by with_reducible assumption))), by have := Hhq.out; repeat (first | with_reducible assumption | (with_reducible refine heap_alloc_at' _ _ ?_; focus (simp; done)) | with_reducible refine heap_alloc_off ?_ _ | (with_reducible refine heap_setCell_off ?_ _ ?_; rotate_left; focus omega) | with_reducible refine heap_drew' ?_ | with_reducible refine heap_drewN' ?_ | with_reducible refine heap_below (by with_reducible assumption) ?_), (by repeat (first | with_reducible assumption | (with_reducible refine heap_alloc_at' _ _ ?_; focus (simp; done)) | with_reducible refine heap_alloc_off ?_ _ | (with_reducible refine heap_setCell_off ?_ _ ?_; rotate_left; focus omega) | with_reducible refine heap_drew' ?_ | with_reducible refine heap_drewN' ?_ | with_reducible refine heap_below (by with_reducible assumption) ?_)), by unfold wayBox; repeat (first | with_reducible assumption | (with_reducible refine heap_alloc_at' _ _ ?_; focus (simp; done)) | with_reducible refine heap_alloc_off ?_ _ | (with_reducible refine heap_setCell_off ?_ _ ?_; rotate_left; focus omega) | with_reducible refine heap_drew' ?_ | with_reducible refine heap_drewN' ?_ | with_reducible refine heap_below (by with_reducible assumption) ?_), by simp⟩
  case rest =>
    obtain ⟨rfl, k1, q1, x0, x1, ks⟩ := hcut
    clear hqc hqf e0 e1 e2 e3 e4 e5 e6 e7
    have q1c := cells_of q1
    simp only [wkCells] at q1c
    have x0c := cells_of x0
    obtain ⟨y0, y1, y5, y6, y7, yc⟩ := wayBox_cells x1 c hc0 hc3
    have Hk1 := Lib.hid k1; clear k1; have Hq1 := Lib.hid q1; clear q1; have Hx0 := Lib.hid x0; clear x0; have Hx1 := Lib.hid x1; clear x1; have Hks := Lib.hid ks; clear ks
    go_upto_region 2 with fail
    go_cut [43] from 7 to 42 (fun v wy => v = .bool (hopBad x c p s h) ∧ HopS2 w q h x (wkObj T a1 (some ⟨b, off, none⟩) a3 a4 c1 c2 c3 c4 c p s la cu we) wy)
    case first =>
      by_cases g1 : (x.src != p) = true
      · go_quiet (fail)
        go_wp2_with fail
        go_meet
        exact ⟨by simp [hopBad, g1], by have := Hk1.out; repeat (first | with_reducible exact Keeps.refl _ _ | with_reducible refine Keeps.drew ?_ | with_reducible refine Keeps.drewN ?_ _ | with_reducible refine Keeps.alloc ?_ _ | (with_reducible refine Keeps.setCell ?_ _ _ ?_; rotate_left; focus (first | (simp; done) | (simp; omega))) | with_reducible assumption | with_reducible refine Keeps.stepB ?_ (by with_reducible assumption)), heap_drewN' Hq1.out, heap_drewN' Hx0.out, heap_drewN' Hx1.out, Hks.out⟩
      · have g1' : (x.src != p) = false := by simpa using g1
        clear g1
        by_cases g2 : h.leave < s
        · have g2' : decide (h.leave < s) = true := by simpa using g2
          go_quiet (fail)
          go_wp2_with fail
          go_meet
          exact ⟨by simp [hopBad, g2], by have := Hk1.out; repeat (first | with_reducible exact Keeps.refl _ _ | with_reducible refine Keeps.drew ?_ | with_reducible refine Keeps.drewN ?_ _ | with_reducible refine Keeps.alloc ?_ _ | (with_reducible refine Keeps.setCell ?_ _ _ ?_; rotate_left; focus (first | (simp; done) | (simp; omega))) | with_reducible assumption | with_reducible refine Keeps.stepB ?_ (by with_reducible assumption)), heap_drewN' Hq1.out, heap_drewN' Hx0.out, heap_drewN' Hx1.out, Hks.out⟩
        · have g2' : decide (h.leave < s) = false := by simpa using g2
          have g2'' : s ≤ h.leave := by omega
          clear g2
          go_quiet (fail)
          go_wp2_with fail
          go_meet
          exact ⟨by simp [hopBad, g1', g2'], by have := Hk1.out; repeat (first | with_reducible exact Keeps.refl _ _ | with_reducible refine Keeps.drew ?_ | with_reducible refine Keeps.drewN ?_ _ | with_reducible refine Keeps.alloc ?_ _ | (with_reducible refine Keeps.setCell ?_ _ _ ?_; rotate_left; focus (first | (simp; done) | (simp; omega))) | with_reducible assumption | with_reducible refine Keeps.stepB ?_ (by with_reducible assumption)), heap_drewN' Hq1.out, heap_drewN' Hx0.out, heap_drewN' Hx1.out, Hks.out⟩
    case rest =>
      clear q1c x0c y0 y1 y5 y6 y7 yc Hk1 Hq1 Hx0 Hx1 Hks
      obtain ⟨rfl, k1, q1, x0, x1, ks⟩ := hcut
      have q1c := cells_of q1
      simp only [wkCells] at q1c
      have x0c := cells_of x0
      obtain ⟨y0, y1, y5, y6, y7, yc⟩ := wayBox_cells x1 c hc0 hc3
      have q1l := lt_of_heap q1
      have x0l := lt_of_heap x0
      have x1l := lt_of_heap x1
      have Hk1 := Lib.hid k1; clear k1; have Hq1 := Lib.hid q1; clear q1; have Hx0 := Lib.hid x0; clear x0; have Hx1 := Lib.hid x1; clear x1; have Hks := Lib.hid ks; clear ks
      cases hbad : hopBad x c p s h
      · have hres := Hhstep.out
        rw [if_neg (by rw [hbad]; simp)] at hres
        have Hhres := Lib.hid hres; clear hres; have Hhbad := Lib.hid hbad; clear hbad
        have q1f := frozen_of Hq1.out
        go_upto_region 5 with fail
        go_cut [6] from 7 to 64 (fun v wx => v = .pointer (some ⟨w.heap.size + 1 + 1, 0, none⟩) ∧ HopSt w q h x (wkObj T a1 (some ⟨b, off, none⟩) a3 a4 c1 c2 c3 c4 c x.dst (h.leave + x.steps c) la cu we) wx)
        case first =>
          have kss := Hks.out
          have qne : q ≠ wc.heap.size := by have := kss; omega
          have Hkss := Lib.hid kss; clear kss
          go_region
          go_wp2_with fail
          go_meet
          exact ⟨by rw [Hks.out], by have := Hk1.out; repeat (first | with_reducible exact Keeps.refl _ _ | with_reducible refine Keeps.drew ?_ | with_reducible refine Keeps.drewN ?_ _ | with_reducible refine Keeps.alloc ?_ _ | (with_reducible refine Keeps.setCell ?_ _ _ ?_; rotate_left; focus (first | (simp; done) | (simp; omega))) | with_reducible assumption | with_reducible refine Keeps.stepB ?_ (by with_reducible assumption)), heap_drew' (heap_alloc_off ((heap_setCell_at (heap_setCell_at Hq1.out _) _).trans rfl) _), by have := Hx0.out; repeat (first | with_reducible assumption | (with_reducible refine heap_alloc_at' _ _ ?_; focus (simp; done)) | with_reducible refine heap_alloc_off ?_ _ | (with_reducible refine heap_setCell_off ?_ _ ?_; rotate_left; focus omega) | with_reducible refine heap_drew' ?_ | with_reducible refine heap_drewN' ?_ | with_reducible refine heap_below (by with_reducible assumption) ?_), by have := Hx1.out; repeat (first | with_reducible assumption | (with_reducible refine heap_alloc_at' _ _ ?_; focus (simp; done)) | with_reducible refine heap_alloc_off ?_ _ | (with_reducible refine heap_setCell_off ?_ _ ?_; rotate_left; focus omega) | with_reducible refine heap_drew' ?_ | with_reducible refine heap_drewN' ?_ | with_reducible refine heap_below (by with_reducible assumption) ?_), heap_drew' (heap_alloc_at' _ _ (by simp [World.setCell]; exact Hks.out.symm))⟩
        case rest =>
          have x2l := trivial
          have k1s := trivial
          have x2c := trivial
          obtain ⟨rfl, k1, q1, x0, x1, x2⟩ := hcut
          clear q1c q1f x0c Hk1 Hq1 Hx0 Hx1 y0 y1 y5 y6 y7 yc
          have q1c := cells_of q1
          simp only [wkCells] at q1c
          have q1f := frozen_of q1
          have x0c := cells_of x0
          obtain ⟨y0, y1, y5, y6, y7, yc⟩ := wayBox_cells x1 c hc0 hc3
          have x2c := cells_of x2
          have k1s := k1.size
          have x2l := lt_of_heap x2
          have Hk1 := Lib.hid k1; clear k1; have Hq1 := Lib.hid q1; clear q1; have Hx0 := Lib.hid x0; clear x0; have Hx1 := Lib.hid x1; clear x1; have Hx2 := Lib.hid x2; clear x2
          go_upto_region 6 with fail
          go_cut [] from 7 to 84 (fun wx => HopSt w q h x (wkObj T a1 (some ⟨b, off, none⟩) a3 a4 c1 c2 c3 c4 c x.dst (h.leave + x.steps c) (la || decide (T.steps < h.leave + x.steps c)) cu we) wx)
          case first =>
            cases la
            · go_region
              all_goals (go_wp2_with fail; go_meet; exact ⟨by have := Hk1.out; repeat (first | with_reducible exact Keeps.refl _ _ | with_reducible refine Keeps.drew ?_ | with_reducible refine Keeps.drewN ?_ _ | with_reducible refine Keeps.alloc ?_ _ | (with_reducible refine Keeps.setCell ?_ _ _ ?_; rotate_left; focus (first | (simp; done) | (simp; omega))) | with_reducible assumption | with_reducible refine Keeps.stepB ?_ (by with_reducible assumption)), heap_drew' ((heap_setCell_at Hq1.out _).trans rfl), by have := Hx0.out; repeat (first | with_reducible assumption | (with_reducible refine heap_alloc_at' _ _ ?_; focus (simp; done)) | with_reducible refine heap_alloc_off ?_ _ | (with_reducible refine heap_setCell_off ?_ _ ?_; rotate_left; focus omega) | with_reducible refine heap_drew' ?_ | with_reducible refine heap_drewN' ?_ | with_reducible refine heap_below (by with_reducible assumption) ?_), by have := Hx1.out; repeat (first | with_reducible assumption | (with_reducible refine heap_alloc_at' _ _ ?_; focus (simp; done)) | with_reducible refine heap_alloc_off ?_ _ | (with_reducible refine heap_setCell_off ?_ _ ?_; rotate_left; focus omega) | with_reducible refine heap_drew' ?_ | with_reducible refine heap_drewN' ?_ | with_reducible refine heap_below (by with_reducible assumption) ?_), by have := Hx2.out; repeat (first | with_reducible assumption | (with_reducible refine heap_alloc_at' _ _ ?_; focus (simp; done)) | with_reducible refine heap_alloc_off ?_ _ | (with_reducible refine heap_setCell_off ?_ _ ?_; rotate_left; focus omega) | with_reducible refine heap_drew' ?_ | with_reducible refine heap_drewN' ?_ | with_reducible refine heap_below (by with_reducible assumption) ?_)⟩)
            · go_region
              all_goals (go_wp2_with fail; go_meet; exact ⟨by have := Hk1.out; repeat (first | with_reducible exact Keeps.refl _ _ | with_reducible refine Keeps.drew ?_ | with_reducible refine Keeps.drewN ?_ _ | with_reducible refine Keeps.alloc ?_ _ | (with_reducible refine Keeps.setCell ?_ _ _ ?_; rotate_left; focus (first | (simp; done) | (simp; omega))) | with_reducible assumption | with_reducible refine Keeps.stepB ?_ (by with_reducible assumption)), heap_drew' ((heap_setCell_at Hq1.out _).trans rfl), by have := Hx0.out; repeat (first | with_reducible assumption | (with_reducible refine heap_alloc_at' _ _ ?_; focus (simp; done)) | with_reducible refine heap_alloc_off ?_ _ | (with_reducible refine heap_setCell_off ?_ _ ?_; rotate_left; focus omega) | with_reducible refine heap_drew' ?_ | with_reducible refine heap_drewN' ?_ | with_reducible refine heap_below (by with_reducible assumption) ?_), by have := Hx1.out; repeat (first | with_reducible assumption | (with_reducible refine heap_alloc_at' _ _ ?_; focus (simp; done)) | with_reducible refine heap_alloc_off ?_ _ | (with_reducible refine heap_setCell_off ?_ _ ?_; rotate_left; focus omega) | with_reducible refine heap_drew' ?_ | with_reducible refine heap_drewN' ?_ | with_reducible refine heap_below (by with_reducible assumption) ?_), by have := Hx2.out; repeat (first | with_reducible assumption | (with_reducible refine heap_alloc_at' _ _ ?_; focus (simp; done)) | with_reducible refine heap_alloc_off ?_ _ | (with_reducible refine heap_setCell_off ?_ _ ?_; rotate_left; focus omega) | with_reducible refine heap_drew' ?_ | with_reducible refine heap_drewN' ?_ | with_reducible refine heap_below (by with_reducible assumption) ?_)⟩)
          case rest =>
            clear x2c k1s x2l Hx2
            obtain ⟨k1, q1, x0, x1, x2⟩ := hcut
            clear q1c q1f x0c Hk1 Hq1 Hx0 Hx1 y0 y1 y5 y6 y7 yc
            have q1c := cells_of q1
            simp only [wkCells] at q1c
            have q1f := frozen_of q1
            have x0c := cells_of x0
            obtain ⟨y0, y1, y5, y6, y7, yc⟩ := wayBox_cells x1 c hc0 hc3
            have x2c := cells_of x2
            have k1s := k1.size
            have x2l := lt_of_heap x2
            have Hk1 := Lib.hid k1; clear k1; have Hq1 := Lib.hid q1; clear q1; have Hx0 := Lib.hid x0; clear x0; have Hx1 := Lib.hid x1; clear x1; have Hx2 := Lib.hid x2; clear x2
            go_upto_region 7 with fail
            go_cut [] from 7 to 101 (fun wx => HopSt w q h x (wkObj T a1 (some ⟨b, off, none⟩) a3 a4 c1 c2 c3 c4 c x.dst (h.leave + x.steps c) (la || decide (T.steps < h.leave + x.steps c)) (cu || decide (x.till < h.leave + x.steps c)) we) wx)
            case first =>
              cases cu
              · go_region
                all_goals (go_wp2_with fail; go_meet; exact ⟨by have := Hk1.out; repeat (first | with_reducible exact Keeps.refl _ _ | with_reducible refine Keeps.drew ?_ | with_reducible refine Keeps.drewN ?_ _ | with_reducible refine Keeps.alloc ?_ _ | (with_reducible refine Keeps.setCell ?_ _ _ ?_; rotate_left; focus (first | (simp; done) | (simp; omega))) | with_reducible assumption | with_reducible refine Keeps.stepB ?_ (by with_reducible assumption)), heap_drew' ((heap_setCell_at Hq1.out _).trans rfl), by have := Hx0.out; repeat (first | with_reducible assumption | (with_reducible refine heap_alloc_at' _ _ ?_; focus (simp; done)) | with_reducible refine heap_alloc_off ?_ _ | (with_reducible refine heap_setCell_off ?_ _ ?_; rotate_left; focus omega) | with_reducible refine heap_drew' ?_ | with_reducible refine heap_drewN' ?_ | with_reducible refine heap_below (by with_reducible assumption) ?_), by have := Hx1.out; repeat (first | with_reducible assumption | (with_reducible refine heap_alloc_at' _ _ ?_; focus (simp; done)) | with_reducible refine heap_alloc_off ?_ _ | (with_reducible refine heap_setCell_off ?_ _ ?_; rotate_left; focus omega) | with_reducible refine heap_drew' ?_ | with_reducible refine heap_drewN' ?_ | with_reducible refine heap_below (by with_reducible assumption) ?_), by have := Hx2.out; repeat (first | with_reducible assumption | (with_reducible refine heap_alloc_at' _ _ ?_; focus (simp; done)) | with_reducible refine heap_alloc_off ?_ _ | (with_reducible refine heap_setCell_off ?_ _ ?_; rotate_left; focus omega) | with_reducible refine heap_drew' ?_ | with_reducible refine heap_drewN' ?_ | with_reducible refine heap_below (by with_reducible assumption) ?_)⟩)
              · go_region
                all_goals (go_wp2_with fail; go_meet; exact ⟨by have := Hk1.out; repeat (first | with_reducible exact Keeps.refl _ _ | with_reducible refine Keeps.drew ?_ | with_reducible refine Keeps.drewN ?_ _ | with_reducible refine Keeps.alloc ?_ _ | (with_reducible refine Keeps.setCell ?_ _ _ ?_; rotate_left; focus (first | (simp; done) | (simp; omega))) | with_reducible assumption | with_reducible refine Keeps.stepB ?_ (by with_reducible assumption)), heap_drew' ((heap_setCell_at Hq1.out _).trans rfl), by have := Hx0.out; repeat (first | with_reducible assumption | (with_reducible refine heap_alloc_at' _ _ ?_; focus (simp; done)) | with_reducible refine heap_alloc_off ?_ _ | (with_reducible refine heap_setCell_off ?_ _ ?_; rotate_left; focus omega) | with_reducible refine heap_drew' ?_ | with_reducible refine heap_drewN' ?_ | with_reducible refine heap_below (by with_reducible assumption) ?_), by have := Hx1.out; repeat (first | with_reducible assumption | (with_reducible refine heap_alloc_at' _ _ ?_; focus (simp; done)) | with_reducible refine heap_alloc_off ?_ _ | (with_reducible refine heap_setCell_off ?_ _ ?_; rotate_left; focus omega) | with_reducible refine heap_drew' ?_ | with_reducible refine heap_drewN' ?_ | with_reducible refine heap_below (by with_reducible assumption) ?_), by have := Hx2.out; repeat (first | with_reducible assumption | (with_reducible refine heap_alloc_at' _ _ ?_; focus (simp; done)) | with_reducible refine heap_alloc_off ?_ _ | (with_reducible refine heap_setCell_off ?_ _ ?_; rotate_left; focus omega) | with_reducible refine heap_drew' ?_ | with_reducible refine heap_drewN' ?_ | with_reducible refine heap_below (by with_reducible assumption) ?_)⟩)
            case rest =>
              clear x2c k1s x2l Hx2
              obtain ⟨k1, q1, x0, x1, x2⟩ := hcut
              clear q1c q1f x0c Hk1 Hq1 Hx0 Hx1 y0 y1 y5 y6 y7 yc
              have q1c := cells_of q1
              simp only [wkCells] at q1c
              have q1f := frozen_of q1
              have x0c := cells_of x0
              obtain ⟨y0, y1, y5, y6, y7, yc⟩ := wayBox_cells x1 c hc0 hc3
              have x2c := cells_of x2
              have k1s := k1.size
              have x2l := lt_of_heap x2
              have Hk1 := Lib.hid k1; clear k1; have Hq1 := Lib.hid q1; clear q1; have Hx0 := Lib.hid x0; clear x0; have Hx1 := Lib.hid x1; clear x1; have Hx2 := Lib.hid x2; clear x2
              have hTc := HhT.out.below (Hk1.out.below hB (by simpa using hBq))
              have hBc : B ≤ wc.heap.size := by omega
              have HhTc := Lib.hid hTc; clear hTc
              have hI0 : Below wc.heap.size wc wc.drew := (Below.refl _ _).drew
              have hqlt := lt_of_heap Hq1.out
              cases we
              · go_upto_region 8 with fail
                refine wp_region_ord (fun W => Below wc.heap.size wc W) [([0, 1, 2, 3, 4, 5, 6, 7, 8, 9, 10], 11), ([12, 13, 14, 15, 16, 17, 18, 19, 20, 21, 22], 23)] [24, 25, 26, 27] (some 28) (by kernel_rfl) (by kernel_rfl) hI0 ?_
                refine OrdI_cons ?_
                (apply StI_plain (w0 := wc.drew) hI0 rfl rfl rfl rfl; (focus (intro W hW K hK; obtain ⟨_, _⟩ := bk q hW hqlt; obtain ⟨_, _⟩ := bk (w.heap.size + 1 + 1) hW x2l; go_step; exact hK)); (focus rfl)); (apply StI_plain (w0 := wc.drew) hI0 rfl rfl rfl rfl; (focus (intro W hW K hK; obtain ⟨_, _⟩ := bk q hW hqlt; obtain ⟨_, _⟩ := bk (w.heap.size + 1 + 1) hW x2l; go_step; exact hK)); (focus rfl)); (apply StI_plain (w0 := wc.drew) hI0 rfl rfl rfl rfl; (focus (intro W hW K hK; obtain ⟨_, _⟩ := bk q hW hqlt; obtain ⟨_, _⟩ := bk (w.heap.size + 1 + 1) hW x2l; go_step; exact hK)); (focus rfl)); (apply StI_plain (w0 := wc.drew) hI0 rfl rfl rfl rfl; (focus (intro W hW K hK; obtain ⟨_, _⟩ := bk q hW hqlt; obtain ⟨_, _⟩ := bk (w.heap.size + 1 + 1) hW x2l; go_step; exact hK)); (focus rfl)); (apply StI_plain (w0 := wc.drew) hI0 rfl rfl rfl rfl; (focus (intro W hW K hK; obtain ⟨_, _⟩ := bk q hW hqlt; obtain ⟨_, _⟩ := bk (w.heap.size + 1 + 1) hW x2l; go_step; exact hK)); (focus rfl)); (apply StI_plain (w0 := wc.drew) hI0 rfl rfl rfl rfl; (focus (intro W hW K hK; obtain ⟨_, _⟩ := bk q hW hqlt; obtain ⟨_, _⟩ := bk (w.heap.size + 1 + 1) hW x2l; go_step; exact hK)); (focus rfl)); (apply StI_yes (w0 := wc.drew) hI0; (focus rfl); (focus rfl); (focus rfl); (focus rfl); (focus rfl); (focus rfl); (focus rfl); (focus (intro W hW K hK; obtain ⟨_, _⟩ := bk q hW hqlt; obtain ⟨_, _⟩ := bk (w.heap.size + 1 + 1) hW x2l; go_step; exact hK)); (focus rfl)); (apply StI_yes (w0 := wc.drew) hI0; (focus rfl); (focus rfl); (focus rfl); (focus rfl); (focus rfl); (focus rfl); (focus rfl); (focus (intro W hW K hK; obtain ⟨_, _⟩ := bk q hW hqlt; obtain ⟨_, _⟩ := bk (w.heap.size + 1 + 1) hW x2l; go_step; exact hK)); (focus rfl)); (apply StI_yes (w0 := wc.drew) hI0; (focus rfl); (focus rfl); (focus rfl); (focus rfl); (focus rfl); (focus rfl); (focus rfl); (focus (intro W hW K hK; obtain ⟨_, _⟩ := bk q hW hqlt; obtain ⟨_, _⟩ := bk (w.heap.size + 1 + 1) hW x2l; go_step; exact hK)); (focus rfl)); (apply StI_yes (w0 := wc.drew) hI0; (focus rfl); (focus rfl); (focus rfl); (focus rfl); (focus rfl); (focus rfl); (focus rfl); (focus (intro W hW K hK; obtain ⟨_, _⟩ := bk q hW hqlt; obtain ⟨_, _⟩ := bk (w.heap.size + 1 + 1) hW x2l; go_step; exact hK)); (focus rfl)); (apply StI_yes (w0 := wc.drew) hI0; (focus rfl); (focus rfl); (focus rfl); (focus rfl); (focus rfl); (focus rfl); (focus rfl); (focus (intro W hW K hK; obtain ⟨_, _⟩ := bk q hW hqlt; obtain ⟨_, _⟩ := bk (w.heap.size + 1 + 1) hW x2l; go_step; exact hK)); (focus rfl))
                cases hd1 : T.dry x.src h.leave
                · (apply StI_eff rfl; go_wp2_with (first | (go_at_call 45; refine (dry_val T _ _ _ _ _ _ _ _ B (x.src) (h.leave) false hd1 _ (by exact HhTc.out.drew) (by exact hBc) p1a p1b).mono ?_; rintro e w1 ⟨rfl, hb1⟩)))
                  have hI1 := hI0.trans hb1
                  refine onNormal_mk hI1 (OrdI_cons ?_)
                  (apply StI_yes (w0 := w1) hI1; (focus rfl); (focus rfl); (focus rfl); (focus rfl); (focus rfl); (focus rfl); (focus rfl); (focus (intro W hW K hK; obtain ⟨_, _⟩ := bk q hW hqlt; obtain ⟨_, _⟩ := bk (w.heap.size + 1 + 1) hW x2l; go_step; exact hK)); (focus rfl)); (apply StI_plain (w0 := w1) hI1 rfl rfl rfl rfl; (focus (intro W hW K hK; obtain ⟨_, _⟩ := bk q hW hqlt; obtain ⟨_, _⟩ := bk (w.heap.size + 1 + 1) hW x2l; go_step; exact hK)); (focus rfl)); (apply StI_plain (w0 := w1) hI1 rfl rfl rfl rfl; (focus (intro W hW K hK; obtain ⟨_, _⟩ := bk q hW hqlt; obtain ⟨_, _⟩ := bk (w.heap.size + 1 + 1) hW x2l; go_step; exact hK)); (focus rfl)); (apply StI_no2; (focus rfl); (focus rfl); (focus rfl); (focus rfl); (focus rfl); (focus rfl); (focus (simp only [Act.put, List.setIfInBounds_toArray, List.set_cons_succ, List.set_cons_zero]; exact rfl))); (apply StI_no2; (focus rfl); (focus rfl); (focus rfl); (focus rfl); (focus rfl); (focus rfl); (focus (simp only [Act.put, List.setIfInBounds_toArray, List.set_cons_succ, List.set_cons_zero]; exact rfl))); (apply StI_no2; (focus rfl); (focus rfl); (focus rfl); (focus rfl); (focus rfl); (focus rfl); (focus (simp only [Act.put, List.setIfInBounds_toArray, List.set_cons_succ, List.set_cons_zero]; exact rfl))); (apply StI_no2; (focus rfl); (focus rfl); (focus rfl); (focus rfl); (focus rfl); (focus rfl); (focus (simp only [Act.put, List.setIfInBounds_toArray, List.set_cons_succ, List.set_cons_zero]; exact rfl))); (apply StI_no2; (focus rfl); (focus rfl); (focus rfl); (focus rfl); (focus rfl); (focus rfl); (focus (simp only [Act.put, List.setIfInBounds_toArray, List.set_cons_succ, List.set_cons_zero]; exact rfl))); (apply StI_no2; (focus rfl); (focus rfl); (focus rfl); (focus rfl); (focus rfl); (focus rfl); (focus (simp only [Act.put, List.setIfInBounds_toArray, List.set_cons_succ, List.set_cons_zero]; exact rfl))); (apply StI_no2; (focus rfl); (focus rfl); (focus rfl); (focus rfl); (focus rfl); (focus rfl); (focus (simp only [Act.put, List.setIfInBounds_toArray, List.set_cons_succ, List.set_cons_zero]; exact rfl))); (apply StI_no2; (focus rfl); (focus rfl); (focus rfl); (focus rfl); (focus rfl); (focus rfl); (focus (simp only [Act.put, List.setIfInBounds_toArray, List.set_cons_succ, List.set_cons_zero]; exact rfl)))
                  apply StI_effno2; (focus rfl); (focus rfl); (focus rfl); (focus rfl); (focus rfl); (focus rfl); (focus (simp only [Act.put, List.setIfInBounds_toArray, List.set_cons_succ, List.set_cons_zero]; exact rfl))
                  refine nxt_keep hI1 (OrdI_snk ?_)
                  (apply StI_no2; (focus rfl); (focus rfl); (focus rfl); (focus rfl); (focus rfl); (focus rfl); (focus (simp only [Act.put, List.setIfInBounds_toArray, List.set_cons_succ, List.set_cons_zero]; exact rfl))); (apply StI_plain (w0 := w1) hI1 rfl rfl rfl rfl; (focus (intro W hW K hK; obtain ⟨_, _⟩ := bk q hW hqlt; obtain ⟨_, _⟩ := bk (w.heap.size + 1 + 1) hW x2l; go_step; exact hK)); (focus rfl)); (apply StI_plain (w0 := w1) hI1 rfl rfl rfl rfl; (focus (intro W hW K hK; obtain ⟨_, _⟩ := bk q hW hqlt; obtain ⟨_, _⟩ := bk (w.heap.size + 1 + 1) hW x2l; go_step; exact hK)); (focus rfl)); (apply StI_plain (w0 := w1) hI1 rfl rfl rfl rfl; (focus (intro W hW K hK; obtain ⟨_, _⟩ := bk q hW hqlt; obtain ⟨_, _⟩ := bk (w.heap.size + 1 + 1) hW x2l; go_step; exact hK)); (focus rfl))
                  obtain ⟨_, _, _⟩ := bk q hI1 hqlt
                  (apply StI_eff rfl; go_wp2_with (first | fail))
                  refine onNormal_last ?_
                  go_wp2_with fail
                  go_ret
                  rw [Hhres.out, hd1]
                  exact ⟨rfl, (Hk1.out.stepB hI1).setCell _ _ (.inl (by simp)), (heap_setCell_at (heap_below hI1 Hq1.out) _).trans rfl⟩
                · (apply StI_eff rfl; go_wp2_with (first | (go_at_call 45; refine (dry_val T _ _ _ _ _ _ _ _ B (x.src) (h.leave) true hd1 _ (by exact HhTc.out.drew) (by exact hBc) p1a p1b).mono ?_; rintro e w1 ⟨rfl, hb1⟩)))
                  have hI1 := hI0.trans hb1
                  refine onNormal_mk hI1 (OrdI_cons ?_)
                  (apply StI_yes (w0 := w1) hI1; (focus rfl); (focus rfl); (focus rfl); (focus rfl); (focus rfl); (focus rfl); (focus rfl); (focus (intro W hW K hK; obtain ⟨_, _⟩ := bk q hW hqlt; obtain ⟨_, _⟩ := bk (w.heap.size + 1 + 1) hW x2l; go_step; exact hK)); (focus rfl)); (apply StI_plain (w0 := w1) hI1 rfl rfl rfl rfl; (focus (intro W hW K hK; obtain ⟨_, _⟩ := bk q hW hqlt; obtain ⟨_, _⟩ := bk (w.heap.size + 1 + 1) hW x2l; go_step; exact hK)); (focus rfl)); (apply StI_plain (w0 := w1) hI1 rfl rfl rfl rfl; (focus (intro W hW K hK; obtain ⟨_, _⟩ := bk q hW hqlt; obtain ⟨_, _⟩ := bk (w.heap.size + 1 + 1) hW x2l; go_step; exact hK)); (focus rfl)); (apply StI_yes (w0 := w1) hI1; (focus rfl); (focus rfl); (focus rfl); (focus rfl); (focus rfl); (focus rfl); (focus rfl); (focus (intro W hW K hK; obtain ⟨_, _⟩ := bk q hW hqlt; obtain ⟨_, _⟩ := bk (w.heap.size + 1 + 1) hW x2l; go_step; exact hK)); (focus rfl)); (apply StI_yes (w0 := w1) hI1; (focus rfl); (focus rfl); (focus rfl); (focus rfl); (focus rfl); (focus rfl); (focus rfl); (focus (intro W hW K hK; obtain ⟨_, _⟩ := bk q hW hqlt; obtain ⟨_, _⟩ := bk (w.heap.size + 1 + 1) hW x2l; go_step; exact hK)); (focus rfl)); (apply StI_yes (w0 := w1) hI1; (focus rfl); (focus rfl); (focus rfl); (focus rfl); (focus rfl); (focus rfl); (focus rfl); (focus (intro W hW K hK; obtain ⟨_, _⟩ := bk q hW hqlt; obtain ⟨_, _⟩ := bk (w.heap.size + 1 + 1) hW x2l; go_step; exact hK)); (focus rfl)); (apply StI_yes (w0 := w1) hI1; (focus rfl); (focus rfl); (focus rfl); (focus rfl); (focus rfl); (focus rfl); (focus rfl); (focus (intro W hW K hK; obtain ⟨_, _⟩ := bk q hW hqlt; obtain ⟨_, _⟩ := bk (w.heap.size + 1 + 1) hW x2l; go_step; exact hK)); (focus rfl)); (apply StI_yes (w0 := w1) hI1; (focus rfl); (focus rfl); (focus rfl); (focus rfl); (focus rfl); (focus rfl); (focus rfl); (focus (intro W hW K hK; obtain ⟨_, _⟩ := bk q hW hqlt; obtain ⟨_, _⟩ := bk (w.heap.size + 1 + 1) hW x2l; go_step; exact hK)); (focus rfl)); (apply StI_yes (w0 := w1) hI1; (focus rfl); (focus rfl); (focus rfl); (focus rfl); (focus rfl); (focus rfl); (focus rfl); (focus (intro W hW K hK; obtain ⟨_, _⟩ := bk q hW hqlt; obtain ⟨_, _⟩ := bk (w.heap.size + 1 + 1) hW x2l; go_step; exact hK)); (focus rfl)); (apply StI_yes (w0 := w1) hI1; (focus rfl); (focus rfl); (focus rfl); (focus rfl); (focus rfl); (focus rfl); (focus rfl); (focus (intro W hW K hK; obtain ⟨_, _⟩ := bk q hW hqlt; obtain ⟨_, _⟩ := bk (w.heap.size + 1 + 1) hW x2l; go_step; exact hK)); (focus rfl)); (apply StI_yes (w0 := w1) hI1; (focus rfl); (focus rfl); (focus rfl); (focus rfl); (focus rfl); (focus rfl); (focus rfl); (focus (intro W hW K hK; obtain ⟨_, _⟩ := bk q hW hqlt; obtain ⟨_, _⟩ := bk (w.heap.size + 1 + 1) hW x2l; go_step; exact hK)); (focus rfl))
                  have hz1 : wc.heap.size ≤ w1.heap.size := hI1.size
                  obtain ⟨v2, hd2⟩ : ∃ v2, T.dry x.dst (h.leave + x.steps c) = v2 := ⟨_, rfl⟩
                  (apply StI_eff rfl; go_wp2_with (first | (go_at_call 45; refine (dry_val T _ _ _ _ _ _ _ _ B (x.dst) (h.leave + x.steps c) v2 hd2 _ (by exact (HhTc.out.below (hI1.mono hBc))) (by exact (by omega)) p2a p2b).mono ?_; rintro e w2 ⟨rfl, hb2⟩)))
                  have hI2 := hI1.trans (hb2.mono hz1)
                  refine onNormal_mk hI2 (OrdI_snk ?_)
                  (apply StI_yes (w0 := w2) hI2; (focus rfl); (focus rfl); (focus rfl); (focus rfl); (focus rfl); (focus rfl); (focus rfl); (focus (intro W hW K hK; obtain ⟨_, _⟩ := bk q hW hqlt; obtain ⟨_, _⟩ := bk (w.heap.size + 1 + 1) hW x2l; go_step; exact hK)); (focus rfl)); (apply StI_plain (w0 := w2) hI2 rfl rfl rfl rfl; (focus (intro W hW K hK; obtain ⟨_, _⟩ := bk q hW hqlt; obtain ⟨_, _⟩ := bk (w.heap.size + 1 + 1) hW x2l; go_step; exact hK)); (focus rfl)); (apply StI_plain (w0 := w2) hI2 rfl rfl rfl rfl; (focus (intro W hW K hK; obtain ⟨_, _⟩ := bk q hW hqlt; obtain ⟨_, _⟩ := bk (w.heap.size + 1 + 1) hW x2l; go_step; exact hK)); (focus rfl)); (apply StI_plain (w0 := w2) hI2 rfl rfl rfl rfl; (focus (intro W hW K hK; obtain ⟨_, _⟩ := bk q hW hqlt; obtain ⟨_, _⟩ := bk (w.heap.size + 1 + 1) hW x2l; go_step; exact hK)); (focus rfl))
                  obtain ⟨_, _, _⟩ := bk q hI2 hqlt
                  (apply StI_eff rfl; go_wp2_with (first | fail))
                  refine onNormal_last ?_
                  go_wp2_with fail
                  go_ret
                  rw [Hhres.out, hd1, hd2]
                  exact ⟨rfl, (Hk1.out.stepB hI2).setCell _ _ (.inl (by simp)), (heap_setCell_at (heap_below hI2 Hq1.out) _).trans rfl⟩
              · go_upto_region 8 with fail
                refine wp_region_ord (fun W => Below wc.heap.size wc W) [([0, 1, 2, 3, 4, 5, 6, 7, 8, 9, 10], 11), ([12, 13, 14, 15, 16, 17, 18, 19, 20, 21, 22], 23)] [24, 25, 26, 27] (some 28) (by kernel_rfl) (by kernel_rfl) hI0 ?_
                refine OrdI_cons ?_
                (apply StI_plain (w0 := wc.drew) hI0 rfl rfl rfl rfl; (focus (intro W hW K hK; obtain ⟨_, _⟩ := bk q hW hqlt; obtain ⟨_, _⟩ := bk (w.heap.size + 1 + 1) hW x2l; go_step; exact hK)); (focus rfl)); (apply StI_plain (w0 := wc.drew) hI0 rfl rfl rfl rfl; (focus (intro W hW K hK; obtain ⟨_, _⟩ := bk q hW hqlt; obtain ⟨_, _⟩ := bk (w.heap.size + 1 + 1) hW x2l; go_step; exact hK)); (focus rfl)); (apply StI_plain (w0 := wc.drew) hI0 rfl rfl rfl rfl; (focus (intro W hW K hK; obtain ⟨_, _⟩ := bk q hW hqlt; obtain ⟨_, _⟩ := bk (w.heap.size + 1 + 1) hW x2l; go_step; exact hK)); (focus rfl)); (apply StI_plain (w0 := wc.drew) hI0 rfl rfl rfl rfl; (focus (intro W hW K hK; obtain ⟨_, _⟩ := bk q hW hqlt; obtain ⟨_, _⟩ := bk (w.heap.size + 1 + 1) hW x2l; go_step; exact hK)); (focus rfl)); (apply StI_plain (w0 := wc.drew) hI0 rfl rfl rfl rfl; (focus (intro W hW K hK; obtain ⟨_, _⟩ := bk q hW hqlt; obtain ⟨_, _⟩ := bk (w.heap.size + 1 + 1) hW x2l; go_step; exact hK)); (focus rfl)); (apply StI_plain (w0 := wc.drew) hI0 rfl rfl rfl rfl; (focus (intro W hW K hK; obtain ⟨_, _⟩ := bk q hW hqlt; obtain ⟨_, _⟩ := bk (w.heap.size + 1 + 1) hW x2l; go_step; exact hK)); (focus rfl)); (apply StI_no2; (focus rfl); (focus rfl); (focus rfl); (focus rfl); (focus rfl); (focus rfl); (focus (simp only [Act.put, List.setIfInBounds_toArray, List.set_cons_succ, List.set_cons_zero]; exact rfl))); (apply StI_no2; (focus rfl); (focus rfl); (focus rfl); (focus rfl); (focus rfl); (focus rfl); (focus (simp only [Act.put, List.setIfInBounds_toArray, List.set_cons_succ, List.set_cons_zero]; exact rfl))); (apply StI_no2; (focus rfl); (focus rfl); (focus rfl); (focus rfl); (focus rfl); (focus rfl); (focus (simp only [Act.put, List.setIfInBounds_toArray, List.set_cons_succ, List.set_cons_zero]; exact rfl))); (apply StI_no2; (focus rfl); (focus rfl); (focus rfl); (focus rfl); (focus rfl); (focus rfl); (focus (simp only [Act.put, List.setIfInBounds_toArray, List.set_cons_succ, List.set_cons_zero]; exact rfl))); (apply StI_no2; (focus rfl); (focus rfl); (focus rfl); (focus rfl); (focus rfl); (focus rfl); (focus (simp only [Act.put, List.setIfInBounds_toArray, List.set_cons_succ, List.set_cons_zero]; exact rfl)))
                apply StI_effno2; (focus rfl); (focus rfl); (focus rfl); (focus rfl); (focus rfl); (focus rfl); (focus (simp only [Act.put, List.setIfInBounds_toArray, List.set_cons_succ, List.set_cons_zero]; exact rfl))
                refine nxt_keep hI0 (OrdI_cons ?_)
                (apply StI_no2; (focus rfl); (focus rfl); (focus rfl); (focus rfl); (focus rfl); (focus rfl); (focus (simp only [Act.put, List.setIfInBounds_toArray, List.set_cons_succ, List.set_cons_zero]; exact rfl))); (apply StI_plain (w0 := wc.drew) hI0 rfl rfl rfl rfl; (focus (intro W hW K hK; obtain ⟨_, _⟩ := bk q hW hqlt; obtain ⟨_, _⟩ := bk (w.heap.size + 1 + 1) hW x2l; go_step; exact hK)); (focus rfl)); (apply StI_plain (w0 := wc.drew) hI0 rfl rfl rfl rfl; (focus (intro W hW K hK; obtain ⟨_, _⟩ := bk q hW hqlt; obtain ⟨_, _⟩ := bk (w.heap.size + 1 + 1) hW x2l; go_step; exact hK)); (focus rfl)); (apply StI_no2; (focus rfl); (focus rfl); (focus rfl); (focus rfl); (focus rfl); (focus rfl); (focus (simp only [Act.put, List.setIfInBounds_toArray, List.set_cons_succ, List.set_cons_zero]; exact rfl))); (apply StI_no2; (focus rfl); (focus rfl); (focus rfl); (focus rfl); (focus rfl); (focus rfl); (focus (simp only [Act.put, List.setIfInBounds_toArray, List.set_cons_succ, List.set_cons_zero]; exact rfl))); (apply StI_no2; (focus rfl); (focus rfl); (focus rfl); (focus rfl); (focus rfl); (focus rfl); (focus (simp only [Act.put, List.setIfInBounds_toArray, List.set_cons_succ, List.set_cons_zero]; exact rfl))); (apply StI_no2; (focus rfl); (focus rfl); (focus rfl); (focus rfl); (focus rfl); (focus rfl); (focus (simp only [Act.put, List.setIfInBounds_toArray, List.set_cons_succ, List.set_cons_zero]; exact rfl))); (apply StI_no2; (focus rfl); (focus rfl); (focus rfl); (focus rfl); (focus rfl); (focus rfl); (focus (simp only [Act.put, List.setIfInBounds_toArray, List.set_cons_succ, List.set_cons_zero]; exact rfl))); (apply StI_no2; (focus rfl); (focus rfl); (focus rfl); (focus rfl); (focus rfl); (focus rfl); (focus (simp only [Act.put, List.setIfInBounds_toArray, List.set_cons_succ, List.set_cons_zero]; exact rfl))); (apply StI_no2; (focus rfl); (focus rfl); (focus rfl); (focus rfl); (focus rfl); (focus rfl); (focus (simp only [Act.put, List.setIfInBounds_toArray, List.set_cons_succ, List.set_cons_zero]; exact rfl))); (apply StI_no2; (focus rfl); (focus rfl); (focus rfl); (focus rfl); (focus rfl); (focus rfl); (focus (simp only [Act.put, List.setIfInBounds_toArray, List.set_cons_succ, List.set_cons_zero]; exact rfl)))
                apply StI_effno2; (focus rfl); (focus rfl); (focus rfl); (focus rfl); (focus rfl); (focus rfl); (focus (simp only [Act.put, List.setIfInBounds_toArray, List.set_cons_succ, List.set_cons_zero]; exact rfl))
                refine nxt_keep hI0 (OrdI_snk ?_)
                (apply StI_no2; (focus rfl); (focus rfl); (focus rfl); (focus rfl); (focus rfl); (focus rfl); (focus (simp only [Act.put, List.setIfInBounds_toArray, List.set_cons_succ, List.set_cons_zero]; exact rfl))); (apply StI_plain (w0 := wc.drew) hI0 rfl rfl rfl rfl; (focus (intro W hW K hK; obtain ⟨_, _⟩ := bk q hW hqlt; obtain ⟨_, _⟩ := bk (w.heap.size + 1 + 1) hW x2l; go_step; exact hK)); (focus rfl)); (apply StI_plain (w0 := wc.drew) hI0 rfl rfl rfl rfl; (focus (intro W hW K hK; obtain ⟨_, _⟩ := bk q hW hqlt; obtain ⟨_, _⟩ := bk (w.heap.size + 1 + 1) hW x2l; go_step; exact hK)); (focus rfl)); (apply StI_plain (w0 := wc.drew) hI0 rfl rfl rfl rfl; (focus (intro W hW K hK; obtain ⟨_, _⟩ := bk q hW hqlt; obtain ⟨_, _⟩ := bk (w.heap.size + 1 + 1) hW x2l; go_step; exact hK)); (focus rfl))
                obtain ⟨_, _, _⟩ := bk q hI0 hqlt
                (apply StI_eff rfl; go_wp2_with (first | fail))
                refine onNormal_last ?_
                go_wp2_with fail
                go_ret
                rw [Hhres.out]
                exact ⟨rfl, (Hk1.out.setCell _ _ (.inl (by simp))).drew, heap_drew' ((heap_setCell_at Hq1.out _).trans rfl)⟩
      · have hres := Hhstep.out
        rw [if_pos hbad] at hres
        have Hhres := Lib.hid hres; clear hres; have Hhbad := Lib.hid hbad; clear hbad
        go_wp2_with fail
        go_ret
        rw [Hhres.out]
        exact ⟨rfl, by have := Hk1.out; repeat (first | with_reducible exact Keeps.refl _ _ | with_reducible refine Keeps.drew ?_ | with_reducible refine Keeps.drewN ?_ _ | with_reducible refine Keeps.alloc ?_ _ | (with_reducible refine Keeps.setCell ?_ _ _ ?_; rotate_left; focus (first | (simp; done) | (simp; omega))) | with_reducible assumption | with_reducible refine Keeps.stepB ?_ (by with_reducible assumption)), Hq1.out⟩
end Go.Proofs.Ytjoihijlcpnhoaa
