/- The chapter's examples, reckoned. -/
import Derived.Test.YtjoihijlcpnhoaaDrCnt
import Derived.Test.YtjoihijlcpnhoaaDrEy
import Derived.Test.YtjoihijlcpnhoaaDrTb
import Derived.Test.YtjoihijlcpnhoaaCauR
namespace Go.Proofs.Ytjoihijlcpnhoaa

def exC1 : Case := ⟨[4], [0, 1], [], []⟩
def exC2 : Case := ⟨[3], [], [], [true]⟩
def exC3 : Case := ⟨[], [], [], []⟩
theorem ex_v : verifyT exT exP = 0 := by kernel_rfl
theorem ex_c1 : caseErr exP exC1 = 0 := by kernel_rfl
theorem ex_c2 : caseErr exP exC2 = 0 := by kernel_rfl
theorem ex_c3 : caseErr exP exC3 = 0 := by kernel_rfl
theorem ex_t1 : countT exT exP exC1 = [⟨1, 2, 1, 0, 0, 5⟩, ⟨2, 0, 0, 0, 0, 1⟩] := by kernel_rfl
theorem ex_t2 : countT exT exP exC2 = [⟨4, 0, 0, 0, 0, 5⟩, ⟨0, 2, 0, 0, 0, 1⟩] := by kernel_rfl
theorem ex_l : (runLog exT exP exC3).length = 11 := by kernel_rfl
theorem ex_e : (runLog exT exP exC3)[9]? = some ⟨2, 5, 2, 1, 2⟩ := by kernel_rfl

end Go.Proofs.Ytjoihijlcpnhoaa
namespace Go.Proofs.Ytjoihijlcpnhoaa
open Go.RowKit

set_option maxHeartbeats 4000000 in
set_option maxRecDepth 100000 in
theorem ltallies_any (g cap : Nat) (x0 x1 x2 x3 x4 x5 y0 y1 y2 y3 y4 y5 : Int) (w : World) (hg : g < w.heap.size) (a0 : w.cell? ⟨g, 0, none⟩ = some (.int .i64 x0)) (a1 : w.cell? ⟨g, 1, none⟩ = some (.int .i64 x1)) (a2 : w.cell? ⟨g, 2, none⟩ = some (.int .i64 x2)) (a3 : w.cell? ⟨g, 3, none⟩ = some (.int .i64 x3)) (a4 : w.cell? ⟨g, 4, none⟩ = some (.int .i64 x4)) (a5 : w.cell? ⟨g, 5, none⟩ = some (.int .i64 x5))
    (b0 : w.cell? ⟨g, 6, none⟩ = some (.int .i64 y0)) (b1 : w.cell? ⟨g, 7, none⟩ = some (.int .i64 y1)) (b2 : w.cell? ⟨g, 8, none⟩ = some (.int .i64 y2)) (b3 : w.cell? ⟨g, 9, none⟩ = some (.int .i64 y3)) (b4 : w.cell? ⟨g, 10, none⟩ = some (.int .i64 y4)) (b5 : w.cell? ⟨g, 11, none⟩ = some (.int .i64 y5)) :
    Calls Try.prog 31 #[.slice (some ⟨g, 0, none⟩) 2 cap, .int .i64 0, .agg #[.int .i64 x0, .int .i64 x1, .int .i64 x2, .int .i64 x3, .int .i64 x4, .int .i64 x5], .agg #[.int .i64 y0, .int .i64 y1, .int .i64 y2, .int .i64 y3, .int .i64 y4, .int .i64 y5]] w
      fun e w' => e = .returned (.bool true) ∧ Below w.heap.size w w' := by
  go_enter Try.func31, Try.ntmps31
  go_upto_region 1 with fail
  go_quiet (fail)
  go_wp2_with fail
  go_ret
  exact ⟨by first | rfl | simp, (by repeat (first | exact Below.refl _ _ | (refine bl_setCell ?_ _ _ ?_; rotate_left; focus (first | omega | (simp; done) | (simp; omega))) | refine bl_alloc ?_ _ | refine bl_step ?_ (by assumption) | refine bl_drew ?_ | refine bl_drewN ?_ _))⟩

end Go.Proofs.Ytjoihijlcpnhoaa
namespace Go.Proofs.Ytjoihijlcpnhoaa
open Go.RowKit

theorem sl0 {α : Type} {E : World → Nat → Nat → α → Prop} {sz B : Nat} {w : World} {a : Option Addr} : Sl E sz B w a ([] : List α) := ⟨by simp, fun k hk => by simp at hk⟩

/-- A row of two tallies. -/
def TwoT (w : World) (e : Ending) (x y : Tally) : Prop :=
  ∃ g cap, e = .returned (.tuple #[.slice (some ⟨g, 0, none⟩) 2 cap, .int .i64 0]) ∧ g < w.heap.size ∧ ∀ j, j < 12 → w.cell? ⟨g, j, none⟩ = (tcells [x, y])[j]?

theorem two_of {w0 w : World} {e : Ending} {c : Case} {x y : Tally} (h : CntPost exT exP c w0 e w) (hc : caseErr exP c = 0) (ht : countT exT exP c = [x, y]) : TwoT w e x y := by
  obtain ⟨_, ⟨hne, _⟩ | ⟨_, _, v, he, hr⟩⟩ := h
  · exact absurd (by unfold begunErr; rw [if_pos ex_v, hc]) hne
  · rw [ht] at hr
    have hr' : w.ownsRow w0.heap.size 82 6 v 2 (tcells [x, y]) := hr
    obtain ⟨g, cap, rfl, _, hg⟩ := hr'.form (by omega)
    exact ⟨g, cap, he, hg, fun j hj => hr'.cellAt j (by omega)⟩

theorem cnt_ex1 (w1 w2 : World) (a1 a2 a3 a4 p1 p2 : Option Addr) (hM : TownM w1.heap.size w1 a1 a2 a3 a4 exT) (hb2 : Below w1.heap.size w1 w2) (hP : PlanM w2.heap.size w2 p1 p2 exP) :
    Calls Try.prog 19 #[.agg #[.int .i64 6, .slice a1 2 2, .slice a2 2 2, .slice a3 2 2, .slice a4 1 1], .agg #[.slice p1 2 2, .slice p2 1 1], .agg #[.slice (some ⟨w2.heap.size, 0, none⟩) 1 1, .slice (some ⟨w2.heap.size + 1, 0, none⟩) 2 2, .slice none 0 0, .slice none 0 0]]
      ((w2.alloc (.cells #[.int .i64 4] 3)).alloc (.cells #[.int .i64 0, .int .i64 1] 3)) fun e w' => Below w2.heap.size w2 w' ∧ TwoT w' e ⟨1, 2, 1, 0, 0, 5⟩ ⟨2, 0, 0, 0, 0, 1⟩ := by
  have hbc : Below w2.heap.size w2 ((w2.alloc (.cells #[.int .i64 4] 3)).alloc (.cells #[.int .i64 0, .int .i64 1] 3)) := bl_alloc (bl_alloc (Below.refl _ _) _) _
  have x1 : ((w2.alloc (.cells #[.int .i64 4] 3)).alloc (.cells #[.int .i64 0, .int .i64 1] 3)).heap[w2.heap.size]? = some (.cells #[.int .i64 4] 3 (0, 0)) := heap_alloc_off (heap_alloc_at _ _) _
  have x2 : ((w2.alloc (.cells #[.int .i64 4] 3)).alloc (.cells #[.int .i64 0, .int .i64 1] 3)).heap[w2.heap.size + 1]? = some (.cells #[.int .i64 0, .int .i64 1] 3 (0, 0)) := heap_alloc_at' _ _ (by simp)
  generalize ((w2.alloc (.cells #[.int .i64 4] 3)).alloc (.cells #[.int .i64 0, .int .i64 1] 3)) = wc at hbc x1 x2
  have hb1 := bl_step hb2 hbc
  have hC : CaseM wc.heap.size wc (some ⟨w2.heap.size, 0, none⟩) (some ⟨w2.heap.size + 1, 0, none⟩) none none exC1 := ⟨sl1 (lt_of_heap x1) (cells_of x1 0), sl2 (lt_of_heap x2) (cells_of x2 0) (cells_of x2 1), sl0, sl0⟩
  refine (cnt_any exT a1 a2 a3 a4 2 2 2 1 exP p1 p2 2 1 exC1 _ _ _ _ 1 2 0 0 wc ((hM.below hb1).mono hb1.size) ((hP.below hbc).mono hbc.size) hC).mono ?_
  rintro e w' hp
  exact ⟨bl_step hbc hp.1, two_of hp ex_c1 ex_t1⟩

theorem cnt_ex2 (w1 w2 : World) (a1 a2 a3 a4 p1 p2 : Option Addr) (hM : TownM w1.heap.size w1 a1 a2 a3 a4 exT) (hb2 : Below w1.heap.size w1 w2) (hP : PlanM w2.heap.size w2 p1 p2 exP) :
    Calls Try.prog 19 #[.agg #[.int .i64 6, .slice a1 2 2, .slice a2 2 2, .slice a3 2 2, .slice a4 1 1], .agg #[.slice p1 2 2, .slice p2 1 1], .agg #[.slice (some ⟨w2.heap.size, 0, none⟩) 1 1, .slice none 0 0, .slice none 0 0, .slice (some ⟨w2.heap.size + 1, 0, none⟩) 1 1]]
      ((w2.alloc (.cells #[.int .i64 3] 3)).alloc (.cells #[.bool true] 4)) fun e w' => Below w2.heap.size w2 w' ∧ TwoT w' e ⟨4, 0, 0, 0, 0, 5⟩ ⟨0, 2, 0, 0, 0, 1⟩ := by
  have hbc : Below w2.heap.size w2 ((w2.alloc (.cells #[.int .i64 3] 3)).alloc (.cells #[.bool true] 4)) := bl_alloc (bl_alloc (Below.refl _ _) _) _
  have x1 : ((w2.alloc (.cells #[.int .i64 3] 3)).alloc (.cells #[.bool true] 4)).heap[w2.heap.size]? = some (.cells #[.int .i64 3] 3 (0, 0)) := heap_alloc_off (heap_alloc_at _ _) _
  have x2 : ((w2.alloc (.cells #[.int .i64 3] 3)).alloc (.cells #[.bool true] 4)).heap[w2.heap.size + 1]? = some (.cells #[.bool true] 4 (0, 0)) := heap_alloc_at' _ _ (by simp)
  generalize ((w2.alloc (.cells #[.int .i64 3] 3)).alloc (.cells #[.bool true] 4)) = wc at hbc x1 x2
  have hb1 := bl_step hb2 hbc
  have hC : CaseM wc.heap.size wc (some ⟨w2.heap.size, 0, none⟩) none none (some ⟨w2.heap.size + 1, 0, none⟩) exC2 := ⟨sl1 (lt_of_heap x1) (cells_of x1 0), sl0, sl0, sl1 (lt_of_heap x2) (cells_of x2 0)⟩
  refine (cnt_any exT a1 a2 a3 a4 2 2 2 1 exP p1 p2 2 1 exC2 _ _ _ _ 1 0 0 1 wc ((hM.below hb1).mono hb1.size) ((hP.below hbc).mono hbc.size) hC).mono ?_
  rintro e w' hp
  exact ⟨bl_step hbc hp.1, two_of hp ex_c2 ex_t2⟩

theorem run_ex3 (w1 w2 : World) (a1 a2 a3 a4 p1 p2 : Option Addr) (hM : TownM w1.heap.size w1 a1 a2 a3 a4 exT) (hb2 : Below w1.heap.size w1 w2) (hP : PlanM w2.heap.size w2 p1 p2 exP) :
    Calls Try.prog 17 #[.agg #[.int .i64 6, .slice a1 2 2, .slice a2 2 2, .slice a3 2 2, .slice a4 1 1], .agg #[.slice p1 2 2, .slice p2 1 1], .agg #[.slice none 0 0, .slice none 0 0, .slice none 0 0, .slice none 0 0]] w2
      fun e w' => Below w2.heap.size w2 w' ∧ ∃ g cap, e = .returned (.tuple #[.slice (some ⟨g, 0, none⟩) 11 cap, .int .i64 0]) ∧ g < w'.heap.size ∧ ∀ j, j < 5 → w'.cell? ⟨g, 45 + j, none⟩ = (enCells ⟨2, 5, 2, 1, 2⟩)[j]? := by
  have hC : CaseM w2.heap.size w2 none none none none exC3 := ⟨sl0, sl0, sl0, sl0⟩
  refine (run_any exT a1 a2 a3 a4 2 2 2 1 exP p1 p2 2 1 exC3 _ _ _ _ 0 0 0 0 w2 ((hM.below hb2).mono hb2.size) hP hC).mono ?_
  rintro e w' ⟨hb, ⟨hne, _⟩ | ⟨_, _, v, he, hr⟩⟩
  · exact absurd (by unfold begunErr; rw [if_pos ex_v, ex_c3]) hne
  · rw [ex_l] at hr
    obtain ⟨g, cap, rfl, _, hg⟩ := hr.form (by omega)
    exact ⟨hb, g, cap, he, hg, fun j hj => (hr.cellAt (45 + j) (by omega)).trans (logCells_get _ 9 j _ ex_e hj)⟩

set_option maxHeartbeats 8000000 in
set_option maxRecDepth 100000 in
theorem works_any (w : World) :
    Calls Try.prog 16 #[] w fun e w' => e = .returned (.bool true) ∧ Below w.heap.size w w' := by
  go_enter Try.func16, Try.ntmps16
  go_upto_region 2 with (first | (go_at_call 21; refine (exT_any _).mono ?_; rintro e w1 ⟨a11, a12, a13, a14, rfl, hbw1, hM1⟩) | (go_at_call 30; refine (exP_any _).mono ?_; rintro e w2 ⟨p11, p12, rfl, hbw2, hP1⟩) |
    (go_at_call 19; refine (cnt_ex1 w1 w2 a11 a12 a13 a14 p11 p12 hM1 hbw2 hP1).mono ?_; rintro e w3 ⟨hbw3, g1, cap1, rfl, hg1, hc1⟩))
  clear hM1 hP1
  go_upto_region 3 with (first | (go_at_call 21; refine (exT_any _).mono ?_; rintro e w4 ⟨a21, a22, a23, a24, rfl, hbw4, hM2⟩) | (go_at_call 30; refine (exP_any _).mono ?_; rintro e w5 ⟨p21, p22, rfl, hbw5, hP2⟩) |
    (go_at_call 19; refine (cnt_ex2 w4 w5 a21 a22 a23 a24 p21 p22 hM2 hbw5 hP2).mono ?_; rintro e w6 ⟨hbw6, g2, cap2, rfl, hg2, hc2⟩))
  clear hM2 hP2
  go_upto_region 4 with (first | (go_at_call 21; refine (exT_any _).mono ?_; rintro e w7 ⟨a31, a32, a33, a34, rfl, hbw7, hM3⟩) | (go_at_call 30; refine (exP_any _).mono ?_; rintro e w8 ⟨p31, p32, rfl, hbw8, hP3⟩) |
    (go_at_call 17; refine (run_ex3 w7 w8 a31 a32 a33 a34 p31 p32 hM3 hbw8 hP3).mono ?_; rintro e w9 ⟨hbw9, g3, cap3, rfl, hg3, hc3⟩))
  clear hM3 hP3
  have hb69 : Below w6.heap.size w6 w9 := (by repeat (first | exact Below.refl _ _ | (refine bl_setCell ?_ _ _ ?_; rotate_left; focus (first | omega | (simp; done) | (simp; omega))) | refine bl_alloc ?_ _ | refine bl_step ?_ (by assumption) | refine bl_drew ?_ | refine bl_drewN ?_ _))
  have hb39 : Below w3.heap.size w3 w9 := (by repeat (first | exact Below.refl _ _ | (refine bl_setCell ?_ _ _ ?_; rotate_left; focus (first | omega | (simp; done) | (simp; omega))) | refine bl_alloc ?_ _ | refine bl_step ?_ (by assumption) | refine bl_drew ?_ | refine bl_drewN ?_ _))
  have hbw : Below w.heap.size w w9 := (by repeat (first | exact Below.refl _ _ | (refine bl_setCell ?_ _ _ ?_; rotate_left; focus (first | omega | (simp; done) | (simp; omega))) | refine bl_alloc ?_ _ | refine bl_step ?_ (by assumption) | refine bl_drew ?_ | refine bl_drewN ?_ _))
  have hg1' : g1 < w9.heap.size := by have := hb39.size; omega
  have hg2' : g2 < w9.heap.size := by have := hb69.size; omega
  have k1 : ∀ j, j < 12 → w9.cell? ⟨g1, j, none⟩ = (tcells [⟨1, 2, 1, 0, 0, 5⟩, ⟨2, 0, 0, 0, 0, 1⟩])[j]? := fun j hj => (hb39.cell (p := ⟨g1, j, none⟩) hg1).trans (hc1 j hj)
  have k2 : ∀ j, j < 12 → w9.cell? ⟨g2, j, none⟩ = (tcells [⟨4, 0, 0, 0, 0, 5⟩, ⟨0, 2, 0, 0, 0, 1⟩])[j]? := fun j hj => (hb69.cell (p := ⟨g2, j, none⟩) hg2).trans (hc2 j hj)
  have HL1 : ∀ W, Below w9.heap.size w9 W → Calls Try.prog 31 #[.slice (some ⟨g1, 0, none⟩) 2 cap1, .int .i64 0, .agg #[.int .i64 1, .int .i64 2, .int .i64 1, .int .i64 0, .int .i64 0, .int .i64 5], .agg #[.int .i64 2, .int .i64 0, .int .i64 0, .int .i64 0, .int .i64 0, .int .i64 1]] W fun e w' => e = .returned (.bool true) ∧ Below W.heap.size W w' := by
    intro W hW
    have c : ∀ j, j < 12 → W.cell? ⟨g1, j, none⟩ = (tcells [⟨1, 2, 1, 0, 0, 5⟩, ⟨2, 0, 0, 0, 0, 1⟩])[j]? := fun j hj => (hW.cell (p := ⟨g1, j, none⟩) hg1').trans (k1 j hj)
    exact ltallies_any g1 cap1 1 2 1 0 0 5 2 0 0 0 0 1 W (by have := hW.size; omega) (c 0 (by omega)) (c 1 (by omega)) (c 2 (by omega)) (c 3 (by omega)) (c 4 (by omega)) (c 5 (by omega)) (c 6 (by omega)) (c 7 (by omega)) (c 8 (by omega)) (c 9 (by omega)) (c 10 (by omega)) (c 11 (by omega))
  have HL2 : ∀ W, Below w9.heap.size w9 W → Calls Try.prog 31 #[.slice (some ⟨g2, 0, none⟩) 2 cap2, .int .i64 0, .agg #[.int .i64 4, .int .i64 0, .int .i64 0, .int .i64 0, .int .i64 0, .int .i64 5], .agg #[.int .i64 0, .int .i64 2, .int .i64 0, .int .i64 0, .int .i64 0, .int .i64 1]] W fun e w' => e = .returned (.bool true) ∧ Below W.heap.size W w' := by
    intro W hW
    have c : ∀ j, j < 12 → W.cell? ⟨g2, j, none⟩ = (tcells [⟨4, 0, 0, 0, 0, 5⟩, ⟨0, 2, 0, 0, 0, 1⟩])[j]? := fun j hj => (hW.cell (p := ⟨g2, j, none⟩) hg2').trans (k2 j hj)
    exact ltallies_any g2 cap2 4 0 0 0 0 5 0 2 0 0 0 1 W (by have := hW.size; omega) (c 0 (by omega)) (c 1 (by omega)) (c 2 (by omega)) (c 3 (by omega)) (c 4 (by omega)) (c 5 (by omega)) (c 6 (by omega)) (c 7 (by omega)) (c 8 (by omega)) (c 9 (by omega)) (c 10 (by omega)) (c 11 (by omega))
  have m0 : w9.cell? ⟨g3, 45, none⟩ = some (.int .i64 2) := hc3 0 (by omega)
  have m1 : w9.cell? ⟨g3, 46, none⟩ = some (.int .i64 5) := hc3 1 (by omega)
  have m2 : w9.cell? ⟨g3, 47, none⟩ = some (.int .i64 2) := hc3 2 (by omega)
  have m3 : w9.cell? ⟨g3, 48, none⟩ = some (.int .i64 1) := hc3 3 (by omega)
  have m4 : w9.cell? ⟨g3, 49, none⟩ = some (.int .i64 2) := hc3 4 (by omega)
  clear hc1 hc2 hc3 k1 k2 hb69 hb39 hg1 hg2
  have HHL1 := Lib.hid HL1; clear HL1; have HHL2 := Lib.hid HL2; clear HL2; have Hhbw := Lib.hid hbw; clear hbw
  go_wp2_with (first | (go_at_call_of 31 cap1; refine (HHL1.out _ (Below.refl _ _)).mono ?_; rintro e w10 ⟨rfl, hb10⟩; obtain ⟨_, _, _⟩ := bk (g3) hb10 (by omega); have hzhb10 := bsz hb10) |
    (go_at_call_of 31 cap2; refine (HHL2.out _ hb10).mono ?_; rintro e w11 ⟨rfl, hb11⟩; obtain ⟨_, _, _⟩ := bk (g3) hb11 (by omega); have hzhb11 := bsz hb11))
  go_ret
  exact ⟨by first | rfl | simp, bl_step (bl_step Hhbw.out hb10) hb11⟩

end Go.Proofs.Ytjoihijlcpnhoaa
