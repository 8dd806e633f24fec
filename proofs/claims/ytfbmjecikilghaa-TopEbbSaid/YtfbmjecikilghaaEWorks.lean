/- The chapter's example of a flat that falls dry. -/
import Derived.Test.YtfbmjecikilghaaEbbM
namespace Go.Proofs.Ytfbmjecikilghaa
open Go.RowKit

/-- The model of the example in memory. -/
def WorksM (w : World) (W : World) : Prop :=
  W.heap[w.heap.size]? = some (.cells #[.int .i64 100, .int .i64 3600000, .int .i64 0, .int .i64 50, .int .i64 7200000, .int .i64 900] 43 (0, 0)) ∧
  W.heap[w.heap.size + 1]? = some (.cells #[.int .i64 10, .slice (some ⟨w.heap.size, 0, none⟩) 2 2] 40 (0, 0)) ∧ Below w.heap.size w W
theorem worksM_below {w W W' : World} (h : WorksM w W) (hb : Below W.heap.size W W') : WorksM w W' :=
  ⟨heap_below hb h.1, heap_below hb h.2.1, bl_step h.2.2 hb⟩
theorem worksM_model {w W : World} (h : WorksM w W) : ModelM (w.heap.size + 1) W 10 wpts (some ⟨w.heap.size, 0, none⟩) := by
  have hc := cells_of h.1
  refine ⟨⟨by decide, fun k hk => ⟨w.heap.size, 0, rfl, by omega, ?_⟩⟩, wpts_good, by decide, by decide, by decide⟩
  have hk' : k = 0 ∨ k = 1 := by simp [wpts] at hk; omega
  rcases hk' with rfl | rfl
  · exact ⟨hc 0, hc 1, hc 2⟩
  · exact ⟨hc 3, hc 4, hc 5⟩

theorem ebb_win (xs : List Pc) (h : CutR 600000 3600000 0 xs) : ∃ b, (win 10 wpts 20 xs).out = [(1200000, b)] ∧ 1800000 ≤ b ∧ b ≤ 3600000 := by
  rw [win_val, cutR_val (by decide) 6 0 xs h (by decide)]
  refine ⟨2400000, ?_, by decide, by decide⟩
  decide +kernel

set_option maxHeartbeats 8000000 in
set_option maxRecDepth 100000 in
theorem ebbWorks_ok (w : World) : Calls Try.prog 5 #[] w fun e w' => e = .returned (.bool true) ∧ Below w.heap.size w w' := by
  obtain ⟨⟨lx0, lx1, lx2⟩, ly0, ly1, ly2⟩ := works_lev
  obtain ⟨X1, hX1⟩ : ∃ x, levLo 10 wpts 1800000 1800000 = x := ⟨_, rfl⟩
  obtain ⟨Y1, hY1⟩ : ∃ x, levHi 10 wpts 1800000 1800000 = x := ⟨_, rfl⟩
  obtain ⟨X2, hX2⟩ : ∃ x, levLo 10 wpts 0 0 = x := ⟨_, rfl⟩
  obtain ⟨Y2, hY2⟩ : ∃ x, levHi 10 wpts 0 0 = x := ⟨_, rfl⟩
  rw [hX1] at lx0 lx1
  rw [hY1] at lx1 lx2
  rw [hX2] at ly0 ly1
  rw [hY2] at ly1 ly2
  have HhX1 := Lib.hid hX1; clear hX1; have HhY1 := Lib.hid hY1; clear hY1; have HhX2 := Lib.hid hX2; clear hX2; have HhY2 := Lib.hid hY2; clear hY2
  go_enter Try.func5, Try.ntmps5
  go_wp2_with fail
  have hM0 : WorksM w ((w.alloc (.cells #[.int .i64 100, .int .i64 3600000, .int .i64 0, .int .i64 50, .int .i64 7200000, .int .i64 900] 43)).alloc (.cells #[.int .i64 10, .slice (some ⟨w.heap.size, 0, none⟩) 2 2] 40)) :=
    ⟨heap_alloc_off (heap_alloc_at' _ _ rfl) _, heap_alloc_at' _ _ (by simp), (by repeat (first | exact Below.refl _ _ | (refine bl_setCell ?_ _ _ ?_; rotate_left; focus (first | omega | (simp; done) | (simp; omega))) | refine bl_alloc ?_ _ | refine bl_step ?_ (by assumption) | refine bl_drew ?_ | refine bl_drewN ?_ _))⟩
  generalize ((w.alloc (.cells #[.int .i64 100, .int .i64 3600000, .int .i64 0, .int .i64 50, .int .i64 7200000, .int .i64 900] 43)).alloc (.cells #[.int .i64 10, .slice (some ⟨w.heap.size, 0, none⟩) 2 2] 40)) = wc at hM0 ⊢
  refine (shoreFour_ok wc).mono ?_
  rintro e w1 ⟨g, rfl, hg0, hg1, hb1⟩
  have hM1 := worksM_below hM0 hb1
  have hgwc : w.heap.size + 1 < g := by have := lt_of_heap hM0.2.1; omega
  clear hM0 hb1
  have HhM1 := Lib.hid hM1; clear hM1; have Hhg0 := Lib.hid hg0; clear hg0
  go_upto_region 3 with fail
  have hgr : (w1.alloc (.cells #[.int .i64 4, .int .i64 1, .int .i64 1000, .slice (some ⟨g, 0, none⟩) 4 4] 36)).heap[w1.heap.size]? = some (.cells #[.int .i64 4, .int .i64 1, .int .i64 1000, .slice (some ⟨g, 0, none⟩) 4 4] 36 (0, 0)) := heap_alloc_at _ _
  have hg2 := heap_alloc_off Hhg0.out (.cells #[.int .i64 4, .int .i64 1, .int .i64 1000, .slice (some ⟨g, 0, none⟩) 4 4] 36)
  have hM2 := worksM_below HhM1.out (show Below w1.heap.size w1 (w1.alloc (.cells #[.int .i64 4, .int .i64 1, .int .i64 1000, .slice (some ⟨g, 0, none⟩) 4 4] 36)) from bl_alloc (Below.refl _ _) _)
  have hgne : g ≠ w1.heap.size := by have := lt_of_heap Hhg0.out; omega
  have hm1l : w.heap.size + 1 < w1.heap.size := lt_of_heap HhM1.out.2.1
  have hsz2 : (w1.alloc (.cells #[.int .i64 4, .int .i64 1, .int .i64 1000, .slice (some ⟨g, 0, none⟩) 4 4] 36)).heap.size = w1.heap.size + 1 := by simp
  obtain ⟨q, hq⟩ : ∃ q, w1.heap.size = q := ⟨_, rfl⟩
  rw [hq] at hgr hgne hm1l hsz2
  generalize (w1.alloc (.cells #[.int .i64 4, .int .i64 1, .int .i64 1000, .slice (some ⟨g, 0, none⟩) 4 4] 36)) = w2 at hgr hg2 hM2 hsz2 ⊢
  rw [hq]
  clear HhM1 Hhg0 hq
  have hgrc := cells_of hgr
  have hgrl := lt_of_heap hgr
  have hg2l := lt_of_heap hg2
  have hI : Below w2.heap.size w2 w2.drew := (Below.refl _ _).drew
  have Hhgr := Lib.hid hgr; clear hgr; have Hhg2 := Lib.hid hg2; clear hg2; have HhM2 := Lib.hid hM2; clear hM2
  refine wp_region_ord (fun W => Below w2.heap.size w2 W) [([0, 1], 2)] [3] (some 4) (by kernel_rfl) (by kernel_rfl) hI ?_
  refine OrdI_cons ?_
  (apply StI_plain (w0 := w2.drew) hI rfl rfl rfl rfl; (focus (intro W hW K hK; obtain ⟨_, _⟩ := bk q hW hgrl; go_step; exact hK)); (focus rfl)); (apply StI_plain (w0 := w2.drew) hI rfl rfl rfl rfl; (focus (intro W hW K hK; obtain ⟨_, _⟩ := bk q hW hgrl; go_step; exact hK)); (focus rfl))
  (apply StI_eff rfl; go_wp2_with (first | (go_at_call 8; refine (tspan_any _ _ _).mono ?_; rintro e w3 ⟨rfl, hb3⟩)))
  have hI3 : Below w2.heap.size w2 w3 := below_mid hI (Nat.le_refl _) hb3
  refine onNormal_mk hI3 (OrdI_snk ?_)
  (apply StI_plain (w0 := w3) hI3 rfl rfl rfl rfl; (focus (intro W hW K hK; skip; go_step; exact hK)); (focus rfl))
  have k0 := heap_below hI3 Hhgr.out
  have k1 := heap_below hI3 Hhg2.out
  have k2 := worksM_below HhM2.out hI3
  have k1c := cells_of k1
  have k1f := frozen_of k1
  have k1l := lt_of_heap k1
  have Hk0 := Lib.hid k0; clear k0; have Hk1 := Lib.hid k1; clear k1; have Hk2 := Lib.hid k2; clear k2
  (apply StI_eff rfl; go_wp2_with (first | fail))
  refine onNormal_last ?_
  have hF4 := four_set Hk1.out
  have hG4 : ((w3.setCell ⟨g, 4, none⟩ (.int .i64 25)).setCell ⟨g, 5, none⟩ (.int .i64 25)).heap[q]? = some (.cells #[.int .i64 4, .int .i64 1, .int .i64 1000, .slice (some ⟨g, 0, none⟩) 4 4] 36 (0, 0)) := heap_setCell_off (heap_setCell_off Hk0.out _ hgne) _ hgne
  have hM4 : WorksM w ((w3.setCell ⟨g, 4, none⟩ (.int .i64 25)).setCell ⟨g, 5, none⟩ (.int .i64 25)) :=
    ⟨heap_setCell_off (heap_setCell_off Hk2.out.1 _ (by omega)) _ (by omega), heap_setCell_off (heap_setCell_off Hk2.out.2.1 _ (by omega)) _ (by omega), bl_setCell (bl_setCell Hk2.out.2.2 _ _ (by show _ ≤ g; omega)) _ _ (by show _ ≤ g; omega)⟩
  generalize ((w3.setCell ⟨g, 4, none⟩ (.int .i64 25)).setCell ⟨g, 5, none⟩ (.int .i64 25)) = w4 at hF4 hG4 hM4 ⊢
  clear HhM2 Hhg2 Hhgr Hk0 Hk1 Hk2 k1c k1f k1l hgrc hgrl hg2l hI hI3 hb3
  have hbx := cells_of hM4.2.1
  have hbl := lt_of_heap hM4.2.1
  have hI : Below w4.heap.size w4 w4.drew := (Below.refl _ _).drew
  have HhF4 := Lib.hid hF4; clear hF4; have HhG4 := Lib.hid hG4; clear hG4; have HhM4 := Lib.hid hM4; clear hM4
  go_upto_region 4 with fail
  refine wp_region_ord (fun W => Below w4.heap.size w4 W) [([0], 1), ([], 2)] [3, 4, 5, 6, 7] none (by kernel_rfl) (by kernel_rfl) hI ?_
  refine OrdI_cons ?_
  (apply StI_plain (w0 := w4.drew) hI rfl rfl rfl rfl; (focus (intro W hW K hK; obtain ⟨_, _⟩ := bk (w.heap.size + 1) hW hbl; go_step; exact hK)); (focus rfl))
  (apply StI_eff rfl; go_wp2_with (first | (go_at_call 8; refine (tspan_any _ _ _).mono ?_; rintro e w5 ⟨rfl, hb5⟩)))
  have hI1 : Below w4.heap.size w4 w5 := below_mid hI (Nat.le_refl _) hb5
  have hM5 := worksM_below HhM4.out hI1
  refine onNormal_mk hI1 (OrdI_cons ?_)
  (apply StI_eff rfl; go_wp2_with (first | (go_at_call 11; refine (windows_ok 10 wpts (some ⟨w.heap.size, 0, none⟩) 2 (w.heap.size + 1) 0 3600000 600000 20 w5 (worksM_model hM5) (by have := lt_of_heap hM5.2.1; omega) (by omega) (by omega) (by omega) (by omega) (by omega) (by decide) (by omega) (by omega) (by omega)).mono ?_; rintro e w6 ⟨xs, v, rfl, hcut, hrow, hb6⟩)))
  have hI2 : Below w4.heap.size w4 w6 := below_mid hI1 (Nat.le_refl _) hb6
  obtain ⟨b, hout, hwb0, hwb1⟩ := ebb_win xs hcut
  have hout' : (win 10 wpts 20 xs).out = [(1200000, b)] := hout
  rw [hout'] at hrow
  obtain ⟨aw, cw, hv, hSw⟩ := sl_spans hrow (by simp)
  subst hv
  have hF6 := HhF4.out.below hI2
  have hG6 := heap_below hI2 HhG4.out
  have hM6 := worksM_below HhM4.out hI2
  clear hrow hcut hout hout' hM5 hb5 hb6 hbx hbl HhF4 HhG4 HhM4
  have HhSw := Lib.hid hSw; clear hSw; have HhF6 := Lib.hid hF6; clear hF6; have HhG6 := Lib.hid hG6; clear hG6; have HhM6 := Lib.hid hM6; clear hM6
  refine onNormal_mk hI2 (OrdI_fin ?_)
  (apply StI_plain (w0 := w6) hI2 rfl rfl rfl rfl; (focus (intro W hW K hK; skip; go_step; exact hK)); (focus rfl)); (apply StI_plain (w0 := w6) hI2 rfl rfl rfl rfl; (focus (intro W hW K hK; skip; go_step; exact hK)); (focus rfl)); (apply StI_plain (w0 := w6) hI2 rfl rfl rfl rfl; (focus (intro W hW K hK; skip; go_step; exact hK)); (focus rfl)); (apply StI_plain (w0 := w6) hI2 rfl rfl rfl rfl; (focus (intro W hW K hK; skip; go_step; exact hK)); (focus rfl)); (apply StI_plain (w0 := w6) hI2 rfl rfl rfl rfl; (focus (intro W hW K hK; skip; go_step; exact hK)); (focus rfl))
  refine StI_nil ?_
  clear hI hI1 hI2
  go_upto_region 5 with fail
  have hLv := fun W (hx : Below w6.heap.size w6 W) => Level_ok 10 wpts (some ⟨w.heap.size, 0, none⟩) 2 (w.heap.size + 1) 1800000 1800000 W (worksM_model (worksM_below HhM6.out hx)) (by have := hx.size; have := lt_of_heap HhM6.out.2.1; omega) (by omega) (by omega) (by omega) X1 Y1 HhX1.out HhY1.out
  have hbx := cells_of HhM6.out.2.1
  have hbl := lt_of_heap HhM6.out.2.1
  go_cut [5, 6] from 28 to 34 (fun v e wx => LvB X1 Y1 w6 v e wx)
  case first =>
    have hI : Below w6.heap.size w6 w6.drew := (Below.refl _ _).drew
    refine wp_region_ordT (fun W => Below w6.heap.size w6 W) (.two [0] 1 (.two [] 2 (.one [3, 4, 5] 6 (.one [] 7 (.fin [8] none))) 6 (.one [] 2 (.one [3, 4, 5] 7 (.fin [8] none)))) 6 (.one [] 1 (.one [] 2 (.one [3, 4, 5] 7 (.fin [8] none))))) (by kernel_rfl) (by kernel_rfl) hI ?_
    refine otTwo ?_
    (apply StI_plain (w0 := w6.drew) hI rfl rfl rfl rfl; (focus (intro W hW K hK; obtain ⟨_, _⟩ := bk (w.heap.size + 1) hW hbl; go_step; exact hK)); (focus rfl))
    refine StI_nil ⟨?_, ?_⟩
    · (apply wpOp_eff rfl; go_wp2_with (first | (go_at_call 8; refine (tspan_any _ _ _).mono ?_; rintro e x1 ⟨rfl, hy1⟩)))
      have hI1 : Below w6.heap.size w6 x1 := below_mid hI (Nat.le_refl _) hy1
      refine otN hI1 (otTwo (StI_nil ⟨?_, ?_⟩))
      · (apply wpOp_eff rfl; go_wp2_with (first | (go_at_call 9; refine (hLv _ hI1).mono ?_; rintro e x2 ⟨rfl, hy2⟩)))
        have hI2 : Below w6.heap.size w6 x2 := below_mid hI1 (Nat.le_refl _) hy2
        refine otN hI2 (otOne ?_)
        (apply StI_plain (w0 := x2) hI2 rfl rfl rfl rfl; (focus (intro W hW K hK; skip; go_step; exact hK)); (focus rfl)); (apply StI_plain (w0 := x2) hI2 rfl rfl rfl rfl; (focus (intro W hW K hK; skip; go_step; exact hK)); (focus rfl)); (apply StI_plain (w0 := x2) hI2 rfl rfl rfl rfl; (focus (intro W hW K hK; skip; go_step; exact hK)); (focus rfl))
        (apply StI_eff rfl; go_wp2_with (first | fail))
        have hqq : w6.heap.size ≤ x2.heap.size := hI2.size
        have hIa : Below w6.heap.size w6 (x2.alloc (.cells #[.int .i64 0, .int .i64 0] 46)) := hI2.alloc hqq _
        have xq := heap_alloc_at x2 (.cells #[.int .i64 0, .int .i64 0] 46)
        generalize (x2.alloc (.cells #[.int .i64 0, .int .i64 0] 46)) = xa at hIa xq ⊢
        refine otN hIa (otOne ?_)
        have xqc := cells_of xq
        have xqf := frozen_of xq
        have xql := lt_of_heap xq
        have Hxq := Lib.hid xq; clear xq
        (apply StI_eff rfl; go_wp2_with (first | fail))
        have hIz := below_set2 (u := .int .i64 X1) (v := .int .i64 Y1) hIa hqq
        refine otN hIz (otFin ?_)
        (apply StI_plain (w0 := ((xa.setCell ⟨x2.heap.size, 0, none⟩ (.int .i64 X1)).setCell ⟨x2.heap.size, 1, none⟩ (.int .i64 Y1))) hIz rfl rfl rfl rfl; (focus (intro W hW K hK; skip; go_step; exact hK)); (focus rfl))
        refine StI_nil ?_
        go_wp2_with fail
        go_meet
        exact ⟨_, rfl, rfl, hqq, two_setS Hxq.out, hIz⟩
      · (apply wpOp_eff rfl; go_wp2_with (first | fail))
        have hqq : w6.heap.size ≤ x1.heap.size := hI1.size
        have hIa : Below w6.heap.size w6 (x1.alloc (.cells #[.int .i64 0, .int .i64 0] 46)) := hI1.alloc hqq _
        have xq := heap_alloc_at x1 (.cells #[.int .i64 0, .int .i64 0] 46)
        generalize (x1.alloc (.cells #[.int .i64 0, .int .i64 0] 46)) = xa at hIa xq ⊢
        refine otN hIa (otOne ?_)
        (apply StI_eff rfl; go_wp2_with (first | (go_at_call 9; refine (hLv _ hIa).mono ?_; rintro e x2 ⟨rfl, hy2⟩)))
        have hI2 : Below w6.heap.size w6 x2 := below_mid hIa (Nat.le_refl _) hy2
        replace xq := heap_below hy2 xq
        refine otN hI2 (otOne ?_)
        (apply StI_plain (w0 := x2) hI2 rfl rfl rfl rfl; (focus (intro W hW K hK; skip; go_step; exact hK)); (focus rfl)); (apply StI_plain (w0 := x2) hI2 rfl rfl rfl rfl; (focus (intro W hW K hK; skip; go_step; exact hK)); (focus rfl)); (apply StI_plain (w0 := x2) hI2 rfl rfl rfl rfl; (focus (intro W hW K hK; skip; go_step; exact hK)); (focus rfl))
        have xqc := cells_of xq
        have xqf := frozen_of xq
        have xql := lt_of_heap xq
        have Hxq := Lib.hid xq; clear xq
        (apply StI_eff rfl; go_wp2_with (first | fail))
        have hIz := below_set2 (u := .int .i64 X1) (v := .int .i64 Y1) hI2 hqq
        refine otN hIz (otFin ?_)
        (apply StI_plain (w0 := ((x2.setCell ⟨x1.heap.size, 0, none⟩ (.int .i64 X1)).setCell ⟨x1.heap.size, 1, none⟩ (.int .i64 Y1))) hIz rfl rfl rfl rfl; (focus (intro W hW K hK; skip; go_step; exact hK)); (focus rfl))
        refine StI_nil ?_
        go_wp2_with fail
        go_meet
        exact ⟨_, rfl, rfl, hqq, two_setS Hxq.out, hIz⟩
    · (apply wpOp_eff rfl; go_wp2_with (first | fail))
      have hqq : w6.heap.size ≤ w6.heap.size := Nat.le_refl _
      have hIa : Below w6.heap.size w6 (w6.alloc (.cells #[.int .i64 0, .int .i64 0] 46)).drew := ((Below.refl _ _).alloc hqq _).drew
      have xq : (w6.alloc (.cells #[.int .i64 0, .int .i64 0] 46)).drew.heap[w6.heap.size]? = some (.cells #[.int .i64 0, .int .i64 0] 46 (0, 0)) := heap_drew' (heap_alloc_at w6 (.cells #[.int .i64 0, .int .i64 0] 46))
      generalize (w6.alloc (.cells #[.int .i64 0, .int .i64 0] 46)).drew = xa at hIa xq ⊢
      refine otN hIa (otOne ?_)
      (apply StI_eff rfl; go_wp2_with (first | (go_at_call 8; refine (tspan_any _ _ _).mono ?_; rintro e x1 ⟨rfl, hy1⟩)))
      have hI1 : Below w6.heap.size w6 x1 := below_mid hIa (Nat.le_refl _) hy1
      replace xq := heap_below hy1 xq
      refine otN hI1 (otOne ?_)
      (apply StI_eff rfl; go_wp2_with (first | (go_at_call 9; refine (hLv _ hI1).mono ?_; rintro e x2 ⟨rfl, hy2⟩)))
      have hI2 : Below w6.heap.size w6 x2 := below_mid hI1 (Nat.le_refl _) hy2
      replace xq := heap_below hy2 xq
      refine otN hI2 (otOne ?_)
      (apply StI_plain (w0 := x2) hI2 rfl rfl rfl rfl; (focus (intro W hW K hK; skip; go_step; exact hK)); (focus rfl)); (apply StI_plain (w0 := x2) hI2 rfl rfl rfl rfl; (focus (intro W hW K hK; skip; go_step; exact hK)); (focus rfl)); (apply StI_plain (w0 := x2) hI2 rfl rfl rfl rfl; (focus (intro W hW K hK; skip; go_step; exact hK)); (focus rfl))
      have xqc := cells_of xq
      have xqf := frozen_of xq
      have xql := lt_of_heap xq
      have Hxq := Lib.hid xq; clear xq
      (apply StI_eff rfl; go_wp2_with (first | fail))
      have hIz := below_set2 (u := .int .i64 X1) (v := .int .i64 Y1) hI2 hqq
      refine otN hIz (otFin ?_)
      (apply StI_plain (w0 := ((x2.setCell ⟨w6.heap.size, 0, none⟩ (.int .i64 X1)).setCell ⟨w6.heap.size, 1, none⟩ (.int .i64 Y1))) hIz rfl rfl rfl rfl; (focus (intro W hW K hK; skip; go_step; exact hK)); (focus rfl))
      refine StI_nil ?_
      go_wp2_with fail
      go_meet
      exact ⟨_, rfl, rfl, hqq, two_setS Hxq.out, hIz⟩
  case rest =>
    obtain ⟨p5, rfl, rfl, hp5, z5, hb5⟩ := hcut
    clear hLv hbx hbl
    have hM7 := worksM_below HhM6.out hb5
    have hF7 := HhF6.out.below hb5
    have hG7 := heap_below hb5 HhG6.out
    have hSw7 := HhSw.out.below (ek_span _) hb5
    have hs7 := hb5.size
    obtain ⟨w7, hw7⟩ : ∃ x, wc = x := ⟨_, rfl⟩
    rw [hw7] at z5 hM7 hF7 hG7 hSw7 hs7 ⊢
    clear hb5 HhM6 HhF6 HhG6 HhSw hw7
    have HhM7 := Lib.hid hM7; clear hM7; have HhF7 := Lib.hid hF7; clear hF7; have HhG7 := Lib.hid hG7; clear hG7; have HhSw7 := Lib.hid hSw7; clear hSw7; have Hz5 := Lib.hid z5; clear z5
    go_upto_region 6 with fail
    have hLv := fun W (hx : Below w7.heap.size w7 W) => Level_ok 10 wpts (some ⟨w.heap.size, 0, none⟩) 2 (w.heap.size + 1) 0 0 W (worksM_model (worksM_below HhM7.out hx)) (by have := hx.size; have := lt_of_heap HhM7.out.2.1; omega) (by omega) (by omega) (by omega) X2 Y2 HhX2.out HhY2.out
    have hbx := cells_of HhM7.out.2.1
    have hbl := lt_of_heap HhM7.out.2.1
    go_cut [7, 8] from 34 to 40 (fun v e wx => LvB X2 Y2 w7 v e wx)
    case first =>
      have hI : Below w7.heap.size w7 w7.drew := (Below.refl _ _).drew
      refine wp_region_ordT (fun W => Below w7.heap.size w7 W) (.two [0] 1 (.two [] 2 (.one [3, 4, 5] 6 (.one [] 7 (.fin [8] none))) 6 (.one [] 2 (.one [3, 4, 5] 7 (.fin [8] none)))) 6 (.one [] 1 (.one [] 2 (.one [3, 4, 5] 7 (.fin [8] none))))) (by kernel_rfl) (by kernel_rfl) hI ?_
      refine otTwo ?_
      (apply StI_plain (w0 := w7.drew) hI rfl rfl rfl rfl; (focus (intro W hW K hK; obtain ⟨_, _⟩ := bk (w.heap.size + 1) hW hbl; go_step; exact hK)); (focus rfl))
      refine StI_nil ⟨?_, ?_⟩
      · (apply wpOp_eff rfl; go_wp2_with (first | (go_at_call 8; refine (tspan_any _ _ _).mono ?_; rintro e x1 ⟨rfl, hy1⟩)))
        have hI1 : Below w7.heap.size w7 x1 := below_mid hI (Nat.le_refl _) hy1
        refine otN hI1 (otTwo (StI_nil ⟨?_, ?_⟩))
        · (apply wpOp_eff rfl; go_wp2_with (first | (go_at_call 9; refine (hLv _ hI1).mono ?_; rintro e x2 ⟨rfl, hy2⟩)))
          have hI2 : Below w7.heap.size w7 x2 := below_mid hI1 (Nat.le_refl _) hy2
          refine otN hI2 (otOne ?_)
          (apply StI_plain (w0 := x2) hI2 rfl rfl rfl rfl; (focus (intro W hW K hK; skip; go_step; exact hK)); (focus rfl)); (apply StI_plain (w0 := x2) hI2 rfl rfl rfl rfl; (focus (intro W hW K hK; skip; go_step; exact hK)); (focus rfl)); (apply StI_plain (w0 := x2) hI2 rfl rfl rfl rfl; (focus (intro W hW K hK; skip; go_step; exact hK)); (focus rfl))
          (apply StI_eff rfl; go_wp2_with (first | fail))
          have hqq : w7.heap.size ≤ x2.heap.size := hI2.size
          have hIa : Below w7.heap.size w7 (x2.alloc (.cells #[.int .i64 0, .int .i64 0] 46)) := hI2.alloc hqq _
          have xq := heap_alloc_at x2 (.cells #[.int .i64 0, .int .i64 0] 46)
          generalize (x2.alloc (.cells #[.int .i64 0, .int .i64 0] 46)) = xa at hIa xq ⊢
          refine otN hIa (otOne ?_)
          have xqc := cells_of xq
          have xqf := frozen_of xq
          have xql := lt_of_heap xq
          have Hxq := Lib.hid xq; clear xq
          (apply StI_eff rfl; go_wp2_with (first | fail))
          have hIz := below_set2 (u := .int .i64 X2) (v := .int .i64 Y2) hIa hqq
          refine otN hIz (otFin ?_)
          (apply StI_plain (w0 := ((xa.setCell ⟨x2.heap.size, 0, none⟩ (.int .i64 X2)).setCell ⟨x2.heap.size, 1, none⟩ (.int .i64 Y2))) hIz rfl rfl rfl rfl; (focus (intro W hW K hK; skip; go_step; exact hK)); (focus rfl))
          refine StI_nil ?_
          go_wp2_with fail
          go_meet
          exact ⟨_, rfl, rfl, hqq, two_setS Hxq.out, hIz⟩
        · (apply wpOp_eff rfl; go_wp2_with (first | fail))
          have hqq : w7.heap.size ≤ x1.heap.size := hI1.size
          have hIa : Below w7.heap.size w7 (x1.alloc (.cells #[.int .i64 0, .int .i64 0] 46)) := hI1.alloc hqq _
          have xq := heap_alloc_at x1 (.cells #[.int .i64 0, .int .i64 0] 46)
          generalize (x1.alloc (.cells #[.int .i64 0, .int .i64 0] 46)) = xa at hIa xq ⊢
          refine otN hIa (otOne ?_)
          (apply StI_eff rfl; go_wp2_with (first | (go_at_call 9; refine (hLv _ hIa).mono ?_; rintro e x2 ⟨rfl, hy2⟩)))
          have hI2 : Below w7.heap.size w7 x2 := below_mid hIa (Nat.le_refl _) hy2
          replace xq := heap_below hy2 xq
          refine otN hI2 (otOne ?_)
          (apply StI_plain (w0 := x2) hI2 rfl rfl rfl rfl; (focus (intro W hW K hK; skip; go_step; exact hK)); (focus rfl)); (apply StI_plain (w0 := x2) hI2 rfl rfl rfl rfl; (focus (intro W hW K hK; skip; go_step; exact hK)); (focus rfl)); (apply StI_plain (w0 := x2) hI2 rfl rfl rfl rfl; (focus (intro W hW K hK; skip; go_step; exact hK)); (focus rfl))
          have xqc := cells_of xq
          have xqf := frozen_of xq
          have xql := lt_of_heap xq
          have Hxq := Lib.hid xq; clear xq
          (apply StI_eff rfl; go_wp2_with (first | fail))
          have hIz := below_set2 (u := .int .i64 X2) (v := .int .i64 Y2) hI2 hqq
          refine otN hIz (otFin ?_)
          (apply StI_plain (w0 := ((x2.setCell ⟨x1.heap.size, 0, none⟩ (.int .i64 X2)).setCell ⟨x1.heap.size, 1, none⟩ (.int .i64 Y2))) hIz rfl rfl rfl rfl; (focus (intro W hW K hK; skip; go_step; exact hK)); (focus rfl))
          refine StI_nil ?_
          go_wp2_with fail
          go_meet
          exact ⟨_, rfl, rfl, hqq, two_setS Hxq.out, hIz⟩
      · (apply wpOp_eff rfl; go_wp2_with (first | fail))
        have hqq : w7.heap.size ≤ w7.heap.size := Nat.le_refl _
        have hIa : Below w7.heap.size w7 (w7.alloc (.cells #[.int .i64 0, .int .i64 0] 46)).drew := ((Below.refl _ _).alloc hqq _).drew
        have xq : (w7.alloc (.cells #[.int .i64 0, .int .i64 0] 46)).drew.heap[w7.heap.size]? = some (.cells #[.int .i64 0, .int .i64 0] 46 (0, 0)) := heap_drew' (heap_alloc_at w7 (.cells #[.int .i64 0, .int .i64 0] 46))
        generalize (w7.alloc (.cells #[.int .i64 0, .int .i64 0] 46)).drew = xa at hIa xq ⊢
        refine otN hIa (otOne ?_)
        (apply StI_eff rfl; go_wp2_with (first | (go_at_call 8; refine (tspan_any _ _ _).mono ?_; rintro e x1 ⟨rfl, hy1⟩)))
        have hI1 : Below w7.heap.size w7 x1 := below_mid hIa (Nat.le_refl _) hy1
        replace xq := heap_below hy1 xq
        refine otN hI1 (otOne ?_)
        (apply StI_eff rfl; go_wp2_with (first | (go_at_call 9; refine (hLv _ hI1).mono ?_; rintro e x2 ⟨rfl, hy2⟩)))
        have hI2 : Below w7.heap.size w7 x2 := below_mid hI1 (Nat.le_refl _) hy2
        replace xq := heap_below hy2 xq
        refine otN hI2 (otOne ?_)
        (apply StI_plain (w0 := x2) hI2 rfl rfl rfl rfl; (focus (intro W hW K hK; skip; go_step; exact hK)); (focus rfl)); (apply StI_plain (w0 := x2) hI2 rfl rfl rfl rfl; (focus (intro W hW K hK; skip; go_step; exact hK)); (focus rfl)); (apply StI_plain (w0 := x2) hI2 rfl rfl rfl rfl; (focus (intro W hW K hK; skip; go_step; exact hK)); (focus rfl))
        have xqc := cells_of xq
        have xqf := frozen_of xq
        have xql := lt_of_heap xq
        have Hxq := Lib.hid xq; clear xq
        (apply StI_eff rfl; go_wp2_with (first | fail))
        have hIz := below_set2 (u := .int .i64 X2) (v := .int .i64 Y2) hI2 hqq
        refine otN hIz (otFin ?_)
        (apply StI_plain (w0 := ((x2.setCell ⟨w7.heap.size, 0, none⟩ (.int .i64 X2)).setCell ⟨w7.heap.size, 1, none⟩ (.int .i64 Y2))) hIz rfl rfl rfl rfl; (focus (intro W hW K hK; skip; go_step; exact hK)); (focus rfl))
        refine StI_nil ?_
        go_wp2_with fail
        go_meet
        exact ⟨_, rfl, rfl, hqq, two_setS Hxq.out, hIz⟩
    case rest =>
      obtain ⟨p7, rfl, rfl, hp7, z7, hb7⟩ := hcut
      clear hLv hbx hbl
      have hF8 := HhF7.out.below hb7
      have hG8 := heap_below hb7 HhG7.out
      have hSw8 := HhSw7.out.below (ek_span _) (hb7.mono hs7)
      have hB8 := bl_step HhM7.out.2.2 hb7
      have y5 := heap_below hb7 Hz5.out
      have hs8 := hb7.size
      obtain ⟨w8, hw8⟩ : ∃ x, wc = x := ⟨_, rfl⟩
      rw [hw8] at z7 hF8 hG8 hSw8 hB8 y5 hs8 ⊢
      clear hb7 HhF7 HhG7 HhSw7 HhM7 Hz5 hw8
      obtain ⟨gw, ow, haw, hgw, hew⟩ := hSw8.2 0 (by simp)
      subst haw
      obtain ⟨e0, e1⟩ := hew
      simp only [List.getElem_cons_zero, Nat.zero_mul, Nat.add_zero] at e0 e1
      have hgw8 : gw < w8.heap.size := by omega
      have hwi : ∀ W, Calls Try.prog 12 #[.agg #[.int .i64 1800000, .int .i64 1800000], .agg #[.int .i64 1200000, .int .i64 b]] W fun e w' => e = .returned (.bool true) ∧ Below W.heap.size W w' := fun W => by
        have h := within_any 1800000 1800000 1200000 b W
        rw [decide_eq_true hwb0] at h
        exact h
      have hI : Below w8.heap.size w8 w8.drew := (Below.refl _ _).drew
      clear hSw8
      have HhF8 := Lib.hid hF8; clear hF8; have HhG8 := Lib.hid hG8; clear hG8; have HhB8 := Lib.hid hB8; clear hB8; have Hy5 := Lib.hid y5; clear y5; have Hz7 := Lib.hid z7; clear z7
      go_upto_region 7 with fail
      refine wp_region_ord (fun W => Below w8.heap.size w8 W) [([0, 1, 2, 3, 4, 5, 6, 7, 8, 9, 10, 11, 12, 13, 14, 15, 17, 18, 19], 16), ([], 20)] [21, 22] none (by kernel_rfl) (by kernel_rfl) hI ?_
      refine OrdI_cons ?_
      (apply StI_plain (w0 := w8.drew) hI rfl rfl rfl rfl; (focus (intro W hW K hK; obtain ⟨_, _⟩ := bk gw hW hgw8; go_step; exact hK)); (focus rfl)); (apply StI_plain (w0 := w8.drew) hI rfl rfl rfl rfl; (focus (intro W hW K hK; obtain ⟨_, _⟩ := bk gw hW hgw8; go_step; exact hK)); (focus rfl)); (apply StI_plain (w0 := w8.drew) hI rfl rfl rfl rfl; (focus (intro W hW K hK; obtain ⟨_, _⟩ := bk gw hW hgw8; go_step; exact hK)); (focus rfl)); (apply StI_yes (w0 := w8.drew) hI; (focus rfl); (focus rfl); (focus rfl); (focus rfl); (focus rfl); (focus rfl); (focus rfl); (focus (intro W hW K hK; obtain ⟨_, _⟩ := bk gw hW hgw8; go_step; exact hK)); (focus rfl)); (apply StI_yes (w0 := w8.drew) hI; (focus rfl); (focus rfl); (focus rfl); (focus rfl); (focus rfl); (focus rfl); (focus rfl); (focus (intro W hW K hK; obtain ⟨_, _⟩ := bk gw hW hgw8; go_step; exact hK)); (focus rfl)); (apply StI_plain (w0 := w8.drew) hI rfl rfl rfl rfl; (focus (intro W hW K hK; obtain ⟨_, _⟩ := bk gw hW hgw8; go_step; exact hK)); (focus rfl)); (apply StI_plain (w0 := w8.drew) hI rfl rfl rfl rfl; (focus (intro W hW K hK; obtain ⟨_, _⟩ := bk gw hW hgw8; go_step; exact hK)); (focus rfl)); (apply StI_yes (w0 := w8.drew) hI; (focus rfl); (focus rfl); (focus rfl); (focus rfl); (focus rfl); (focus rfl); (focus rfl); (focus (intro W hW K hK; obtain ⟨_, _⟩ := bk gw hW hgw8; go_step; exact hK)); (focus rfl)); (apply StI_yes (w0 := w8.drew) hI; (focus rfl); (focus rfl); (focus rfl); (focus rfl); (focus rfl); (focus rfl); (focus rfl); (focus (intro W hW K hK; obtain ⟨_, _⟩ := bk gw hW hgw8; go_step; exact hK)); (focus rfl)); (apply StI_plain (w0 := w8.drew) hI rfl rfl rfl rfl; (focus (intro W hW K hK; obtain ⟨_, _⟩ := bk gw hW hgw8; go_step; exact hK)); (focus rfl)); (apply StI_plain (w0 := w8.drew) hI rfl rfl rfl rfl; (focus (intro W hW K hK; obtain ⟨_, _⟩ := bk gw hW hgw8; go_step; exact hK)); (focus rfl)); (apply StI_yes (w0 := w8.drew) hI; (focus rfl); (focus rfl); (focus rfl); (focus rfl); (focus rfl); (focus rfl); (focus rfl); (focus (intro W hW K hK; obtain ⟨_, _⟩ := bk gw hW hgw8; go_step; exact hK)); (focus rfl)); (apply StI_yes (w0 := w8.drew) hI; (focus rfl); (focus rfl); (focus rfl); (focus rfl); (focus rfl); (focus rfl); (focus rfl); (focus (intro W hW K hK; obtain ⟨_, _⟩ := bk gw hW hgw8; go_step; exact hK)); (focus rfl)); (apply StI_yes (w0 := w8.drew) hI; (focus rfl); (focus rfl); (focus rfl); (focus rfl); (focus rfl); (focus rfl); (focus rfl); (focus (intro W hW K hK; obtain ⟨_, _⟩ := bk gw hW hgw8; go_step; exact hK)); (focus rfl)); (apply StI_plain (w0 := w8.drew) hI rfl rfl rfl rfl; (focus (intro W hW K hK; obtain ⟨_, _⟩ := bk gw hW hgw8; go_step; exact hK)); (focus rfl)); (apply StI_plain (w0 := w8.drew) hI rfl rfl rfl rfl; (focus (intro W hW K hK; obtain ⟨_, _⟩ := bk gw hW hgw8; go_step; exact hK)); (focus rfl)); (apply StI_yes (w0 := w8.drew) hI; (focus rfl); (focus rfl); (focus rfl); (focus rfl); (focus rfl); (focus rfl); (focus rfl); (focus (intro W hW K hK; obtain ⟨_, _⟩ := bk gw hW hgw8; go_step; exact hK)); (focus rfl)); (apply StI_yes (w0 := w8.drew) hI; (focus rfl); (focus rfl); (focus rfl); (focus rfl); (focus rfl); (focus rfl); (focus rfl); (focus (intro W hW K hK; obtain ⟨_, _⟩ := bk gw hW hgw8; go_step; exact hK)); (focus rfl)); (apply StI_yes (w0 := w8.drew) hI; (focus rfl); (focus rfl); (focus rfl); (focus rfl); (focus rfl); (focus rfl); (focus rfl); (focus (intro W hW K hK; obtain ⟨_, _⟩ := bk gw hW hgw8; go_step; exact hK)); (focus rfl))
      (apply StI_eff rfl; go_wp2_with (first | (go_at_call 8; refine (tspan_any _ _ _).mono ?_; rintro e w9 ⟨rfl, hb9⟩)))
      have hI9 : Below w8.heap.size w8 w9 := below_mid hI (Nat.le_refl _) hb9
      refine onNormal_mk hI9 (OrdI_cons ?_)
      (apply StI_eff rfl; go_wp2_with (first | (go_at_call 12; refine (hwi _).mono ?_; rintro e w10 ⟨rfl, hb10⟩)))
      have hI10 : Below w8.heap.size w8 w10 := below_mid hI9 (Nat.le_refl _) hb10
      refine onNormal_mk hI10 (OrdI_fin ?_)
      (apply StI_yes (w0 := w10) hI10; (focus rfl); (focus rfl); (focus rfl); (focus rfl); (focus rfl); (focus rfl); (focus rfl); (focus (intro W hW K hK; skip; go_step; exact hK)); (focus rfl)); (apply StI_plain (w0 := w10) hI10 rfl rfl rfl rfl; (focus (intro W hW K hK; skip; go_step; exact hK)); (focus rfl))
      refine StI_nil ?_
      have hF10 := HhF8.out.below hI10
      have hG10 := heap_below hI10 HhG8.out
      have hB10 := bl_step HhB8.out hI10
      have x5 := heap_below hI10 Hy5.out
      have x7 := heap_below hI10 Hz7.out
      clear hI hI9 hI10 hb9 hb10 HhF8 HhG8 HhB8 Hy5 Hz7 e0 e1 hgw8 hwi
      have hGc := cells_of hG10
      have hGl := lt_of_heap hG10
      have x5c := cells_of x5
      have x5l := lt_of_heap x5
      have x7l := lt_of_heap x7
      have HhF10 := Lib.hid hF10; clear hF10; have HhG10 := Lib.hid hG10; clear hG10; have HhB10 := Lib.hid hB10; clear hB10; have Hx5 := Lib.hid x5; clear x5; have Hx7 := Lib.hid x7; clear x7
      go_wp2_with fail
      have hFa : FourM g (w10.alloc (.cells #[.int .i64 0] 3)) := heap_alloc_off HhF10.out _
      refine (flood4 g w10.heap.size X1 Y1 _ hFa (heap_alloc_at _ _) (by omega) (by omega) (by omega)).mono ?_
      rintro e w11 ⟨lo1, hi1, s1, m1, cs1, cm1, rfl, hl1, _, _, hm1, hb11⟩
      have hlow := works_low hl1 (y := Y1) (by omega) (by omega)
      have hG11 := heap_below hb11 (heap_alloc_off HhG10.out (.cells #[.int .i64 0] 3))
      have hF11 : FourM g w11 := heap_below hb11 hFa
      have hB11 : Below w.heap.size w w11 := bl_step (bl_alloc HhB10.out _) hb11
      have v7 := heap_below hb11 (heap_alloc_off Hx7.out (.cells #[.int .i64 0] 3))
      have hm1n : (sureOf Y1 lo1).length = 4 := by rw [sureOf_len]; exact hl1.len
      obtain ⟨ga, oa, rfl, hga, ha1⟩ := hm1.2 1 (by omega)
      obtain ⟨ga', oa', hae, _, ha2⟩ := hm1.2 2 (by omega)
      obtain ⟨rfl, rfl⟩ : ga = ga' ∧ oa = oa' := by simpa using hae
      rw [sureOf_at, decide_eq_true hlow.1] at ha1
      rw [sureOf_at, decide_eq_false hlow.2] at ha2
      unfold BoolE at ha1 ha2
      simp only [Nat.mul_one] at ha1 ha2
      clear hGc hGl x5c x5l HhG10 HhF10 HhB10 Hx5 Hx7 hb11 hFa hl1 hm1 hlow hae hm1n
      have hGc := cells_of hG11
      have hGl := lt_of_heap hG11
      have v7c := cells_of v7
      have v7l := lt_of_heap v7
      have HhF11 := Lib.hid hF11; clear hF11; have HhG11 := Lib.hid hG11; clear hG11; have HhB11 := Lib.hid hB11; clear hB11; have Hv7 := Lib.hid v7; clear v7
      go_wp2_with fail
      have hFa : FourM g (w11.alloc (.cells #[.int .i64 0] 3)) := heap_alloc_off HhF11.out _
      refine (flood4 g w11.heap.size X2 Y2 _ hFa (heap_alloc_at _ _) (by omega) (by omega) (by omega)).mono ?_
      rintro e w12 ⟨lo2, hi2, s2, m2, cs2, cm2, rfl, _, hh2, hs2, _, hb12⟩
      have hhigh := works_high hh2 (x := X2) (by omega) (by omega)
      have hB12 : Below w.heap.size w w12 := bl_step (bl_alloc HhB11.out _) hb12
      have hga1 : ga < (w11.alloc (.cells #[.int .i64 0] 3)).heap.size := by simp; omega
      have hz1 : Below w11.heap.size w11 w12 := bl_step (bl_alloc (Below.refl _ _) _) hb12
      have d1 := (hz1.cell (p := ⟨ga, oa + 1, none⟩) hga).trans ha1
      have d2 := (hz1.cell (p := ⟨ga, oa + 2, none⟩) hga).trans ha2
      have hs2n : (sureOf X2 hi2).length = 4 := by rw [sureOf_len]; exact hh2.len
      obtain ⟨gb, ob, rfl, hgb, hb1'⟩ := hs2.2 2 (by omega)
      obtain ⟨gb', ob', hbe, _, hb2'⟩ := hs2.2 3 (by omega)
      obtain ⟨rfl, rfl⟩ : gb = gb' ∧ ob = ob' := by simpa using hbe
      rw [sureOf_at, decide_eq_true hhigh.1] at hb1'
      rw [sureOf_at, decide_eq_false hhigh.2] at hb2'
      unfold BoolE at hb1' hb2'
      simp only [Nat.mul_one] at hb1' hb2'
      clear hGc hGl v7c v7l HhG11 HhF11 HhB11 Hv7 hb12 hFa hh2 hs2 hhigh hbe hs2n hz1 ha1 ha2
      have HhB12 := Lib.hid hB12; clear hB12
      go_wp2_with fail
      go_ret
      exact ⟨rfl, HhB12.out⟩
end Go.Proofs.Ytfbmjecikilghaa
