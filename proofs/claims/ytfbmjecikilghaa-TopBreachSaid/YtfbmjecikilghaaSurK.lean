/- surge: the rise over a fetch. -/
import Derived.Test.YtfbmjecikilghaaSurP
import Derived.Maps.AppendAt
import Derived.Great.BuildSlice
namespace Go.Proofs.Ytfbmjecikilghaa
open Go.RowKit Go.Shelf
attribute [local go_sem] Oper.semAt_some

/-- Two numbers in boxes of their own. -/
def TwoB (W0 : World) (x y : Int) (v8 v9 : Value) (wx : World) : Prop :=
  ∃ q r, v8 = .pointer (some ⟨q, 0, none⟩) ∧ v9 = .pointer (some ⟨r, 0, none⟩) ∧ q ≠ r ∧ W0.heap.size ≤ q ∧ W0.heap.size ≤ r ∧ wx.heap[q]? = some (.cells #[.int .i64 x] 3 (0, 0)) ∧ wx.heap[r]? = some (.cells #[.int .i64 y] 3 (0, 0)) ∧ Below W0.heap.size W0 wx

set_option maxHeartbeats 8000000 in
set_option maxRecDepth 100000 in
theorem rise_any (W H cell dir : Nat) (sz s0 s1 d0 d1 l0 l1 v0 v1 : Int) (h0 : 1 ≤ W) (h1 : W ≤ 4) (h2 : 1 ≤ H) (h3 : H ≤ 4) (hc : cell < W * H) (hd8 : dir < 8) (gr : List (Int × Int)) (g cap : Nat) (gcs : Array Value) (gf : Nat × Nat) (hR : RowAt g (.cells gcs 46 gf) gr) (hgk : ∀ u ∈ gr, gok u) (hgl : gr.length = W * H)
    (w : World) (hsz : 1 ≤ sz ∧ sz ≤ 10000) (hs0 : -1000000 ≤ s0 ∧ s0 ≤ 1000000) (hs1 : -1000000 ≤ s1 ∧ s1 ≤ 1000000) (hd0 : 0 ≤ d0 ∧ d0 ≤ 10000) (hd1 : 0 ≤ d1 ∧ d1 ≤ 10000) (hv0 : 0 ≤ v0 ∧ v0 ≤ 10000) (hv1 : 0 ≤ v1 ∧ v1 ≤ 10000)
    (x5 : w.heap[g]? = some (.cells gcs 46 gf)) :
    Calls Try.prog 92 #[.agg (placeV W H sz g gr.length cap s0 s1 d0 d1 l0 l1 cell), .int .i64 dir, .agg #[.int .i64 v0, .int .i64 v1]] w fun e w' =>
      e = .returned (.agg #[.int .i64 (totLo d0 v0 (longS sz dir) (fetchX (s0, s1) (grOf gr) true (rayL W H cell dir))), .int .i64 (totHi d1 v1 (wideS sz dir) (fetchX (s0, s1) (grOf gr) false (rayL W H cell dir)))]) ∧ Below w.heap.size w w' := by
  obtain ⟨z0, z1⟩ := hsz
  have hlo := fun V lg hlg a b c d e f => rise1lo_ok W H cell dir sz s0 s1 d0 d1 l0 l1 v0 v1 lg h0 h1 h2 h3 hc hd8 gr g cap gcs gf hR hgk hgl a b c d V hs0 hs1 hd0 hv0 hlg e f
  have hhi := fun V lg hlg a b c d e f => rise1hi_ok W H cell dir sz s0 s1 d0 d1 l0 l1 v0 v1 lg h0 h1 h2 h3 hc hd8 gr g cap gcs gf hR hgk hgl a b c d V hs0 hs1 hd1 hv1 hlg e f
  obtain ⟨n, hn⟩ : ∃ n, gr.length = n := ⟨_, rfl⟩
  obtain ⟨dI, hdI⟩ : ∃ x : Int, (dir : Int) = x := ⟨_, rfl⟩
  rw [hn] at hlo hhi ⊢
  rw [hdI]
  obtain ⟨LG, hLG⟩ : ∃ x, longS sz dir = x := ⟨_, rfl⟩
  obtain ⟨WD, hWD⟩ : ∃ x, wideS sz dir = x := ⟨_, rfl⟩
  rw [hLG, hWD]
  obtain ⟨X, hX⟩ : ∃ X, totLo d0 v0 LG (fetchX (s0, s1) (grOf gr) true (rayL W H cell dir)) = X := ⟨_, rfl⟩
  obtain ⟨Y, hY⟩ : ∃ X, totHi d1 v1 WD (fetchX (s0, s1) (grOf gr) false (rayL W H cell dir)) = X := ⟨_, rfl⟩
  rw [hX, hY]
  simp only [hdI] at hlo hhi
  clear hR hgk hgl hn
  have Hhlo := Lib.hid hlo; clear hlo; have Hhhi := Lib.hid hhi; clear hhi; have Hx5 := Lib.hid x5; clear x5; have HhdI := Lib.hid hdI; clear hdI; have HhLG := Lib.hid hLG; clear hLG; have HhWD := Lib.hid hWD; clear hWD; have HhX := Lib.hid hX; clear hX; have HhY := Lib.hid hY; clear hY
  go_enter Try.func92, Try.ntmps92
  go_upto_region 1 with fail
  have hp0 : ((((w.alloc (.cells (placeV W H sz g n cap s0 s1 d0 d1 l0 l1 cell) 119)).alloc (.cells #[.int .i64 dI] 3)).alloc (.cells #[.int .i64 v0, .int .i64 v1] 122)).alloc (.cells #[.int .i64 0, .int .i64 0] 122)).heap[w.heap.size]? = some (.cells #[.int .i64 W, .int .i64 H, .int .i64 sz, .slice (some ⟨g, 0, none⟩) n cap, .int .i64 s0, .int .i64 s1, .int .i64 d0, .int .i64 d1, .int .i64 l0, .int .i64 l1, .int .i64 cell] 119 (0, 0)) := heap_alloc_off (heap_alloc_off (heap_alloc_off (heap_alloc_at _ _) _) _) _
  have hp1 : ((((w.alloc (.cells (placeV W H sz g n cap s0 s1 d0 d1 l0 l1 cell) 119)).alloc (.cells #[.int .i64 dI] 3)).alloc (.cells #[.int .i64 v0, .int .i64 v1] 122)).alloc (.cells #[.int .i64 0, .int .i64 0] 122)).heap[w.heap.size + 1]? = some (.cells #[.int .i64 dI] 3 (0, 0)) := heap_alloc_off (heap_alloc_off (heap_alloc_at' _ _ (by simp)) _) _
  have hp2 : ((((w.alloc (.cells (placeV W H sz g n cap s0 s1 d0 d1 l0 l1 cell) 119)).alloc (.cells #[.int .i64 dI] 3)).alloc (.cells #[.int .i64 v0, .int .i64 v1] 122)).alloc (.cells #[.int .i64 0, .int .i64 0] 122)).heap[w.heap.size + 1 + 1]? = some (.cells #[.int .i64 v0, .int .i64 v1] 122 (0, 0)) := heap_alloc_off (heap_alloc_at' _ _ (by simp)) _
  have hp3 : ((((w.alloc (.cells (placeV W H sz g n cap s0 s1 d0 d1 l0 l1 cell) 119)).alloc (.cells #[.int .i64 dI] 3)).alloc (.cells #[.int .i64 v0, .int .i64 v1] 122)).alloc (.cells #[.int .i64 0, .int .i64 0] 122)).heap[w.heap.size + 1 + 1 + 1]? = some (.cells #[.int .i64 0, .int .i64 0] 122 (0, 0)) := heap_alloc_at' _ _ (by simp)
  have hbw : Below w.heap.size w ((((w.alloc (.cells (placeV W H sz g n cap s0 s1 d0 d1 l0 l1 cell) 119)).alloc (.cells #[.int .i64 dI] 3)).alloc (.cells #[.int .i64 v0, .int .i64 v1] 122)).alloc (.cells #[.int .i64 0, .int .i64 0] 122)) := (by repeat (first | exact Below.refl _ _ | (refine bl_setCell ?_ _ _ ?_; rotate_left; focus (first | omega | (simp; done) | (simp; omega))) | refine bl_alloc ?_ _ | refine bl_step ?_ (by assumption) | refine bl_drew ?_ | refine bl_drewN ?_ _))
  generalize ((((w.alloc (.cells (placeV W H sz g n cap s0 s1 d0 d1 l0 l1 cell) 119)).alloc (.cells #[.int .i64 dI] 3)).alloc (.cells #[.int .i64 v0, .int .i64 v1] 122)).alloc (.cells #[.int .i64 0, .int .i64 0] 122)) = w1 at hp0 hp1 hp2 hp3 hbw ⊢
  have hs1 : w.heap.size + 4 ≤ w1.heap.size := by have := lt_of_heap hp3; omega
  have hs4 := lt_of_heap hp0
  go_cut [7, 8] from 7 to 21 (fun a b wx => TwoB w1 (100 * sz) (100 * sz) a b wx)
  case first =>
    have hI : w1.drew.heap[w.heap.size]? = some (.cells #[.int .i64 W, .int .i64 H, .int .i64 sz, .slice (some ⟨g, 0, none⟩) n cap, .int .i64 s0, .int .i64 s1, .int .i64 d0, .int .i64 d1, .int .i64 l0, .int .i64 l1, .int .i64 cell] 119 (0, 0)) := hp0
    refine wp_region_ordT (fun V => V.heap[w.heap.size]? = some (.cells #[.int .i64 W, .int .i64 H, .int .i64 sz, .slice (some ⟨g, 0, none⟩) n cap, .int .i64 s0, .int .i64 s1, .int .i64 d0, .int .i64 d1, .int .i64 l0, .int .i64 l1, .int .i64 cell] 119 (0, 0))) (.two [0, 1, 2, 3, 4, 5, 6, 7, 8, 9] 10 (.one [] 11 (.one [] 12 (.fin [] (some 13)))) 11 (.one [] 10 (.one [] 12 (.fin [] (some 13))))) (by kernel_rfl) (by kernel_rfl) hI ?_
    refine otTwo ?_
    (apply StI_plain (w0 := w1.drew) hI rfl rfl rfl rfl; (focus (intro W hW K hK; have := cells_of hW; have := lt_of_heap hW; go_step; exact hK)); (focus rfl)); (apply StI_plain (w0 := w1.drew) hI rfl rfl rfl rfl; (focus (intro W hW K hK; have := cells_of hW; have := lt_of_heap hW; go_step; exact hK)); (focus rfl)); (apply StI_plain (w0 := w1.drew) hI rfl rfl rfl rfl; (focus (intro W hW K hK; have := cells_of hW; have := lt_of_heap hW; go_step; exact hK)); (focus rfl)); (apply StI_plain (w0 := w1.drew) hI rfl rfl rfl rfl; (focus (intro W hW K hK; have := cells_of hW; have := lt_of_heap hW; go_step; exact hK)); (focus rfl)); (apply StI_plain (w0 := w1.drew) hI rfl rfl rfl rfl; (focus (intro W hW K hK; have := cells_of hW; have := lt_of_heap hW; go_step; exact hK)); (focus rfl)); (apply StI_plain (w0 := w1.drew) hI rfl rfl rfl rfl; (focus (intro W hW K hK; have := cells_of hW; have := lt_of_heap hW; go_step; exact hK)); (focus rfl)); (apply StI_plain (w0 := w1.drew) hI rfl rfl rfl rfl; (focus (intro W hW K hK; have := cells_of hW; have := lt_of_heap hW; go_step; exact hK)); (focus rfl)); (apply StI_plain (w0 := w1.drew) hI rfl rfl rfl rfl; (focus (intro W hW K hK; have := cells_of hW; have := lt_of_heap hW; go_step; exact hK)); (focus rfl)); (apply StI_plain (w0 := w1.drew) hI rfl rfl rfl rfl; (focus (intro W hW K hK; have := cells_of hW; have := lt_of_heap hW; go_step; exact hK)); (focus rfl)); (apply StI_plain (w0 := w1.drew) hI rfl rfl rfl rfl; (focus (intro W hW K hK; have := cells_of hW; have := lt_of_heap hW; go_step; exact hK)); (focus rfl))
    refine StI_nil ⟨?_, ?_⟩
    · (apply wpOp_eff rfl; go_wp2_with (first | fail))
      have i1 := heap_drew' (heap_alloc_off hp0 (.cells #[.int .i64 0] 3))
      have xa := heap_drew' (heap_alloc_at w1 (.cells #[.int .i64 0] 3))
      have b1 : Below w1.heap.size w1 (w1.alloc (.cells #[.int .i64 0] 3)).drew := ((Below.refl _ _).alloc (Nat.le_refl _) _).drew
      generalize (w1.alloc (.cells #[.int .i64 0] 3)).drew = v1 at i1 xa b1 ⊢
      refine otN i1 (otOne ?_)
      (apply StI_eff rfl; go_wp2_with (first | fail))
      have i2 := heap_alloc_off i1 (.cells #[.int .i64 0] 3)
      have xb := heap_alloc_at v1 (.cells #[.int .i64 0] 3)
      have xa2 := heap_alloc_off xa (.cells #[.int .i64 0] 3)
      have b2 : Below w1.heap.size w1 (v1.alloc (.cells #[.int .i64 0] 3)) := b1.alloc b1.size _
      have hlt := lt_of_heap xa
      have hge := b1.size
      obtain ⟨k, hk⟩ : ∃ k, v1.heap.size = k := ⟨_, rfl⟩
      obtain ⟨j, hj⟩ : ∃ j, w1.heap.size = j := ⟨_, rfl⟩
      rw [hk] at xb hlt hge ⊢
      rw [hj] at hlt hge xa2 ⊢
      generalize v1.alloc (.cells #[.int .i64 0] 3) = v2 at i2 xb xa2 b2 ⊢
      clear i1 xa b1
      refine otN i2 (otOne ?_)
      have hqr : j ≠ k := by omega
      have xqc := cells_of xa2
      have xqf := frozen_of xa2
      have xql := lt_of_heap xa2
      (apply StI_eff rfl; go_wp2_with (first | fail))
      have i3 := heap_setCell_off (o := 0) i2 (.int .i64 (100 * sz)) (show j ≠ w.heap.size by omega)
      have yq := (heap_setCell_at (o := 0) xa2 (.int .i64 (100 * sz))).trans rfl
      have yr := heap_setCell_off (o := 0) xb (.int .i64 (100 * sz)) hqr
      have b3 := b2.setCell (p := ⟨j, 0, none⟩) (by show w1.heap.size ≤ j; omega) (.int .i64 (100 * sz))
      generalize v2.setCell ⟨j, 0, none⟩ (.int .i64 (100 * sz)) = v3 at i3 yq yr b3 ⊢
      clear i2 xa2 xb b2 xqc xqf xql
      refine otN i3 (otSnkI ?_)
      have yrc := cells_of yr
      have yrf := frozen_of yr
      have yrl := lt_of_heap yr
      (apply StI_eff rfl; go_wp2_with (first | fail))
      refine onNormal_last ?_
      go_wp2_with fail
      go_meet
      exact ⟨j, k, rfl, rfl, hqr, by omega, by omega, heap_setCell_off yq _ (Ne.symm hqr), (heap_setCell_at yr _).trans rfl, b3.setCell (p := ⟨k, 0, none⟩) (by show w1.heap.size ≤ k; omega) _⟩
    · (apply wpOp_eff rfl; go_wp2_with (first | fail))
      have i1 := heap_drew' (heap_alloc_off hp0 (.cells #[.int .i64 0] 3))
      have xa := heap_drew' (heap_alloc_at w1 (.cells #[.int .i64 0] 3))
      have b1 : Below w1.heap.size w1 (w1.alloc (.cells #[.int .i64 0] 3)).drew := ((Below.refl _ _).alloc (Nat.le_refl _) _).drew
      generalize (w1.alloc (.cells #[.int .i64 0] 3)).drew = v1 at i1 xa b1 ⊢
      refine otN i1 (otOne ?_)
      (apply StI_eff rfl; go_wp2_with (first | fail))
      have i2 := heap_alloc_off i1 (.cells #[.int .i64 0] 3)
      have xb := heap_alloc_at v1 (.cells #[.int .i64 0] 3)
      have xa2 := heap_alloc_off xa (.cells #[.int .i64 0] 3)
      have b2 : Below w1.heap.size w1 (v1.alloc (.cells #[.int .i64 0] 3)) := b1.alloc b1.size _
      have hlt := lt_of_heap xa
      have hge := b1.size
      obtain ⟨k, hk⟩ : ∃ k, v1.heap.size = k := ⟨_, rfl⟩
      obtain ⟨j, hj⟩ : ∃ j, w1.heap.size = j := ⟨_, rfl⟩
      rw [hk] at xb hlt hge ⊢
      rw [hj] at hlt hge xa2 ⊢
      generalize v1.alloc (.cells #[.int .i64 0] 3) = v2 at i2 xb xa2 b2 ⊢
      clear i1 xa b1
      refine otN i2 (otOne ?_)
      have hqr : k ≠ j := by omega
      have xqc := cells_of xb
      have xqf := frozen_of xb
      have xql := lt_of_heap xb
      (apply StI_eff rfl; go_wp2_with (first | fail))
      have i3 := heap_setCell_off (o := 0) i2 (.int .i64 (100 * sz)) (show k ≠ w.heap.size by omega)
      have yq := (heap_setCell_at (o := 0) xb (.int .i64 (100 * sz))).trans rfl
      have yr := heap_setCell_off (o := 0) xa2 (.int .i64 (100 * sz)) hqr
      have b3 := b2.setCell (p := ⟨k, 0, none⟩) (by show w1.heap.size ≤ k; omega) (.int .i64 (100 * sz))
      generalize v2.setCell ⟨k, 0, none⟩ (.int .i64 (100 * sz)) = v3 at i3 yq yr b3 ⊢
      clear i2 xa2 xb b2 xqc xqf xql
      refine otN i3 (otSnkI ?_)
      have yrc := cells_of yr
      have yrf := frozen_of yr
      have yrl := lt_of_heap yr
      (apply StI_eff rfl; go_wp2_with (first | fail))
      refine onNormal_last ?_
      go_wp2_with fail
      go_meet
      exact ⟨k, j, rfl, rfl, hqr, by omega, by omega, heap_setCell_off yq _ (Ne.symm hqr), (heap_setCell_at yr _).trans rfl, b3.setCell (p := ⟨j, 0, none⟩) (by show w1.heap.size ≤ j; omega) _⟩
  case rest =>
    obtain ⟨q, r, rfl, rfl, hqr, hq0, hr0, yq, yr, hB⟩ := hcut
    have k0 := heap_below hB hp0
    have k1 := heap_below hB hp1
    have k2 := heap_below hB hp2
    have k3 := heap_below hB hp3
    have k1c := cells_of k1
    have k1l := lt_of_heap k1
    have h8 : dI < 8 := by have := HhdI.out; omega
    have h00 : 0 ≤ dI := by have := HhdI.out; omega
    obtain ⟨bd, hbd⟩ : ∃ x, (dI % 2 == 1) = x := ⟨_, rfl⟩
    clear hs4
    have Hhp0 := Lib.hid hp0; clear hp0; have Hhp1 := Lib.hid hp1; clear hp1; have Hhp2 := Lib.hid hp2; clear hp2; have Hhp3 := Lib.hid hp3; clear hp3; have Hk0 := Lib.hid k0; clear k0; have Hk1 := Lib.hid k1; clear k1; have Hk2 := Lib.hid k2; clear k2; have Hk3 := Lib.hid k3; clear k3; have HhB := Lib.hid hB; clear hB; have Hyq := Lib.hid yq; clear yq; have Hyr := Lib.hid yr; clear yr; have Hhbw := Lib.hid hbw; clear hbw
    go_upto_if 24 with fail
    go_cut [25] from 25 to 34 (fun _ wx => wx.heap[q]? = some (.cells #[.int .i64 LG] 3 (0, 0)) ∧ wx.heap[r]? = some (.cells #[.int .i64 WD] 3 (0, 0)) ∧ Below w1.heap.size w1 wx)
    case first =>
      cases bd with
      | true =>
        have e1 : 141 * sz = LG := by rw [← HhLG.out]; unfold longS; rw [if_pos]; have := HhdI.out; simp at hbd; omega
        have e2 : 142 * sz = WD := by rw [← HhWD.out]; unfold wideS; rw [if_pos]; have := HhdI.out; simp at hbd; omega
        have yqc := cells_of Hyq.out
        have yqf := frozen_of Hyq.out
        have yql := lt_of_heap Hyq.out
        clear k1c k1l
        have Hhbd := Lib.hid hbd; clear hbd; have He1 := Lib.hid e1; clear e1; have He2 := Lib.hid e2; clear e2
        go_upto_region 3 with fail
        have hI : wc.drew.heap[w.heap.size]? = some (.cells #[.int .i64 W, .int .i64 H, .int .i64 sz, .slice (some ⟨g, 0, none⟩) n cap, .int .i64 s0, .int .i64 s1, .int .i64 d0, .int .i64 d1, .int .i64 l0, .int .i64 l1, .int .i64 cell] 119 (0, 0)) := Hk0.out
        refine wp_region_ord (fun V => V.heap[w.heap.size]? = some (.cells #[.int .i64 W, .int .i64 H, .int .i64 sz, .slice (some ⟨g, 0, none⟩) n cap, .int .i64 s0, .int .i64 s1, .int .i64 d0, .int .i64 d1, .int .i64 l0, .int .i64 l1, .int .i64 cell] 119 (0, 0))) [([0, 1, 2, 3, 4, 5, 6, 7, 8, 9], 10)] [] (some 11) (by kernel_rfl) (by kernel_rfl) hI ?_
        refine OrdI_cons ?_
        (apply StI_plain (w0 := wc.drew) hI rfl rfl rfl rfl; (focus (intro W hW K hK; have := cells_of hW; have := lt_of_heap hW; go_step; exact hK)); (focus rfl)); (apply StI_plain (w0 := wc.drew) hI rfl rfl rfl rfl; (focus (intro W hW K hK; have := cells_of hW; have := lt_of_heap hW; go_step; exact hK)); (focus rfl)); (apply StI_plain (w0 := wc.drew) hI rfl rfl rfl rfl; (focus (intro W hW K hK; have := cells_of hW; have := lt_of_heap hW; go_step; exact hK)); (focus rfl)); (apply StI_plain (w0 := wc.drew) hI rfl rfl rfl rfl; (focus (intro W hW K hK; have := cells_of hW; have := lt_of_heap hW; go_step; exact hK)); (focus rfl)); (apply StI_plain (w0 := wc.drew) hI rfl rfl rfl rfl; (focus (intro W hW K hK; have := cells_of hW; have := lt_of_heap hW; go_step; exact hK)); (focus rfl)); (apply StI_plain (w0 := wc.drew) hI rfl rfl rfl rfl; (focus (intro W hW K hK; have := cells_of hW; have := lt_of_heap hW; go_step; exact hK)); (focus rfl)); (apply StI_plain (w0 := wc.drew) hI rfl rfl rfl rfl; (focus (intro W hW K hK; have := cells_of hW; have := lt_of_heap hW; go_step; exact hK)); (focus rfl)); (apply StI_plain (w0 := wc.drew) hI rfl rfl rfl rfl; (focus (intro W hW K hK; have := cells_of hW; have := lt_of_heap hW; go_step; exact hK)); (focus rfl)); (apply StI_plain (w0 := wc.drew) hI rfl rfl rfl rfl; (focus (intro W hW K hK; have := cells_of hW; have := lt_of_heap hW; go_step; exact hK)); (focus rfl)); (apply StI_plain (w0 := wc.drew) hI rfl rfl rfl rfl; (focus (intro W hW K hK; have := cells_of hW; have := lt_of_heap hW; go_step; exact hK)); (focus rfl))
        (apply StI_eff rfl; go_wp2_with (first | fail))
        have i3 := heap_drew' (heap_setCell_off (o := 0) Hk0.out (.int .i64 (141 * sz)) (show q ≠ w.heap.size by omega))
        have zq := heap_drew' ((heap_setCell_at (o := 0) Hyq.out (.int .i64 (141 * sz))).trans rfl)
        have zr := heap_drew' (heap_setCell_off (o := 0) Hyr.out (.int .i64 (141 * sz)) hqr)
        have b3 := (HhB.out.setCell (p := ⟨q, 0, none⟩) (by show w1.heap.size ≤ q; omega) (.int .i64 (141 * sz))).drew
        generalize (wc.setCell ⟨q, 0, none⟩ (.int .i64 (141 * sz))).drew = v3 at i3 zq zr b3 ⊢
        clear yqc yqf yql
        refine onNormal_mk i3 (OrdI_snk (StI_nil ?_))
        have zrc := cells_of zr
        have zrf := frozen_of zr
        have zrl := lt_of_heap zr
        apply wpOp_eff rfl
        go_wp2_with fail
        refine onNormal_last ?_
        go_wp2_with fail
        go_meet
        rw [← He1.out, ← He2.out]
        exact ⟨heap_setCell_off zq _ (Ne.symm hqr), (heap_setCell_at zr _).trans rfl, b3.setCell (p := ⟨r, 0, none⟩) (by show w1.heap.size ≤ r; omega) _⟩
      | false =>
        have e1 : 100 * sz = LG := by rw [← HhLG.out]; unfold longS; rw [if_neg]; have := HhdI.out; simp at hbd; omega
        have e2 : 100 * sz = WD := by rw [← HhWD.out]; unfold wideS; rw [if_neg]; have := HhdI.out; simp at hbd; omega
        have Hhbd := Lib.hid hbd; clear hbd; have He1 := Lib.hid e1; clear e1; have He2 := Lib.hid e2; clear e2
        go_wp2_with fail
        go_meet
        refine ⟨?_, ?_, HhB.out⟩
        · rw [← He1.out]; exact Hyq.out
        · rw [← He2.out]; exact Hyr.out
    case rest =>
    obtain ⟨gq, gr', hC⟩ := hcut
    have k0 := heap_below hC Hhp0.out
    have k1 := heap_below hC Hhp1.out
    have k2 := heap_below hC Hhp2.out
    have k3 := heap_below hC Hhp3.out
    have hbv := bl_step Hhbw.out hC
    have k5 := heap_below hbv Hx5.out
    have LG0 : 0 ≤ LG ∧ LG ≤ 2000000 := by rw [← HhLG.out]; unfold longS; split <;> omega
    have WD0 : 0 ≤ WD ∧ WD ≤ 2000000 := by rw [← HhWD.out]; unfold wideS; split <;> omega
    have hl1 := fun V (hV : Below wc.heap.size wc V) => Hhlo.out V LG LG0 w.heap.size (w.heap.size + 1) (w.heap.size + 1 + 1) q (heap_below hV k0) (heap_below hV k2) (heap_below hV gq) (heap_below hV k1) (heap_below hV k5)
    have hl2 := fun V (hV : Below wc.heap.size wc V) => Hhhi.out V WD WD0 w.heap.size (w.heap.size + 1) (w.heap.size + 1 + 1) r (heap_below hV k0) (heap_below hV k2) (heap_below hV gr') (heap_below hV k1) (heap_below hV k5)
    simp only [HhX.out] at hl1
    simp only [HhY.out] at hl2
    have hout := uof_any X Y
    have k3c := cells_of k3
    clear LG0 WD0 gq gr' k0 k1 k2 k5
    have Hhl1 := Lib.hid hl1; clear hl1; have Hhl2 := Lib.hid hl2; clear hl2; have Hk3 := Lib.hid k3; clear k3; have Hhbv := Lib.hid hbv; clear hbv; have HhC := Lib.hid hC; clear hC
    go_wp2_with fail
    refine (Hhl1.out _ (Below.refl _ _)).mono ?_
    rintro e w3 ⟨rfl, hb3⟩
    go_wp2_with fail
    refine (Hhl2.out _ hb3).mono ?_
    rintro e w4 ⟨rfl, hb4⟩
    have hb5 := bl_step hb3 hb4
    clear hb3 hb4
    have Hhb5 := Lib.hid hb5; clear hb5
    go_wp2_with fail
    refine (hout _).mono ?_
    rintro e w5 ⟨rfl, hb6⟩
    have z3 := heap_below (bl_step Hhb5.out hb6) Hk3.out
    have hbx := bl_step Hhbv.out (bl_step Hhb5.out hb6)
    have z3c := cells_of z3
    have z3f := frozen_of z3
    have z3l := lt_of_heap z3
    clear hb6 k3c
    have Hz3 := Lib.hid z3; clear z3; have Hhbx := Lib.hid hbx; clear hbx
    go_wp2_with fail
    ((try simp only [Exit.inBlock, Exit.then]); refine bodyPost_ret (v := .agg #[.int .i64 X, .int .i64 Y]) (by simp [results, Try.results92, go_sem, *]) rfl ?_)
    exact ⟨rfl, bl_setCell (bl_setCell Hhbx.out _ _ (by show _ ≤ w.heap.size + 1 + 1 + 1; omega)) _ _ (by show _ ≤ w.heap.size + 1 + 1 + 1; omega)⟩
end Go.Proofs.Ytfbmjecikilghaa
namespace Go.Proofs.Ytfbmjecikilghaa
open Go.RowKit Go.Shelf

/-- A place, and its ground's block. -/
structure PlcM (W H cell : Nat) (sz s0 s1 d0 d1 l0 l1 : Int) (gr : List (Int × Int)) (g : Nat) (gcs : Array Value) (gf : Nat × Nat) : Prop where
  w1 : 1 ≤ W
  w4 : W ≤ 4
  h1 : 1 ≤ H
  h4 : H ≤ 4
  hc : cell < W * H
  sz1 : 1 ≤ sz ∧ sz ≤ 10000
  s0 : -1000000 ≤ s0 ∧ s0 ≤ 1000000
  s1 : -1000000 ≤ s1 ∧ s1 ≤ 1000000
  d0 : 0 ≤ d0 ∧ d0 ≤ 10000
  d1 : 0 ≤ d1 ∧ d1 ≤ 10000
  l0 : 0 ≤ l0 ∧ l0 ≤ 1024
  l1 : 0 ≤ l1 ∧ l1 ≤ 1024
  row : RowAt g (.cells gcs 46 gf) gr
  ok : ∀ u ∈ gr, gok u
  len : gr.length = W * H
abbrev surOf (W H : Nat) (sz s0 s1 d0 d1 l0 l1 : Int) (gr : List (Int × Int)) : SurM := ⟨W, H, sz, grOf gr, (s0, s1), (d0, d1), (l0, l1)⟩

theorem takeWhile_mem {α : Type} {p : α → Bool} : ∀ (l : List α) (x : α), x ∈ l.takeWhile p → p x = true
  | [], x, h => by simp at h
  | y :: l, x, h => by
    rw [List.takeWhile_cons] at h
    split at h
    · rename_i hy
      rcases List.mem_cons.1 h with rfl | h
      · exact hy
      · exact takeWhile_mem l x h
    · simp at h
theorem fetchX_len (sea : Sp) (gr : Nat → Sp) (sure : Bool) (l : List Nat) : (fetchX sea gr sure l).length ≤ l.length := by
  unfold fetchX
  have := (List.takeWhile_prefix (l := l.map (depthX sea gr)) (fun x => overS sure x.2)).length_le
  simpa using this
theorem fetchX_over (sea : Sp) (gr : Nat → Sp) (sure : Bool) (l : List Nat) : ∀ x ∈ fetchX sea gr sure l, 1 ≤ x.2.2 := by
  intro x hx
  have h : overS sure x.2 = true := takeWhile_mem _ x hx
  cases sure with
  | true => exact (over_true.1 h).2
  | false => exact over_false.1 h
theorem rise_eq (W H cell dir : Nat) (sz s0 s1 d0 d1 l0 l1 v0 v1 : Int) (gr : List (Int × Int)) :
    (surOf W H sz s0 s1 d0 d1 l0 l1 gr).rise cell dir (v0, v1) = (totLo d0 v0 (longS sz dir) (fetchX (s0, s1) (grOf gr) true (rayL W H cell dir)), totHi d1 v1 (wideS sz dir) (fetchX (s0, s1) (grOf gr) false (rayL W H cell dir))) := by
  unfold SurM.rise totLo totHi
  rw [fetchX_snd, fetchX_snd]
theorem rise_bd {W H cell dir : Nat} {sz s0 s1 d0 d1 l0 l1 v0 v1 : Int} {gr : List (Int × Int)} (hsz : 1 ≤ sz ∧ sz ≤ 10000) (hd0 : 0 ≤ d0 ∧ d0 ≤ 10000) (hd1 : 0 ≤ d1 ∧ d1 ≤ 10000) (hv0 : 0 ≤ v0 ∧ v0 ≤ 10000) (hv1 : 0 ≤ v1 ∧ v1 ≤ 10000) :
    (0 ≤ ((surOf W H sz s0 s1 d0 d1 l0 l1 gr).rise cell dir (v0, v1)).1 ∧ ((surOf W H sz s0 s1 d0 d1 l0 l1 gr).rise cell dir (v0, v1)).1 ≤ 5000000000) ∧
    (0 ≤ ((surOf W H sz s0 s1 d0 d1 l0 l1 gr).rise cell dir (v0, v1)).2 ∧ ((surOf W H sz s0 s1 d0 d1 l0 l1 gr).rise cell dir (v0, v1)).2 ≤ 5000000000) := by
  rw [rise_eq]
  have hl : (rayL W H cell dir).length ≤ 5 := rayF_len _ _ _
  have h1 := fetchX_len (s0, s1) (grOf gr) true (rayL W H cell dir)
  have h2 := fetchX_len (s0, s1) (grOf gr) false (rayL W H cell dir)
  have LG0 : 0 ≤ longS sz dir ∧ longS sz dir ≤ 2000000 := by unfold longS; split <;> omega
  have WD0 : 0 ≤ wideS sz dir ∧ wideS sz dir ≤ 2000000 := by unfold wideS; split <;> omega
  have a1 := totLo_bd hd0 hv0 LG0 _ (fetchX_over (s0, s1) (grOf gr) true (rayL W H cell dir))
  have a2 := totHi_bd hd1 hv1 WD0 _ (fetchX_over (s0, s1) (grOf gr) false (rayL W H cell dir))
  simp only
  omega
theorem setup_bd {W H cell dir : Nat} {sz s0 s1 d0 d1 l0 l1 v0 v1 : Int} {gr : List (Int × Int)} (hsz : 1 ≤ sz ∧ sz ≤ 10000) (hd0 : 0 ≤ d0 ∧ d0 ≤ 10000) (hd1 : 0 ≤ d1 ∧ d1 ≤ 10000) (hv0 : 0 ≤ v0 ∧ v0 ≤ 10000) (hv1 : 0 ≤ v1 ∧ v1 ≤ 10000) :
    (-5000000000 ≤ ((surOf W H sz s0 s1 d0 d1 l0 l1 gr).setup cell dir (v0, v1)).1 ∧ ((surOf W H sz s0 s1 d0 d1 l0 l1 gr).setup cell dir (v0, v1)).1 ≤ 5000000000) ∧
    (-5000000000 ≤ ((surOf W H sz s0 s1 d0 d1 l0 l1 gr).setup cell dir (v0, v1)).2 ∧ ((surOf W H sz s0 s1 d0 d1 l0 l1 gr).setup cell dir (v0, v1)).2 ≤ 5000000000) := by
  have a := rise_bd (W := W) (H := H) (cell := cell) (dir := (dir + 4) % 8) (s0 := s0) (s1 := s1) (l0 := l0) (l1 := l1) (gr := gr) hsz hd0 hd1 hv0 hv1
  have b := rise_bd (W := W) (H := H) (cell := cell) (dir := dir) (s0 := s0) (s1 := s1) (l0 := l0) (l1 := l1) (gr := gr) hsz hd0 hd1 hv0 hv1
  unfold SurM.setup spMinus
  simp only
  omega
theorem rise_sp {W H cell : Nat} {sz s0 s1 d0 d1 l0 l1 : Int} {gr : List (Int × Int)} {g : Nat} {gcs : Array Value} {gf : Nat × Nat} (P : PlcM W H cell sz s0 s1 d0 d1 l0 l1 gr g gcs gf) (cap dir : Nat) (hd8 : dir < 8) {v0 v1 : Int} (hv0 : 0 ≤ v0 ∧ v0 ≤ 10000) (hv1 : 0 ≤ v1 ∧ v1 ≤ 10000)
    (w : World) (x5 : w.heap[g]? = some (.cells gcs 46 gf)) :
    Calls Try.prog 92 #[.agg (placeV W H sz g gr.length cap s0 s1 d0 d1 l0 l1 cell), .int .i64 dir, .agg #[.int .i64 v0, .int .i64 v1]] w fun e w' =>
      e = .returned (.agg #[.int .i64 ((surOf W H sz s0 s1 d0 d1 l0 l1 gr).rise cell dir (v0, v1)).1, .int .i64 ((surOf W H sz s0 s1 d0 d1 l0 l1 gr).rise cell dir (v0, v1)).2]) ∧ Below w.heap.size w w' := by
  rw [rise_eq]
  exact rise_any W H cell dir sz s0 s1 d0 d1 l0 l1 v0 v1 P.w1 P.w4 P.h1 P.h4 P.hc hd8 gr g cap gcs gf P.row P.ok P.len w P.sz1 P.s0 P.s1 P.d0 P.d1 hv0 hv1 x5

set_option maxHeartbeats 8000000 in
set_option maxRecDepth 100000 in
theorem setup_any {W H cell : Nat} {sz s0 s1 d0 d1 l0 l1 : Int} {gr : List (Int × Int)} {g : Nat} {gcs : Array Value} {gf : Nat × Nat} (P : PlcM W H cell sz s0 s1 d0 d1 l0 l1 gr g gcs gf) (cap dir : Nat) (hd8 : dir < 8) {v0 v1 : Int} (hv0 : 0 ≤ v0 ∧ v0 ≤ 10000) (hv1 : 0 ≤ v1 ∧ v1 ≤ 10000)
    (w : World) (x5 : w.heap[g]? = some (.cells gcs 46 gf)) :
    Calls Try.prog 82 #[.agg (placeV W H sz g gr.length cap s0 s1 d0 d1 l0 l1 cell), .int .i64 dir, .agg #[.int .i64 v0, .int .i64 v1]] w fun e w' =>
      e = .returned (.agg #[.int .i64 ((surOf W H sz s0 s1 d0 d1 l0 l1 gr).setup cell dir (v0, v1)).1, .int .i64 ((surOf W H sz s0 s1 d0 d1 l0 l1 gr).setup cell dir (v0, v1)).2]) ∧ Below w.heap.size w w' := by
  obtain ⟨d4, hd4⟩ : ∃ d4 : Nat, (dir + 4) % 8 = d4 := ⟨_, rfl⟩
  have hr1 := fun V (hV : Below w.heap.size w V) => rise_sp P cap d4 (by omega) hv0 hv1 V (heap_below hV x5)
  have hr2 := fun V (hV : Below w.heap.size w V) => rise_sp P cap dir hd8 hv0 hv1 V (heap_below hV x5)
  have hb1 := rise_bd (W := W) (H := H) (cell := cell) (dir := d4) (s0 := s0) (s1 := s1) (l0 := l0) (l1 := l1) (gr := gr) P.sz1 P.d0 P.d1 hv0 hv1
  have hb2 := rise_bd (W := W) (H := H) (cell := cell) (dir := dir) (s0 := s0) (s1 := s1) (l0 := l0) (l1 := l1) (gr := gr) P.sz1 P.d0 P.d1 hv0 hv1
  simp only [SurM.setup, spMinus]
  rw [hd4]
  obtain ⟨x1, hx1⟩ : ∃ x, (surOf W H sz s0 s1 d0 d1 l0 l1 gr).rise cell d4 (v0, v1) = x := ⟨_, rfl⟩
  obtain ⟨x2, hx2⟩ : ∃ x, (surOf W H sz s0 s1 d0 d1 l0 l1 gr).rise cell dir (v0, v1) = x := ⟨_, rfl⟩
  rw [hx1] at hb1
  rw [hx2] at hb2
  simp only [hx1] at hr1
  simp only [hx2] at hr2
  rw [hx1, hx2]
  obtain ⟨X1, Y1⟩ := x1
  obtain ⟨X2, Y2⟩ := x2
  simp only at hr1 hr2 hb1 hb2 ⊢
  obtain ⟨⟨b1, b2⟩, b3, b4⟩ := hb1
  obtain ⟨⟨b5, b6⟩, b7, b8⟩ := hb2
  have hmin := uminus_any X1 Y1 X2 Y2 (by omega) (by omega) (by omega) (by omega)
  obtain ⟨dI, hdI⟩ : ∃ x : Int, (dir : Int) = x := ⟨_, rfl⟩
  obtain ⟨dJ, hdJ⟩ : ∃ x : Int, (d4 : Int) = x := ⟨_, rfl⟩
  have e4 : (dI + 4) % 8 = dJ := by omega
  have i0 : 0 ≤ dI := by omega
  have i1 : dI < 8 := by omega
  obtain ⟨n, hn⟩ : ∃ n, gr.length = n := ⟨_, rfl⟩
  rw [hn] at hr1 hr2 ⊢
  rw [hdI] at hr2 ⊢
  rw [hdJ] at hr1
  clear hd4 hx1 hx2 hdI hdJ P hn hd8
  have Hhr1 := Lib.hid hr1; clear hr1; have Hhr2 := Lib.hid hr2; clear hr2; have Hx5 := Lib.hid x5; clear x5; have Hhmin := Lib.hid hmin; clear hmin
  go_enter Try.func82, Try.ntmps82
  go_upto_region 1 with fail
  have hp0 : (((w.alloc (.cells (placeV W H sz g n cap s0 s1 d0 d1 l0 l1 cell) 119)).alloc (.cells #[.int .i64 v0, .int .i64 v1] 122)).alloc (.cells #[.int .i64 0, .int .i64 0] 122)).heap[w.heap.size]? = some (.cells #[.int .i64 W, .int .i64 H, .int .i64 sz, .slice (some ⟨g, 0, none⟩) n cap, .int .i64 s0, .int .i64 s1, .int .i64 d0, .int .i64 d1, .int .i64 l0, .int .i64 l1, .int .i64 cell] 119 (0, 0)) := heap_alloc_off (heap_alloc_off (heap_alloc_at _ _) _) _
  have hp1 : (((w.alloc (.cells (placeV W H sz g n cap s0 s1 d0 d1 l0 l1 cell) 119)).alloc (.cells #[.int .i64 v0, .int .i64 v1] 122)).alloc (.cells #[.int .i64 0, .int .i64 0] 122)).heap[w.heap.size + 1]? = some (.cells #[.int .i64 v0, .int .i64 v1] 122 (0, 0)) := heap_alloc_off (heap_alloc_at' _ _ (by simp)) _
  have hp2 : (((w.alloc (.cells (placeV W H sz g n cap s0 s1 d0 d1 l0 l1 cell) 119)).alloc (.cells #[.int .i64 v0, .int .i64 v1] 122)).alloc (.cells #[.int .i64 0, .int .i64 0] 122)).heap[w.heap.size + 1 + 1]? = some (.cells #[.int .i64 0, .int .i64 0] 122 (0, 0)) := heap_alloc_at' _ _ (by simp)
  have hbw : Below w.heap.size w (((w.alloc (.cells (placeV W H sz g n cap s0 s1 d0 d1 l0 l1 cell) 119)).alloc (.cells #[.int .i64 v0, .int .i64 v1] 122)).alloc (.cells #[.int .i64 0, .int .i64 0] 122)) := (by repeat (first | exact Below.refl _ _ | (refine bl_setCell ?_ _ _ ?_; rotate_left; focus (first | omega | (simp; done) | (simp; omega))) | refine bl_alloc ?_ _ | refine bl_step ?_ (by assumption) | refine bl_drew ?_ | refine bl_drewN ?_ _))
  generalize (((w.alloc (.cells (placeV W H sz g n cap s0 s1 d0 d1 l0 l1 cell) 119)).alloc (.cells #[.int .i64 v0, .int .i64 v1] 122)).alloc (.cells #[.int .i64 0, .int .i64 0] 122)) = w1 at hp0 hp1 hp2 hbw ⊢
  have p0c := cells_of hp0
  have p0l := lt_of_heap hp0
  have p1c := cells_of hp1
  have p1l := lt_of_heap hp1
  have hI : Below w1.heap.size w1 w1.drew := (Below.refl _ _).drew
  have Hhp0 := Lib.hid hp0; clear hp0; have Hhp1 := Lib.hid hp1; clear hp1; have Hhp2 := Lib.hid hp2; clear hp2; have Hhbw := Lib.hid hbw; clear hbw
  refine wp_region_ord (fun W => Below w1.heap.size w1 W) [([0, 1, 2, 3, 4, 6, 7, 8], 5), ([], 9), ([], 10)] [] (some 11) (by kernel_rfl) (by kernel_rfl) hI ?_
  refine OrdI_cons ?_
  (apply StI_plain (w0 := w1.drew) hI rfl rfl rfl rfl; (focus (intro W hW K hK; obtain ⟨_, _⟩ := bk w.heap.size hW p0l; obtain ⟨_, _⟩ := bk (w.heap.size + 1) hW p1l; go_step; exact hK)); (focus rfl)); (apply StI_plain (w0 := w1.drew) hI rfl rfl rfl rfl; (focus (intro W hW K hK; obtain ⟨_, _⟩ := bk w.heap.size hW p0l; obtain ⟨_, _⟩ := bk (w.heap.size + 1) hW p1l; go_step; exact hK)); (focus rfl)); (apply StI_plain (w0 := w1.drew) hI rfl rfl rfl rfl; (focus (intro W hW K hK; obtain ⟨_, _⟩ := bk w.heap.size hW p0l; obtain ⟨_, _⟩ := bk (w.heap.size + 1) hW p1l; go_step; exact hK)); (focus rfl)); (apply StI_plain (w0 := w1.drew) hI rfl rfl rfl rfl; (focus (intro W hW K hK; obtain ⟨_, _⟩ := bk w.heap.size hW p0l; obtain ⟨_, _⟩ := bk (w.heap.size + 1) hW p1l; go_step; exact hK)); (focus rfl)); (apply StI_plain (w0 := w1.drew) hI rfl rfl rfl rfl; (focus (intro W hW K hK; obtain ⟨_, _⟩ := bk w.heap.size hW p0l; obtain ⟨_, _⟩ := bk (w.heap.size + 1) hW p1l; go_step; exact hK)); (focus rfl)); (apply StI_plain (w0 := w1.drew) hI rfl rfl rfl rfl; (focus (intro W hW K hK; obtain ⟨_, _⟩ := bk w.heap.size hW p0l; obtain ⟨_, _⟩ := bk (w.heap.size + 1) hW p1l; go_step; exact hK)); (focus rfl)); (apply StI_plain (w0 := w1.drew) hI rfl rfl rfl rfl; (focus (intro W hW K hK; obtain ⟨_, _⟩ := bk w.heap.size hW p0l; obtain ⟨_, _⟩ := bk (w.heap.size + 1) hW p1l; go_step; exact hK)); (focus rfl)); (apply StI_plain (w0 := w1.drew) hI rfl rfl rfl rfl; (focus (intro W hW K hK; obtain ⟨_, _⟩ := bk w.heap.size hW p0l; obtain ⟨_, _⟩ := bk (w.heap.size + 1) hW p1l; go_step; exact hK)); (focus rfl))
  (apply StI_eff rfl; go_wp2_with (first | (go_at_call 92; refine (Hhr1.out _ (bl_step Hhbw.out hI)).mono ?_; rintro e w2 ⟨rfl, hb2⟩)))
  have hI2 : Below w1.heap.size w1 w2 := below_mid hI (Nat.le_refl _) hb2
  refine onNormal_mk hI2 (OrdI_cons ?_)
  (apply StI_eff rfl; go_wp2_with (first | (go_at_call 92; refine (Hhr2.out _ (bl_step Hhbw.out hI2)).mono ?_; rintro e w3 ⟨rfl, hb3⟩)))
  have hI3 : Below w1.heap.size w1 w3 := below_mid hI2 (Nat.le_refl _) hb3
  refine onNormal_mk hI3 (OrdI_cons ?_)
  (apply StI_eff rfl; go_wp2_with (first | (go_at_call 93; refine (Hhmin.out _).mono ?_; rintro e w4 ⟨rfl, hb4⟩)))
  have hI4 : Below w1.heap.size w1 w4 := below_mid hI3 (Nat.le_refl _) hb4
  refine onNormal_mk hI4 (OrdI_snk (StI_nil ?_))
  have z2 := heap_below hI4 Hhp2.out
  have hbv := bl_step Hhbw.out hI4
  have z2c := cells_of z2
  have z2f := frozen_of z2
  have z2l := lt_of_heap z2
  clear hI hI2 hI3 hI4 hb2 hb3 hb4 p0c p0l p1c p1l Hhp0 Hhp1 Hhp2 Hhbw Hhr1 Hhr2 Hhmin
  have Hz2 := Lib.hid z2; clear z2; have Hhbv := Lib.hid hbv; clear hbv
  apply wpOp_eff rfl
  go_wp2_with fail
  refine onNormal_last ?_
  go_wp2_with fail
  ((try simp only [Exit.inBlock, Exit.then]); refine bodyPost_ret (v := .agg #[.int .i64 (X1 - Y2), .int .i64 (Y1 - X2)]) (by simp [results, Try.results82, go_sem, *]) rfl ?_)
  exact ⟨rfl, bl_setCell (bl_setCell Hhbv.out _ _ (by show _ ≤ w.heap.size + 1 + 1; omega)) _ _ (by show _ ≤ w.heap.size + 1 + 1; omega)⟩
end Go.Proofs.Ytfbmjecikilghaa
namespace Go.Proofs.Ytfbmjecikilghaa
open Go.RowKit Go.Shelf

theorem dirs_ne {n : Int} (h0 : 1 ≤ n) (h1 : n ≤ 255) : dirsL n ≠ [] := by
  intro h
  unfold dirsL at h
  rw [List.filter_eq_nil_iff] at h
  have g := fun d (hd : d < 8) => h d (List.mem_range.2 hd)
  have g0 := g 0 (by omega)
  have g1 := g 1 (by omega)
  have g2 := g 2 (by omega)
  have g3 := g 3 (by omega)
  have g4 := g 4 (by omega)
  have g5 := g 5 (by omega)
  have g6 := g 6 (by omega)
  have g7 := g 7 (by omega)
  simp at g0 g1 g2 g3 g4 g5 g6 g7
  omega
/-- The directions up to one. -/
def dirsT (n : Int) (k : Nat) : List Nat := (List.range k).filter fun d => n / 2 ^ d % 2 == 1
theorem dirsT_all (n : Int) : dirsT n 8 = dirsL n := rfl
theorem dirsT_yes {n : Int} {k : Nat} (h : n / 2 ^ k % 2 = 1) : dirsT n (k + 1) = dirsT n k ++ [k] := by
  unfold dirsT
  rw [List.range_succ, List.filter_append]
  simp [h]
theorem dirsT_no {n : Int} {k : Nat} (h : ¬ n / 2 ^ k % 2 = 1) : dirsT n (k + 1) = dirsT n k := by
  unfold dirsT
  rw [List.range_succ, List.filter_append]
  simp [h]
theorem dirsT_len (n : Int) (k : Nat) : (dirsT n k).length ≤ k := by
  unfold dirsT
  have := List.length_filter_le (fun d => n / 2 ^ d % 2 == 1) (List.range k)
  simpa using this

def SteadyI (w : World) (pc wc : Array Value) (n : Int) (f : Nat → Sp) (lv i : Value) (wr : World) : Prop :=
  ∃ (k : Nat) (v : Value), k ≤ 8 ∧ v = lv ∧ i = .int .i64 k ∧ wr.heap[w.heap.size]? = some (.cells pc 119 (0, 0)) ∧ wr.heap[w.heap.size + 1]? = some (.cells wc 67 (0, 0)) ∧ wr.heap[w.heap.size + 2]? = some (.cells #[.int .i64 0, .int .i64 0] 122 (0, 0)) ∧
    wr.ownsRow (w.heap.size + 3) 122 2 v (dirsT n k).length (wcells ((dirsT n k).map f)) ∧ Below w.heap.size w wr ∧ w.heap.size + 3 ≤ wr.heap.size
theorem sl_spansE {w : World} {base : Nat} {e : TypeId} {v : Value} {ws : List (Int × Int)} (h : w.ownsRow base e 2 v ws.length (wcells ws)) (hn : ws.length ≤ 1000) : ∃ a cap, v = .slice a ws.length cap ∧ Sl SpanE 2 w.heap.size w a ws := by
  by_cases h0 : ws.length = 0
  · obtain ⟨a, cap, hv⟩ := row_len h
    exact ⟨a, cap, hv, by omega, fun k hk => by omega⟩
  · obtain ⟨g, cap, hv, hb, hg⟩ := row_form' h (by omega)
    subst hv
    refine ⟨_, cap, rfl, by omega, fun k hk => ⟨g, 0, rfl, hg, ?_, ?_⟩⟩
    · have := (h.cellAt (k * 2) (by omega)).trans (wcells_get ws k hk).1
      simpa using this
    · have := (h.cellAt (k * 2 + 1) (by omega)).trans (wcells_get ws k hk).2
      simpa using this
/-- The elements behind the first one. -/
theorem Sl.tail {B : Nat} {w : World} {g : Nat} {x : Int × Int} {l : List (Int × Int)} (h : Sl SpanE 2 B w (some ⟨g, 0, none⟩) (x :: l)) : Sl SpanE 2 B w (some ⟨g, 2, none⟩) l :=
  ⟨by have := h.1; simp at this; omega, fun k hk => by
    obtain ⟨b, off, ha, hb, he⟩ := h.2 (k + 1) (by simpa using hk)
    simp only [Option.some.injEq, Addr.mk.injEq, and_true] at ha
    obtain ⟨rfl, rfl⟩ := ha
    refine ⟨g, 2, rfl, hb, ?_⟩
    have e : 0 + (k + 1) * 2 = 2 + k * 2 := by omega
    rw [e] at he
    simpa using he⟩
theorem hull_bd {b : Int} : ∀ (l : List Sp) (p : Sp), (-b ≤ p.1 ∧ p.1 ≤ b) ∧ (-b ≤ p.2 ∧ p.2 ≤ b) → (∀ q ∈ l, (-b ≤ q.1 ∧ q.1 ≤ b) ∧ (-b ≤ q.2 ∧ q.2 ≤ b)) → (-b ≤ (hullS p l).1 ∧ (hullS p l).1 ≤ b) ∧ (-b ≤ (hullS p l).2 ∧ (hullS p l).2 ≤ b)
  | [], p, h, _ => h
  | q :: l, p, h, hl => by
    have h1 := hl q (by simp)
    refine hull_bd l (min p.1 q.1, max p.2 q.2) ?_ fun r hr => hl r (by simp [hr])
    simp only
    omega
theorem low_bd {p : Int} (h0 : -20000 ≤ p) (h1 : p ≤ 20000) : (-60000 ≤ 2560 * p / 981 ∧ 2560 * p / 981 ≤ 60000) ∧ (-60000 ≤ sceil (2560 * p) 981 ∧ sceil (2560 * p) 981 ≤ 60000) := by
  unfold sceil
  omega
theorem info122 : (Try.prog.info? 122).map (fun i => (i.zero, i.size, i.bytes)) = some (some (.agg #[.int .i64 0, .int .i64 0]), 2, 16) := by kernel_rfl

set_option maxHeartbeats 8000000 in
set_option maxRecDepth 100000 in
theorem steady_any {W H cell : Nat} {sz s0 s1 d0 d1 l0 l1 : Int} {gr : List (Int × Int)} {g : Nat} {gcs : Array Value} {gf : Nat × Nat} (P : PlcM W H cell sz s0 s1 d0 d1 l0 l1 gr g gcs gf) (cap : Nat) {v0 v1 n p0 p1 : Int} (hv0 : 0 ≤ v0 ∧ v0 ≤ 10000) (hv1 : 0 ≤ v1 ∧ v1 ≤ 10000) (hn0 : 1 ≤ n) (hn1 : n ≤ 255) (hp0 : -20000 ≤ p0 ∧ p0 ≤ 20000) (hp1 : -20000 ≤ p1 ∧ p1 ≤ 20000)
    (w : World) (x5 : w.heap[g]? = some (.cells gcs 46 gf)) :
    Calls Try.prog 56 #[.agg (placeV W H sz g gr.length cap s0 s1 d0 d1 l0 l1 cell), .agg #[.int .i64 v0, .int .i64 v1, .int .i64 n, .int .i64 p0, .int .i64 p1]] w fun e w' =>
      e = .returned (.agg #[.int .i64 ((surOf W H sz s0 s1 d0 d1 l0 l1 gr).steady cell ⟨(v0, v1), n, (p0, p1)⟩).1, .int .i64 ((surOf W H sz s0 s1 d0 d1 l0 l1 gr).steady cell ⟨(v0, v1), n, (p0, p1)⟩).2]) ∧ Below w.heap.size w w' := by
  obtain ⟨f, hf⟩ : ∃ f, (fun d => (surOf W H sz s0 s1 d0 d1 l0 l1 gr).setup cell d (v0, v1)) = f := ⟨_, rfl⟩
  have hf' : ∀ d, (surOf W H sz s0 s1 d0 d1 l0 l1 gr).setup cell d (v0, v1) = f d := fun d => congrFun hf d
  have hset : ∀ (d : Nat) (hd : d < 8) V (hV : Below w.heap.size w V), Calls Try.prog 82 #[.agg (placeV W H sz g gr.length cap s0 s1 d0 d1 l0 l1 cell), .int .i64 d, .agg #[.int .i64 v0, .int .i64 v1]] V fun e w' => e = .returned (.agg #[.int .i64 (f d).1, .int .i64 (f d).2]) ∧ Below V.heap.size V w' := fun d hd V hV => by
    have := setup_any P cap d hd hv0 hv1 V (heap_below hV x5)
    rw [hf'] at this
    exact this
  have hbd : ∀ d, (-5000000000 ≤ (f d).1 ∧ (f d).1 ≤ 5000000000) ∧ (-5000000000 ≤ (f d).2 ∧ (f d).2 ≤ 5000000000) := fun d => by
    have := setup_bd (W := W) (H := H) (cell := cell) (dir := d) (s0 := s0) (s1 := s1) (l0 := l0) (l1 := l1) (gr := gr) P.sz1 P.d0 P.d1 hv0 hv1
    rw [hf'] at this
    exact this
  have hst : (surOf W H sz s0 s1 d0 d1 l0 l1 gr).steady cell ⟨(v0, v1), n, (p0, p1)⟩ = match dirsL n with | [] => (0, 0) | d :: l => ((hullS (f d) (l.map f)).1 + (lowS (p0, p1)).1, (hullS (f d) (l.map f)).2 + (lowS (p0, p1)).2) := by
    unfold SurM.steady
    simp only [hf']
    cases dirsL n with
    | nil => rfl
    | cons d l => rfl
  rw [hst]
  obtain ⟨nn, hnn⟩ : ∃ n, gr.length = n := ⟨_, rfl⟩
  rw [hnn] at hset ⊢
  clear hst hf' hnn P hf
  have hn := dirs_ne hn0 hn1
  obtain ⟨dd, ld, hdl⟩ : ∃ d l, dirsL n = d :: l := by
    cases h : dirsL n with
    | nil => exact absurd h hn
    | cons d l => exact ⟨d, l, rfl⟩
  rw [hdl]
  obtain ⟨R1, hR1⟩ : ∃ x, (hullS (f dd) (ld.map f)).1 + (lowS (p0, p1)).1 = x := ⟨_, rfl⟩
  obtain ⟨R2, hR2⟩ : ∃ x, (hullS (f dd) (ld.map f)).2 + (lowS (p0, p1)).2 = x := ⟨_, rfl⟩
  simp only [hR1, hR2]
  obtain ⟨v00, v01⟩ := hv0
  obtain ⟨v10, v11⟩ := hv1
  obtain ⟨p00, p01⟩ := hp0
  obtain ⟨p10, p11⟩ := hp1
  clear hn
  have Hhset := Lib.hid hset; clear hset; have Hhbd := Lib.hid hbd; clear hbd; have Hx5 := Lib.hid x5; clear x5; have Hhdl := Lib.hid hdl; clear hdl; have HhR1 := Lib.hid hR1; clear hR1; have HhR2 := Lib.hid hR2; clear hR2
  go_enter Try.func56, Try.ntmps56
  go_wp2_with fail
  go_loopw [5, 8] (fun v i wr => SteadyI w #[.int .i64 W, .int .i64 H, .int .i64 sz, .slice (some ⟨g, 0, none⟩) nn cap, .int .i64 s0, .int .i64 s1, .int .i64 d0, .int .i64 d1, .int .i64 l0, .int .i64 l1, .int .i64 cell] #[.int .i64 v0, .int .i64 v1, .int .i64 n, .int .i64 p0, .int .i64 p1] n f v i wr) (fun _ i _ => 8 - (intOf i).toNat)
  case atStart => exact ⟨0, _, by omega, rfl, rfl, heap_alloc_off (heap_alloc_off (heap_alloc_at _ _) _) _, heap_alloc_off (heap_alloc_at' _ _ (by simp)) _, heap_alloc_at' _ _ (by simp), World.ownsRow_nil _ _ _ _, (by repeat (first | exact Below.refl _ _ | (refine bl_setCell ?_ _ _ ?_; rotate_left; focus (first | omega | (simp; done) | (simp; omega))) | refine bl_alloc ?_ _ | refine bl_step ?_ (by assumption) | refine bl_drew ?_ | refine bl_drewN ?_ _)), by simp⟩
  case round =>
    obtain ⟨k, v, hk, rfl, rfl, x0, x1, x2, hrow, hb, hsz⟩ := hrel
    have x0c := cells_of x0
    have x0l := lt_of_heap x0
    have x1c := cells_of x1
    have x1l := lt_of_heap x1
    by_cases hlt : k < 8
    · have hmax : (dirsT n k).length + 1 ≤ maxLen := by have := dirsT_len n k; unfold maxLen; omega
      have hdl8 := dirsT_len n k
      obtain ⟨bt, hbt⟩ : ∃ x, (bits .and .i64 (n / 2 ^ k) 1 == 1) = x := ⟨_, rfl⟩
      cases bt with
      | true =>
        as_aux_lemma =>
        have hyes : n / 2 ^ k % 2 = 1 := by rw [and1] at hbt; simpa using hbt
        have hsn := dirsT_yes hyes
        obtain ⟨⟨a1, a2⟩, ha⟩ : ∃ a, f k = a := ⟨_, rfl⟩
        have hse := Hhset.out k hlt wr hb
        rw [ha] at hse
        simp only at hse
        clear hyes
        have Hx0 := Lib.hid x0; clear x0; have Hx1 := Lib.hid x1; clear x1; have Hx2 := Lib.hid x2; clear x2; have Hhb := Lib.hid hb; clear hb; have Hhsn := Lib.hid hsn; clear hsn; have Hha := Lib.hid ha; clear ha; have Hhrow := Lib.hid hrow; clear hrow
        go_wp2_with fail
        refine hse.mono ?_
        rintro e w1 ⟨rfl, hb1⟩
        have y0 := heap_below hb1 Hx0.out
        have y1 := heap_below hb1 Hx1.out
        have y2 := heap_below hb1 Hx2.out
        have hrow1 := Hhrow.out.kept (below_grown hb1) (by cases v.ownBlock <;> simp)
        have hbw := bl_step Hhb.out hb1
        have hsz1 : w.heap.size + 3 ≤ w1.heap.size := by have := hb1.size; omega
        obtain ⟨i0, hinf, hz0, hz1, hz2⟩ := info_parts info122
        have hlt0 := fun g (hg : v.ownBlock = some g) => (hrow1.lt g hg).1
        have hnews := news2 w1 (.int .i64 a1) (.int .i64 a2) 122
        have nv : ∀ b, b < w.heap.size + 3 → some b ≠ v.ownBlock := fun b hb h => by have := hlt0 b h.symm; omega
        clear x0c x0l x1c x1l Hx0 Hx1 Hx2 Hhb Hhrow hb1 hse
        have Hy0 := Lib.hid y0; clear y0; have Hy1 := Lib.hid y1; clear y1; have Hy2 := Lib.hid y2; clear y2; have Hhbw := Lib.hid hbw; clear hbw; have Hnv := Lib.hid nv; clear nv
        go_wp2_with (at_builtin; refine wpList_append_own _ rfl _ _ 153 rfl (w.heap.size + 3) 122 i0 (.agg #[.int .i64 0, .int .i64 0]) 2 16 Try.underlying153 hinf hz0 hz1 hz2 rfl (by decide) _ _ _ rfl (hrow1.alloc _) ⟨w1.heap.size, 0, none⟩ 1 1 [.int .i64 a1, .int .i64 a2] rfl rfl hnews (by simp [Value.oneCell']) (by omega) (by omega) (by simp; omega) ?_; intro v' w4 hown' hgrow _; obtain ⟨g', cap', rfl⟩ := ownsRow_succ hown'; replace hgrow : (w1.alloc (.cells #[.int .i64 a1, .int .i64 a2] 122)).grownBy w4 v.ownBlock := hgrow; have k0 := (hgrow.block w.heap.size (by simp; omega) (Hnv.out _ (by omega))).trans (heap_alloc_off Hy0.out _); have k1 := (hgrow.block (w.heap.size + 1) (by simp; omega) (Hnv.out _ (by omega))).trans (heap_alloc_off Hy1.out _); have k2 := (hgrow.block (w.heap.size + 2) (by simp; omega) (Hnv.out _ (by omega))).trans (heap_alloc_off Hy2.out _); have hb4 : Below w.heap.size w w4 := (bl_alloc Hhbw.out _).grown hgrow (by simp; omega) (fun k hk => by have := hlt0 k hk; omega); have hs4 : w.heap.size + 3 ≤ w4.heap.size := (by have := hgrow.size; simp at this; omega); clear hnews; have Hk0 := Lib.hid k0; clear k0; have Hk1 := Lib.hid k1; clear k1; have Hk2 := Lib.hid k2; clear k2; have Hhb4 := Lib.hid hb4; clear hb4; have Hown := Lib.hid hown'; clear hown' hgrow)
        refine ⟨⟨k + 1, _, by omega, rfl, by go_num, Hk0.out, Hk1.out, Hk2.out, ?_, Hhb4.out, hs4⟩, by simp [intOf]; omega⟩
        rw [Hhsn.out, List.map_append, List.length_append]
        simp only [List.map_cons, List.map_nil, List.length_cons, List.length_nil, Nat.zero_add]
        rw [Hha.out, wcells_snoc]
        exact Hown.out
      | false =>
        have hno : ¬ n / 2 ^ k % 2 = 1 := by rw [and1] at hbt; simpa using hbt
        have hsn := dirsT_no hno
        clear hno
        have Hx0 := Lib.hid x0; clear x0; have Hx1 := Lib.hid x1; clear x1; have Hx2 := Lib.hid x2; clear x2; have Hhb := Lib.hid hb; clear hb; have Hhsn := Lib.hid hsn; clear hsn; have Hhrow := Lib.hid hrow; clear hrow
        go_wp2_with fail
        refine ⟨⟨k + 1, _, by omega, rfl, by go_num, Hx0.out, Hx1.out, Hx2.out, ?_, Hhb.out, hsz⟩, by simp [intOf]; omega⟩
        rw [Hhsn.out]
        exact Hhrow.out
    · obtain rfl : k = 8 := by omega
      have hl8 := dirsT_len n 8
      rw [dirsT_all, Hhdl.out] at hrow hl8
      have hl9 : ld.length ≤ 7 := by simpa using hl8
      obtain ⟨g', cv, rfl⟩ := ownsRow_succ hrow
      have hrow' : wr.ownsRow (w.heap.size + 3) 122 2 (.slice (some ⟨g', 0, none⟩) (ld.length + 1) cv) (List.map f (dd :: ld)).length (wcells (List.map f (dd :: ld))) := by simpa using hrow
      obtain ⟨av, cv', hv, hSl⟩ := sl_spansE hrow' (by simp; omega)
      simp only [Value.slice.injEq] at hv
      obtain ⟨rfl, _, rfl⟩ := hv
      obtain ⟨b', off', ha', hbb, e0, e1⟩ := hSl.2 0 (by simp)
      simp only [Option.some.injEq, Addr.mk.injEq, and_true] at ha'
      obtain ⟨rfl, rfl⟩ := ha'
      have hcv : ld.length + 1 ≤ cv := by
        rcases hrow.2 with ⟨h1, _⟩ | ⟨q, cap', cur, h1, _, _, h2, _⟩
        · cases h1
        · cases h1; exact h2
      have hT : Sl SpanE 2 wr.heap.size wr (if cv = 1 then some ⟨g', 0, none⟩ else some ⟨g', 2, none⟩) (ld.map f) := by
        have := Sl.tail (x := f dd) hSl
        by_cases hc1 : cv = 1
        · exact ⟨this.1, fun k hk => by rw [List.length_map] at hk; omega⟩
        · rw [if_neg hc1]; exact this
      have hgl := (hrow.lt g' rfl).2
      obtain ⟨sa, hsa⟩ : ∃ a, (if cv = 1 then some (⟨g', 0, none⟩ : Addr) else some ⟨g', 2, none⟩) = a := ⟨_, rfl⟩
      rw [hsa] at hT
      simp only [List.map_cons, List.getElem_cons_zero, Nat.zero_mul, Nat.add_zero, Nat.zero_add] at e0 e1
      obtain ⟨⟨fa, fb⟩, hfa⟩ : ∃ a, f dd = a := ⟨_, rfl⟩
      rw [hfa] at e0 e1
      simp only at e0 e1
      clear hrow hrow' hSl hl8
      obtain ⟨ln, hln⟩ : ∃ x, ld.length + 1 = x := ⟨_, rfl⟩
      have hle : ld.length = ln - 1 := by omega
      have ln1 : 1 ≤ ln := by omega
      have ln3 : 0 < ln := by omega
      have ln4 : (1 : Int) ≤ (ln : Int) := by omega
      have ln2 : ln ≤ 8 := by omega
      rw [hln]
      clear hln hl9
      have Hx0 := Lib.hid x0; clear x0; have Hx1 := Lib.hid x1; clear x1; have Hx2 := Lib.hid x2; clear x2; have Hhb := Lib.hid hb; clear hb; have HhT := Lib.hid hT; clear hT; have Hhfa := Lib.hid hfa; clear hfa; have Hhle := Lib.hid hle; clear hle
      go_upto_region 8 with fail
      obtain ⟨h1, hh1⟩ : ∃ x, (hullS (fa, fb) (ld.map f)).1 = x := ⟨_, rfl⟩
      obtain ⟨h2, hh2⟩ : ∃ x, (hullS (fa, fb) (ld.map f)).2 = x := ⟨_, rfl⟩
      have hall := fun V (hV : Below wr.heap.size wr V) c => uall_any wr.heap.size (fa, fb) (ld.map f) sa c V (HhT.out.below (ek_span _) hV) (by have := hV.size; omega) h1 h2 hh1 hh2
      rw [List.length_map, Hhle.out] at hall
      simp only at hall
      have Hhh1 := Lib.hid hh1; clear hh1; have Hhh2 := Lib.hid hh2; clear hh2; have Hhall := Lib.hid hall; clear hall
      go_cut [7] from 7 to 32 (fun v wx => ∃ q, v = .pointer (some ⟨q, 0, none⟩) ∧ wr.heap.size ≤ q ∧ wx.heap[q]? = some (.cells #[.int .i64 h1, .int .i64 h2] 122 (0, 0)) ∧ Below wr.heap.size wr wx)
      case first =>
        have hI : Below wr.heap.size wr wr.drew := (Below.refl _ _).drew
        refine wp_region_ordT (fun W => Below wr.heap.size wr W) (.two [0, 1, 2, 3, 4] 5 (.one [] 6 (.fin [] (some 7))) 6 (.one [] 5 (.fin [] (some 7)))) (by kernel_rfl) (by kernel_rfl) hI ?_
        refine otTwo ?_
        (apply StI_plain (w0 := wr.drew) hI rfl rfl rfl rfl; (focus (intro W hW K hK; obtain ⟨_, _⟩ := bk g' hW hgl; go_step; exact hK)); (focus rfl)); (apply StI_plain (w0 := wr.drew) hI rfl rfl rfl rfl; (focus (intro W hW K hK; obtain ⟨_, _⟩ := bk g' hW hgl; go_step; exact hK)); (focus rfl)); (apply StI_plain (w0 := wr.drew) hI rfl rfl rfl rfl; (focus (intro W hW K hK; obtain ⟨_, _⟩ := bk g' hW hgl; go_step; exact hK)); (focus rfl)); (apply StI_plain (w0 := wr.drew) hI rfl rfl rfl rfl; (focus (intro W hW K hK; obtain ⟨_, _⟩ := bk g' hW hgl; go_step; exact hK)); (focus rfl)); (apply StI_plain (w0 := wr.drew) hI rfl rfl rfl rfl; (focus (intro W hW K hK; obtain ⟨_, _⟩ := bk g' hW hgl; go_step; exact hK)); (focus rfl))
        refine StI_nil ⟨?_, ?_⟩
        · (apply wpOp_eff rfl; go_wp2_with (first | (go_at_call 83; refine (Hhall.out _ hI _).mono ?_; rintro e w1 ⟨rfl, hb1⟩)))
          have hI1 : Below wr.heap.size wr w1 := below_mid hI (Nat.le_refl _) hb1
          refine otN hI1 (otOne (StI_nil ?_))
          (apply wpOp_eff rfl; go_wp2_with (first | fail))
          have hI2 : Below wr.heap.size wr (w1.alloc (.cells #[.int .i64 0, .int .i64 0] 122)) := hI1.alloc hI1.size _
          have xq := heap_alloc_at w1 (.cells #[.int .i64 0, .int .i64 0] 122)
          have hge := hI1.size
          obtain ⟨q, hq⟩ : ∃ q, w1.heap.size = q := ⟨_, rfl⟩
          rw [hq] at xq hge ⊢
          generalize w1.alloc (.cells #[.int .i64 0, .int .i64 0] 122) = w2 at hI2 xq ⊢
          refine otN hI2 (otSnkI ?_)
          have xqc := cells_of xq
          have xqf := frozen_of xq
          have xql := lt_of_heap xq
          clear hI hI1 hb1
          have Hxq := Lib.hid xq; clear xq; have HhI2 := Lib.hid hI2; clear hI2
          (apply StI_eff rfl; go_wp2_with (first | fail))
          refine onNormal_last ?_
          go_wp2_with fail
          go_meet
          exact ⟨q, rfl, hge, (heap_setCell_at ((heap_setCell_at Hxq.out _).trans rfl) _).trans rfl, (HhI2.out.setCell (p := ⟨q, 0, none⟩) hge _).setCell (p := ⟨q, 1, none⟩) hge _⟩
        · (apply wpOp_eff rfl; go_wp2_with (first | fail))
          have hI2 : Below wr.heap.size wr (wr.alloc (.cells #[.int .i64 0, .int .i64 0] 122)).drew := ((Below.refl _ _).alloc (Nat.le_refl _) _).drew
          have xq := heap_drew' (heap_alloc_at wr (.cells #[.int .i64 0, .int .i64 0] 122))
          generalize (wr.alloc (.cells #[.int .i64 0, .int .i64 0] 122)).drew = w2 at hI2 xq ⊢
          refine otN hI2 (otOne (StI_nil ?_))
          (apply wpOp_eff rfl; go_wp2_with (first | (go_at_call 83; refine (Hhall.out _ hI2 _).mono ?_; rintro e w1 ⟨rfl, hb1⟩)))
          have hI1 : Below wr.heap.size wr w1 := below_mid hI2 (Nat.le_refl _) hb1
          have yq := heap_below hb1 xq
          refine otN hI1 (otSnkI ?_)
          have xqc := cells_of yq
          have xqf := frozen_of yq
          have xql := lt_of_heap yq
          clear hI hI2 hb1 xq
          have Hyq := Lib.hid yq; clear yq; have HhI1 := Lib.hid hI1; clear hI1
          (apply StI_eff rfl; go_wp2_with (first | fail))
          refine onNormal_last ?_
          go_wp2_with fail
          go_meet
          exact ⟨_, rfl, Nat.le_refl _, (heap_setCell_at ((heap_setCell_at Hyq.out _).trans rfl) _).trans rfl, (HhI1.out.setCell (p := ⟨wr.heap.size, 0, none⟩) (Nat.le_refl _) _).setCell (p := ⟨wr.heap.size, 1, none⟩) (Nat.le_refl _) _⟩
      case rest =>
        obtain ⟨q, rfl, hqg, hqx, hbq⟩ := hcut
        have y0 := heap_below hbq Hx0.out
        have y1 := heap_below hbq Hx1.out
        have y2 := heap_below hbq Hx2.out
        have hbw := bl_step Hhb.out hbq
        have hHB := hull_bd (b := 5000000000) (ld.map f) (fa, fb) (by have := Hhbd.out dd; rw [Hhfa.out] at this; simpa using this) (fun q hq => by obtain ⟨e, _, rfl⟩ := List.mem_map.1 hq; have := Hhbd.out e; omega)
        rw [Hhh1.out, Hhh2.out] at hHB
        obtain ⟨⟨H1, H2⟩, H3, H4⟩ := hHB
        have hL1 := (low_bd p00 p01).1
        have hL2 := (low_bd p10 p11).2
        have hfl := ufloor_any (2560 * p0) 981 (by omega) (by omega) (by omega) (by omega)
        have hce := uceil_any (2560 * p1) 981 (by omega) (by omega) (by omega) (by omega)
        have hr1 := HhR1.out
        have hr2 := HhR2.out
        rw [Hhfa.out, Hhh1.out] at hr1
        rw [Hhfa.out, Hhh2.out] at hr2
        simp only [lowS] at hr1 hr2
        obtain ⟨F1, hF1⟩ : ∃ x, 2560 * p0 / 981 = x := ⟨_, rfl⟩
        obtain ⟨C1, hC1⟩ : ∃ x, sceil (2560 * p1) 981 = x := ⟨_, rfl⟩
        rw [hF1] at hfl hL1 hr1
        rw [hC1] at hce hL2 hr2
        obtain ⟨hL10, hL11⟩ := hL1
        obtain ⟨hL20, hL21⟩ := hL2
        have y1c := cells_of y1
        have y1l := lt_of_heap y1
        have qc := cells_of hqx
        have ql := lt_of_heap hqx
        have hI : Below wc.heap.size wc wc.drew := (Below.refl _ _).drew
        clear x0c x0l x1c x1l Hx0 Hx1 Hx2 Hhb HhT Hhall e0 e1 hsa hF1 hC1 y0 hbq
        have Hy1 := Lib.hid y1; clear y1; have Hy2 := Lib.hid y2; clear y2; have Hhbw := Lib.hid hbw; clear hbw; have Hhqx := Lib.hid hqx; clear hqx; have Hhfl := Lib.hid hfl; clear hfl; have Hhce := Lib.hid hce; clear hce
        go_upto_region 9 with fail
        refine wp_region_ord (fun W => Below wc.heap.size wc W) [([0, 1, 2, 3, 4, 5, 6, 9, 10, 11, 12, 13, 14, 15], 7), ([8], 16), ([17], 18)] [] (some 19) (by kernel_rfl) (by kernel_rfl) hI ?_
        refine OrdI_cons ?_
        (apply StI_plain (w0 := wc.drew) hI rfl rfl rfl rfl; (focus (intro W hW K hK; obtain ⟨_, _⟩ := bk (w.heap.size + 1) hW y1l; obtain ⟨_, _⟩ := bk q hW ql; go_step; exact hK)); (focus rfl)); (apply StI_plain (w0 := wc.drew) hI rfl rfl rfl rfl; (focus (intro W hW K hK; obtain ⟨_, _⟩ := bk (w.heap.size + 1) hW y1l; obtain ⟨_, _⟩ := bk q hW ql; go_step; exact hK)); (focus rfl)); (apply StI_plain (w0 := wc.drew) hI rfl rfl rfl rfl; (focus (intro W hW K hK; obtain ⟨_, _⟩ := bk (w.heap.size + 1) hW y1l; obtain ⟨_, _⟩ := bk q hW ql; go_step; exact hK)); (focus rfl)); (apply StI_plain (w0 := wc.drew) hI rfl rfl rfl rfl; (focus (intro W hW K hK; obtain ⟨_, _⟩ := bk (w.heap.size + 1) hW y1l; obtain ⟨_, _⟩ := bk q hW ql; go_step; exact hK)); (focus rfl)); (apply StI_plain (w0 := wc.drew) hI rfl rfl rfl rfl; (focus (intro W hW K hK; obtain ⟨_, _⟩ := bk (w.heap.size + 1) hW y1l; obtain ⟨_, _⟩ := bk q hW ql; go_step; exact hK)); (focus rfl)); (apply StI_plain (w0 := wc.drew) hI rfl rfl rfl rfl; (focus (intro W hW K hK; obtain ⟨_, _⟩ := bk (w.heap.size + 1) hW y1l; obtain ⟨_, _⟩ := bk q hW ql; go_step; exact hK)); (focus rfl)); (apply StI_plain (w0 := wc.drew) hI rfl rfl rfl rfl; (focus (intro W hW K hK; obtain ⟨_, _⟩ := bk (w.heap.size + 1) hW y1l; obtain ⟨_, _⟩ := bk q hW ql; go_step; exact hK)); (focus rfl)); (apply StI_plain (w0 := wc.drew) hI rfl rfl rfl rfl; (focus (intro W hW K hK; obtain ⟨_, _⟩ := bk (w.heap.size + 1) hW y1l; obtain ⟨_, _⟩ := bk q hW ql; go_step; exact hK)); (focus rfl)); (apply StI_plain (w0 := wc.drew) hI rfl rfl rfl rfl; (focus (intro W hW K hK; obtain ⟨_, _⟩ := bk (w.heap.size + 1) hW y1l; obtain ⟨_, _⟩ := bk q hW ql; go_step; exact hK)); (focus rfl)); (apply StI_plain (w0 := wc.drew) hI rfl rfl rfl rfl; (focus (intro W hW K hK; obtain ⟨_, _⟩ := bk (w.heap.size + 1) hW y1l; obtain ⟨_, _⟩ := bk q hW ql; go_step; exact hK)); (focus rfl)); (apply StI_plain (w0 := wc.drew) hI rfl rfl rfl rfl; (focus (intro W hW K hK; obtain ⟨_, _⟩ := bk (w.heap.size + 1) hW y1l; obtain ⟨_, _⟩ := bk q hW ql; go_step; exact hK)); (focus rfl)); (apply StI_plain (w0 := wc.drew) hI rfl rfl rfl rfl; (focus (intro W hW K hK; obtain ⟨_, _⟩ := bk (w.heap.size + 1) hW y1l; obtain ⟨_, _⟩ := bk q hW ql; go_step; exact hK)); (focus rfl)); (apply StI_plain (w0 := wc.drew) hI rfl rfl rfl rfl; (focus (intro W hW K hK; obtain ⟨_, _⟩ := bk (w.heap.size + 1) hW y1l; obtain ⟨_, _⟩ := bk q hW ql; go_step; exact hK)); (focus rfl)); (apply StI_plain (w0 := wc.drew) hI rfl rfl rfl rfl; (focus (intro W hW K hK; obtain ⟨_, _⟩ := bk (w.heap.size + 1) hW y1l; obtain ⟨_, _⟩ := bk q hW ql; go_step; exact hK)); (focus rfl))
        (apply StI_eff rfl; go_wp2_with (first | (go_at_call 80; refine (Hhfl.out _).mono ?_; rintro e w2 ⟨rfl, rfl⟩)))
        refine onNormal_mk hI (OrdI_cons ?_)
        (apply StI_plain (w0 := wc.drew) hI rfl rfl rfl rfl; (focus (intro W hW K hK; skip; go_step; exact hK)); (focus rfl))
        (apply StI_eff rfl; go_wp2_with (first | (go_at_call 81; refine (Hhce.out _).mono ?_; rintro e w2 ⟨rfl, rfl⟩)))
        refine onNormal_mk hI (OrdI_cons ?_)
        (apply StI_plain (w0 := wc.drew) hI rfl rfl rfl rfl; (focus (intro W hW K hK; skip; go_step; exact hK)); (focus rfl))
        (apply StI_eff rfl; go_wp2_with (first | (go_at_call 79; refine (uof_any _ _ _).mono ?_; rintro e w4 ⟨rfl, hb4⟩)))
        have hI4 : Below wc.heap.size wc w4 := below_mid hI (Nat.le_refl _) hb4
        refine onNormal_mk hI4 (OrdI_snk (StI_nil ?_))
        have z2 := heap_below hI4 Hy2.out
        have hbv := bl_step Hhbw.out hI4
        have z2c := cells_of z2
        have z2f := frozen_of z2
        have z2l := lt_of_heap z2
        clear hI hI4 hb4 y1c y1l qc ql Hy1 Hy2 Hhbw Hhqx Hhfl Hhce
        have Hz2 := Lib.hid z2; clear z2; have Hhbv := Lib.hid hbv; clear hbv
        apply wpOp_eff rfl
        go_wp2_with fail
        refine onNormal_last ?_
        go_wp2_with fail
        ((try simp only [Exit.inBlock, Exit.then]); refine bodyPost_ret (v := .agg #[.int .i64 R1, .int .i64 R2]) (by simp [results, Try.results56, go_sem, *]) rfl ?_)
        exact ⟨rfl, bl_setCell (bl_setCell Hhbv.out _ _ (by show _ ≤ w.heap.size + 1 + 1; omega)) _ _ (by show _ ≤ w.heap.size + 1 + 1; omega)⟩
end Go.Proofs.Ytfbmjecikilghaa
namespace Go.Proofs.Ytfbmjecikilghaa
open Go.RowKit Go.Shelf

/-! Plain numbers. -/
theorem fol1 {t z s b : Int} (h0 : 0 ≤ t) (h1 : t ≤ 1024) (z0 : -b ≤ z) (z1 : z ≤ b) (s0 : -b ≤ s) (s1 : s ≤ b) : -b ≤ z + t * (s - z) / 1024 ∧ z + t * (s - z) / 1024 ≤ b ∧ -b ≤ z + sceil (t * (s - z)) 1024 ∧ z + sceil (t * (s - z)) 1024 ≤ b := by
  have a1 := fol_mono (t := t) (z := -b) (s := -b) (z' := z) (s' := s) h0 h1 z0 s0
  have a2 := fol_mono (t := t) (z := z) (s := s) (z' := b) (s' := b) h0 h1 z1 s1
  have a3 := folc_mono (t := t) (z := -b) (s := -b) (z' := z) (s' := s) h0 h1 z0 s0
  have a4 := folc_mono (t := t) (z := z) (s := s) (z' := b) (s' := b) h0 h1 z1 s1
  have e1 : t * (-b - -b) = 0 := by rw [Int.sub_self, Int.mul_zero]
  have e2 : t * (b - b) = 0 := by rw [Int.sub_self, Int.mul_zero]
  rw [e1] at a1 a3
  rw [e2] at a2 a4
  unfold sceil at *
  simp only [Int.zero_ediv, Int.neg_zero] at *
  omega
theorem follow_bd {lag z s : Sp} {b : Int} (h0 : 0 ≤ lag.1 ∧ lag.1 ≤ 1024) (h1 : 0 ≤ lag.2 ∧ lag.2 ≤ 1024) (hz : (-b ≤ z.1 ∧ z.1 ≤ b) ∧ (-b ≤ z.2 ∧ z.2 ≤ b)) (hs : (-b ≤ s.1 ∧ s.1 ≤ b) ∧ (-b ≤ s.2 ∧ s.2 ≤ b)) :
    (-b ≤ (followS lag z s).1 ∧ (followS lag z s).1 ≤ b) ∧ (-b ≤ (followS lag z s).2 ∧ (followS lag z s).2 ≤ b) := by
  obtain ⟨⟨z0, z1⟩, z2, z3⟩ := hz
  obtain ⟨⟨s0, s1⟩, s2, s3⟩ := hs
  have t1 : 0 ≤ (if s.1 < z.1 then lag.2 else lag.1) ∧ (if s.1 < z.1 then lag.2 else lag.1) ≤ 1024 := by split <;> omega
  have t2 : 0 ≤ (if s.2 < z.2 then lag.1 else lag.2) ∧ (if s.2 < z.2 then lag.1 else lag.2) ≤ 1024 := by split <;> omega
  have a1 := fol1 t1.1 t1.2 z0 z1 s0 s1
  have a2 := fol1 t2.1 t2.2 z2 z3 s2 s3
  unfold followS
  simp only
  omega
def zEnd (m : SurM) (cell : Nat) (z : Sp) (l : List WindS) : Sp := l.foldl (fun z x => followS m.lag z (m.steady cell x)) z
theorem zEnd_snoc (m : SurM) (cell : Nat) (z : Sp) (l : List WindS) (x : WindS) : zEnd m cell z (l ++ [x]) = followS m.lag (zEnd m cell z l) (m.steady cell x) := by simp [zEnd]
theorem run_snoc (m : SurM) (cell : Nat) (x : WindS) : ∀ (l : List WindS) (z : Sp), m.run cell z (l ++ [x]) = m.run cell z l ++ [followS m.lag (zEnd m cell z l) (m.steady cell x)]
  | [], z => rfl
  | y :: l, z => by
    have := run_snoc m cell x l (followS m.lag z (m.steady cell y))
    simp only [List.cons_append, SurM.run, this]
    rfl
structure WindS.ok (x : WindS) : Prop where
  v : x.speed.1 ≤ x.speed.2
  v0 : 0 ≤ x.speed.1
  v1 : x.speed.2 ≤ 10000
  d0 : 1 ≤ x.dirs
  d1 : x.dirs ≤ 255
  p : x.low.1 ≤ x.low.2
  p0 : -20000 ≤ x.low.1
  p1 : x.low.2 ≤ 20000
theorem steady_bd {W H cell : Nat} {sz s0 s1 d0 d1 l0 l1 : Int} {gr : List (Int × Int)} (hsz : 1 ≤ sz ∧ sz ≤ 10000) (hd0 : 0 ≤ d0 ∧ d0 ≤ 10000) (hd1 : 0 ≤ d1 ∧ d1 ≤ 10000) {x : WindS} (hx : x.ok) :
    (-6000000000 ≤ ((surOf W H sz s0 s1 d0 d1 l0 l1 gr).steady cell x).1 ∧ ((surOf W H sz s0 s1 d0 d1 l0 l1 gr).steady cell x).1 ≤ 6000000000) ∧ (-6000000000 ≤ ((surOf W H sz s0 s1 d0 d1 l0 l1 gr).steady cell x).2 ∧ ((surOf W H sz s0 s1 d0 d1 l0 l1 gr).steady cell x).2 ≤ 6000000000) := by
  obtain ⟨⟨v0, v1⟩, n, p0, p1⟩ := x
  have hv0 : 0 ≤ v0 ∧ v0 ≤ 10000 := ⟨hx.v0, by have := hx.v; have := hx.v1; simp only at *; omega⟩
  have hv1 : 0 ≤ v1 ∧ v1 ≤ 10000 := ⟨by have := hx.v; have := hx.v0; simp only at *; omega, hx.v1⟩
  have hs := fun d => setup_bd (W := W) (H := H) (cell := cell) (dir := d) (s0 := s0) (s1 := s1) (l0 := l0) (l1 := l1) (gr := gr) hsz hd0 hd1 hv0 hv1
  have e1 := (low_bd (p := p0) hx.p0 (by have := hx.p; have := hx.p1; simp only at *; omega)).1
  have e2 := (low_bd (p := p1) (by have := hx.p; have := hx.p0; simp only at *; omega) hx.p1).2
  unfold SurM.steady
  simp only
  cases dirsL n with
  | nil => simp only; omega
  | cons d l =>
    have hh := hull_bd (b := 5000000000) (l.map fun e => (surOf W H sz s0 s1 d0 d1 l0 l1 gr).setup cell e (v0, v1)) ((surOf W H sz s0 s1 d0 d1 l0 l1 gr).setup cell d (v0, v1)) (hs d) (fun q hq => by obtain ⟨e, _, rfl⟩ := List.mem_map.1 hq; exact hs e)
    simp only [lowS]
    omega
theorem zEnd_bd {W H cell : Nat} {sz s0 s1 d0 d1 l0 l1 : Int} {gr : List (Int × Int)} (hsz : 1 ≤ sz ∧ sz ≤ 10000) (hd0 : 0 ≤ d0 ∧ d0 ≤ 10000) (hd1 : 0 ≤ d1 ∧ d1 ≤ 10000) (hl0 : 0 ≤ l0 ∧ l0 ≤ 1024) (hl1 : 0 ≤ l1 ∧ l1 ≤ 1024) : ∀ (l : List WindS) (z : Sp), (∀ x ∈ l, x.ok) →
    ((-6000000000 ≤ z.1 ∧ z.1 ≤ 6000000000) ∧ (-6000000000 ≤ z.2 ∧ z.2 ≤ 6000000000)) →
    (-6000000000 ≤ (zEnd (surOf W H sz s0 s1 d0 d1 l0 l1 gr) cell z l).1 ∧ (zEnd (surOf W H sz s0 s1 d0 d1 l0 l1 gr) cell z l).1 ≤ 6000000000) ∧ (-6000000000 ≤ (zEnd (surOf W H sz s0 s1 d0 d1 l0 l1 gr) cell z l).2 ∧ (zEnd (surOf W H sz s0 s1 d0 d1 l0 l1 gr) cell z l).2 ≤ 6000000000)
  | [], z, _, hz => hz
  | x :: l, z, hx, hz =>
    zEnd_bd hsz hd0 hd1 hl0 hl1 l (followS (l0, l1) z ((surOf W H sz s0 s1 d0 d1 l0 l1 gr).steady cell x)) (fun y hy => hx y (by simp [hy])) (follow_bd hl0 hl1 hz (steady_bd hsz hd0 hd1 (hx x (by simp))))

def WindE (w : World) (b o : Nat) (x : WindS) : Prop :=
  w.cell? ⟨b, o, none⟩ = some (.int .i64 x.speed.1) ∧ w.cell? ⟨b, o + 1, none⟩ = some (.int .i64 x.speed.2) ∧ w.cell? ⟨b, o + 2, none⟩ = some (.int .i64 x.dirs) ∧ w.cell? ⟨b, o + 3, none⟩ = some (.int .i64 x.low.1) ∧ w.cell? ⟨b, o + 4, none⟩ = some (.int .i64 x.low.2)
theorem ek_wind (B : Nat) : EK B WindE := fun _ _ _ _ _ hB hb ⟨h0, h1, h2, h3, h4⟩ => ⟨ek_cell hB hb h0, ek_cell hB hb h1, ek_cell hB hb h2, ek_cell hB hb h3, ek_cell hB hb h4⟩
end Go.Proofs.Ytfbmjecikilghaa
namespace Go.Proofs.Ytfbmjecikilghaa
open Go.RowKit Go.Shelf

abbrev windC (x : WindS) : Array Value := #[.int .i64 x.speed.1, .int .i64 x.speed.2, .int .i64 x.dirs, .int .i64 x.low.1, .int .i64 x.low.2]

def RunI (w : World) (mc pc : Array Value) (m : SurM) (cell : Nat) (z : Sp) (l : List WindS) (bp bz : Nat) (lv i : Value) (wr : World) : Prop :=
  ∃ (k : Nat) (v : Value), k ≤ l.length ∧ v = lv ∧ i = .int .i64 k ∧ wr.heap[w.heap.size + 1 + 1]? = some (.cells mc 63 (0, 0)) ∧ wr.heap[bp]? = some (.cells pc 119 (0, 0)) ∧
    wr.heap[bz]? = some (.cells #[.int .i64 (zEnd m cell z (l.take k)).1, .int .i64 (zEnd m cell z (l.take k)).2] 122 (0, 0)) ∧ wr.ownsRow (bz + 1) 46 2 v k (wcells (m.run cell z (l.take k))) ∧ Below w.heap.size w wr ∧ bz + 1 ≤ wr.heap.size

set_option maxHeartbeats 16000000 in
set_option maxRecDepth 100000 in
theorem run_ok {W H cell : Nat} {sz s0 s1 d0 d1 l0 l1 : Int} {gr : List (Int × Int)} {g : Nat} {gcs : Array Value} {gf : Nat × Nat} (P : PlcM W H cell sz s0 s1 d0 d1 l0 l1 gr g gcs gf) (cap : Nat) (z0 z1 : Int) (l : List WindS) (al : Option Addr) (cl B : Nat) (w : World) (hl : Sl WindE 5 B w al l) (hB : B ≤ w.heap.size) (hok : ∀ x ∈ l, x.ok) (hn : l.length ≤ 100)
    (hs : vldB s0 s1 (-20000) 20000 = true) (hd : vldB d0 d1 1 10000 = true) (hlg : vldB l0 l1 1 1024 = true) (hz : z0 ≤ z1 ∧ -6000000000 ≤ z0 ∧ z1 ≤ 6000000000) (x5 : w.heap[g]? = some (.cells gcs 46 gf)) :
    Calls Try.prog 25 #[.agg #[.int .i64 W, .int .i64 H, .int .i64 sz, .slice (some ⟨g, 0, none⟩) gr.length cap], .agg #[.int .i64 s0, .int .i64 s1], .agg #[.int .i64 d0, .int .i64 d1, .int .i64 l0, .int .i64 l1], .int .i64 cell, .agg #[.int .i64 z0, .int .i64 z1], .slice al l.length cl] w fun e w' =>
      ∃ v, e = .returned (.tuple #[v, .int .i64 0]) ∧ w'.ownsRow w.heap.size 46 2 v l.length (wcells ((surOf W H sz s0 s1 d0 d1 l0 l1 gr).run cell (z0, z1) l)) ∧ Below w.heap.size w w' := by
  have hG : GridM w.heap.size w W H sz gr (some ⟨g, 0, none⟩) :=
    ⟨(P.row w x5).mono (by have := lt_of_heap x5; omega), P.ok, by have := P.w1; omega, by have := P.w4; omega, by have := P.h1; omega, by have := P.h4; omega, P.sz1.1, P.sz1.2, by rw [P.len]; push_cast; rfl⟩
  have hat := fun V (hV : Below w.heap.size w V) => uat_any w.heap.size W H sz gr (some ⟨g, 0, none⟩) cap s0 s1 d0 d1 l0 l1 cell V (hG.below hV) hV.size hs hd hlg (by omega) (by have := P.hc; exact_mod_cast this)
  have hwi := uwithin_any z0 z1 (-1099511627776) 1099511627776
  rw [show vldB z0 z1 (-1099511627776) 1099511627776 = true from by simp [vldB]; omega] at hwi
  have hst := fun V (hV : Below w.heap.size w V) (x : WindS) (hx : x.ok) => steady_any P cap (v0 := x.speed.1) (v1 := x.speed.2) (n := x.dirs) (p0 := x.low.1) (p1 := x.low.2) ⟨hx.v0, by have := hx.v; have := hx.v1; omega⟩ ⟨by have := hx.v; have := hx.v0; omega, hx.v1⟩ hx.d0 hx.d1 ⟨hx.p0, by have := hx.p; have := hx.p1; omega⟩ ⟨by have := hx.p; have := hx.p0; omega, hx.p1⟩ V (heap_below hV x5)
  have hsb := fun (x : WindS) (hx : x.ok) => steady_bd (W := W) (H := H) (cell := cell) (s0 := s0) (s1 := s1) (l0 := l0) (l1 := l1) (gr := gr) P.sz1 P.d0 P.d1 hx
  have hzb := fun (k : Nat) => zEnd_bd (W := W) (H := H) (cell := cell) (s0 := s0) (s1 := s1) (gr := gr) P.sz1 P.d0 P.d1 P.l0 P.l1 (l.take k) (z0, z1) (fun x hx => hok x (List.mem_of_mem_take hx)) (by simp only; omega)
  have hL0 := P.l0
  have hL1 := P.l1
  obtain ⟨m, hm⟩ : ∃ m, surOf W H sz s0 s1 d0 d1 l0 l1 gr = m := ⟨_, rfl⟩
  have hml : m.lag = (l0, l1) := by rw [← hm]
  simp only [hm] at hst hsb hzb ⊢
  obtain ⟨n, hnn⟩ : ∃ n, gr.length = n := ⟨_, rfl⟩
  rw [hnn] at hat hst ⊢
  obtain ⟨hz1, hz2, hz3⟩ := hz
  clear hG hnn hm P
  have Hhat := Lib.hid hat; clear hat; have Hhwi := Lib.hid hwi; clear hwi; have Hhst := Lib.hid hst; clear hst; have Hhsb := Lib.hid hsb; clear hsb; have Hhzb := Lib.hid hzb; clear hzb; have HhL0 := Lib.hid hL0; clear hL0; have HhL1 := Lib.hid hL1; clear hL1; have Hhml := Lib.hid hml; clear hml; have Hhok := Lib.hid hok; clear hok; have Hhl := Lib.hid hl; clear hl; have Hx5 := Lib.hid x5; clear x5
  go_enter Try.func25, Try.ntmps25
  go_wp2_with fail
  refine (Hhat.out _ (by repeat (first | exact Below.refl _ _ | (refine bl_setCell ?_ _ _ ?_; rotate_left; focus (first | omega | (simp; done) | (simp; omega))) | refine bl_alloc ?_ _ | refine bl_step ?_ (by assumption) | refine bl_drew ?_ | refine bl_drewN ?_ _))).mono ?_
  rintro x w1 ⟨rfl, hb1⟩
  have y8 : w1.heap[w.heap.size + 1 + 1]? = some (.cells #[.int .i64 d0, .int .i64 d1, .int .i64 l0, .int .i64 l1] 63 (0, 0)) := heap_below hb1 (by repeat (first | (refine heap_alloc_at' _ _ ?_; focus (simp; done)) | refine heap_alloc_off ?_ _))
  have y10 : w1.heap[w.heap.size + 1 + 1 + 1]? = some (.cells #[.int .i64 z0, .int .i64 z1] 46 (0, 0)) := heap_below hb1 (by repeat (first | (refine heap_alloc_at' _ _ ?_; focus (simp; done)) | refine heap_alloc_off ?_ _))
  have hbw : Below w.heap.size w w1 := (by repeat (first | exact Below.refl _ _ | (refine bl_setCell ?_ _ _ ?_; rotate_left; focus (first | omega | (simp; done) | (simp; omega))) | refine bl_alloc ?_ _ | refine bl_step ?_ (by assumption) | refine bl_drew ?_ | refine bl_drewN ?_ _))
  have y10c := cells_of y10
  have y10l := lt_of_heap y10
  clear hb1
  have Hy8 := Lib.hid y8; clear y8; have Hy10 := Lib.hid y10; clear y10; have Hhbw := Lib.hid hbw; clear hbw
  go_upto_region 4 with fail
  have y14 := heap_alloc_at w1 (.cells #[.int .i64 W, .int .i64 H, .int .i64 sz, .slice (some ⟨g, 0, none⟩) n cap, .int .i64 s0, .int .i64 s1, .int .i64 d0, .int .i64 d1, .int .i64 l0, .int .i64 l1, .int .i64 cell] 119)
  have hB2 : Below w1.heap.size w1 (w1.alloc (.cells #[.int .i64 W, .int .i64 H, .int .i64 sz, .slice (some ⟨g, 0, none⟩) n cap, .int .i64 s0, .int .i64 s1, .int .i64 d0, .int .i64 d1, .int .i64 l0, .int .i64 l1, .int .i64 cell] 119)) := bl_alloc (Below.refl _ _) _
  have hge1 : w.heap.size + 1 + 1 + 1 < w1.heap.size := y10l
  obtain ⟨bp, hbp⟩ : ∃ b, w1.heap.size = b := ⟨_, rfl⟩
  have z8 := heap_below hB2 Hy8.out
  have z10 := heap_below hB2 Hy10.out
  have hbv := bl_step Hhbw.out hB2
  rw [hbp] at y14 hge1 ⊢
  generalize w1.alloc (.cells #[.int .i64 W, .int .i64 H, .int .i64 sz, .slice (some ⟨g, 0, none⟩) n cap, .int .i64 s0, .int .i64 s1, .int .i64 d0, .int .i64 d1, .int .i64 l0, .int .i64 l1, .int .i64 cell] 119) = w2 at y14 z8 z10 hbv ⊢
  clear hB2 y10c y10l Hy8 Hy10 Hhbw hbp
  have z10c := cells_of z10
  have z10l := lt_of_heap z10
  have Hy14 := Lib.hid y14; clear y14; have Hz8 := Lib.hid z8; clear z8; have Hz10 := Lib.hid z10; clear z10; have Hhbv := Lib.hid hbv; clear hbv
  go_wp2_with fail
  refine (Hhwi.out _).mono ?_
  rintro x w3 ⟨rfl, hb3⟩
  have v8 := heap_below hb3 Hz8.out
  have v10 := heap_below hb3 Hz10.out
  have v14 := heap_below hb3 Hy14.out
  have hbu := bl_step Hhbv.out hb3
  clear hb3 z10c z10l Hz8 Hz10 Hy14 Hhbv
  have Hv8 := Lib.hid v8; clear v8; have Hv10 := Lib.hid v10; clear v10; have Hv14 := Lib.hid v14; clear v14; have Hhbu := Lib.hid hbu; clear hbu
  go_wp2_with fail
  go_loopw [46] (fun i wr => LoopB l.length w3 i wr) (fun i _ => l.length - (intOf i).toNat)
  case atStart => exact ⟨0, Nat.zero_le _, rfl, Below.refl _ _⟩
  case round =>
    obtain ⟨k, hk, rfl, hb⟩ := hrel
    by_cases hlt : k < l.length
    · obtain ⟨b, off, rfl, hbB, he⟩ := (Hhl.out.below (ek_wind B) ((bl_step Hhbu.out hb).mono hB)).2 k hlt
      have hx := Hhok.out _ (List.getElem_mem hlt)
      obtain ⟨x, hxx⟩ : ∃ x, l[k] = x := ⟨_, rfl⟩
      rw [hxx] at he hx
      obtain ⟨⟨a0, a1⟩, dn, ⟨q0, q1⟩⟩ := x
      obtain ⟨e0, e1, e2, e3, e4⟩ := he
      obtain ⟨o1, o2, o3, o4, o5, o6, o7, o8⟩ := hx
      simp only at e0 e1 e2 e3 e4 o1 o2 o3 o4 o5 o6 o7 o8
      have hck := uwind_any a0 a1 dn q0 q1 (by simp [vldB]; omega) o4 o5 (by simp [vldB]; omega)
      clear hxx
      go_wp2_with fail
      refine (hck _).mono ?_
      rintro e w4 ⟨rfl, hb4⟩
      have hb5 : Below w3.heap.size w3 w4 := bl_step (bl_alloc hb _) hb4
      have Hhb5 := Lib.hid hb5; clear hb5
      go_wp2_with fail
      exact ⟨⟨k + 1, by omega, by go_num, Hhb5.out⟩, by simp [intOf]; omega⟩
    · have u8 := heap_below hb Hv8.out
      have u10 := heap_below hb Hv10.out
      have u14 := heap_below hb Hv14.out
      have hbt := bl_step Hhbu.out hb
      obtain ⟨w5, hw5⟩ : ∃ x, wr = x := ⟨_, rfl⟩
      rw [hw5] at u8 u10 u14 hbt ⊢
      clear hb hw5
      have u10c := cells_of u10
      have u10l := lt_of_heap u10
      have hblt := lt_of_heap u14
      have Hu8 := Lib.hid u8; clear u8; have Hu10 := Lib.hid u10; clear u10; have Hu14 := Lib.hid u14; clear u14; have Hhbt := Lib.hid hbt; clear hbt
      go_wp2_with fail
      obtain ⟨bz, hbz⟩ : ∃ b, w5.heap.size = b := ⟨_, rfl⟩
      go_loopw [19, 60] (fun v i wr => RunI w #[.int .i64 d0, .int .i64 d1, .int .i64 l0, .int .i64 l1] #[.int .i64 W, .int .i64 H, .int .i64 sz, .slice (some ⟨g, 0, none⟩) n cap, .int .i64 s0, .int .i64 s1, .int .i64 d0, .int .i64 d1, .int .i64 l0, .int .i64 l1, .int .i64 cell] m cell (z0, z1) l bp bz v i wr) (fun _ i _ => l.length - (intOf i).toNat)
      case atStart =>
        subst hbz
        exact ⟨0, _, Nat.zero_le _, rfl, rfl, heap_alloc_off Hu8.out _, heap_alloc_off Hu14.out _, heap_alloc_at _ _, World.ownsRow_nil _ _ _ _, bl_alloc Hhbt.out _, by simp⟩
      case round =>
        obtain ⟨k, v, hk, rfl, rfl, x8, x14, xz, hrow, hb, hsz⟩ := hrel
        rw [hbz]
        clear u10c u10l
        by_cases hlt2 : k < l.length
        · obtain ⟨b, off, rfl, hbB, he⟩ := (Hhl.out.below (ek_wind B) (hb.mono hB)).2 k hlt2
          have hx := Hhok.out _ (List.getElem_mem hlt2)
          have htk : l.take (k + 1) = l.take k ++ [l[k]] := List.take_succ_eq_append_getElem hlt2
          obtain ⟨x, hxx⟩ : ∃ x, l[k] = x := ⟨_, rfl⟩
          rw [hxx] at he hx htk
          have hsx := Hhst.out
          have hst := fun V hV => Hhst.out V hV x hx
          have hsb := Hhsb.out x hx
          have hrs := run_snoc m cell x (l.take k) (z0, z1)
          have hzs := zEnd_snoc m cell (z0, z1) (l.take k) x
          rw [← htk] at hrs hzs
          have hzb := Hhzb.out k
          obtain ⟨⟨za, zb⟩, hze⟩ : ∃ z, zEnd m cell (z0, z1) (l.take k) = z := ⟨_, rfl⟩
          rw [hze] at hzb xz hrs hzs
          obtain ⟨⟨S1, S2⟩, hSS⟩ : ∃ z, m.steady cell x = z := ⟨_, rfl⟩
          have hst' : ∀ (V : World) (hV : Below w.heap.size w V), Calls Try.prog 56 #[.agg #[.int .i64 W, .int .i64 H, .int .i64 sz, .slice (some ⟨g, 0, none⟩) n cap, .int .i64 s0, .int .i64 s1, .int .i64 d0, .int .i64 d1, .int .i64 l0, .int .i64 l1, .int .i64 cell], .agg #[.int .i64 x.speed.1, .int .i64 x.speed.2, .int .i64 x.dirs, .int .i64 x.low.1, .int .i64 x.low.2]] V fun e w' => e = .returned (.agg #[.int .i64 S1, .int .i64 S2]) ∧ Below V.heap.size V w' := fun V hV => by
            have := hst V hV
            rw [show (⟨(x.speed.1, x.speed.2), x.dirs, (x.low.1, x.low.2)⟩ : WindS) = x from rfl, hSS] at this
            exact this
          rw [hSS, Hhml.out] at hrs hzs
          rw [hSS] at hsb
          obtain ⟨⟨F1, F2⟩, hFF⟩ : ∃ z, followS (l0, l1) (za, zb) (S1, S2) = z := ⟨_, rfl⟩
          rw [hFF] at hrs hzs
          simp only at hsb hzb xz
          obtain ⟨⟨sb1, sb2⟩, sb3, sb4⟩ := hsb
          obtain ⟨⟨zb1, zb2⟩, zb3, zb4⟩ := hzb
          have hfo := ufollow_any d0 d1 l0 l1 za zb S1 S2 HhL0.out HhL1.out (by omega) (by omega) (by omega) (by omega) F1 F2 (by rw [hFF]) (by rw [hFF])
          obtain ⟨⟨a0, a1⟩, dn, ⟨q0, q1⟩⟩ := x
          obtain ⟨e0, e1, e2, e3, e4⟩ := he
          simp only at e0 e1 e2 e3 e4 hst'
          have hbw5 : b < wr.heap.size := World.block_lt_of_cell? wr _ e0
          clear hx hsx hst hSS hFF htk hxx
          have Hhst' := Lib.hid hst'; clear hst'; have Hhfo := Lib.hid hfo; clear hfo; have Hhrs := Lib.hid hrs; clear hrs; have Hhzs := Lib.hid hzs; clear hzs; have Hx8 := Lib.hid x8; clear x8; have Hx14 := Lib.hid x14; clear x14; have Hxz := Lib.hid xz; clear xz; have Hhrow := Lib.hid hrow; clear hrow; have Hhb := Lib.hid hb; clear hb; have Hhze := Lib.hid hze; clear hze
          go_upto_region 20 with fail
          have hsz' := hsz
          obtain ⟨q, hq⟩ : ∃ q, wr.heap.size = q := ⟨_, rfl⟩
          have g8 := heap_alloc_off Hx8.out (.cells #[.int .i64 a0, .int .i64 a1, .int .i64 dn, .int .i64 q0, .int .i64 q1] 67)
          have g14 := heap_alloc_off Hx14.out (.cells #[.int .i64 a0, .int .i64 a1, .int .i64 dn, .int .i64 q0, .int .i64 q1] 67)
          have gz := heap_alloc_off Hxz.out (.cells #[.int .i64 a0, .int .i64 a1, .int .i64 dn, .int .i64 q0, .int .i64 q1] 67)
          have gw := heap_alloc_at wr (.cells #[.int .i64 a0, .int .i64 a1, .int .i64 dn, .int .i64 q0, .int .i64 q1] 67)
          have grow := Hhrow.out.alloc (.cells #[.int .i64 a0, .int .i64 a1, .int .i64 dn, .int .i64 q0, .int .i64 q1] 67)
          have gb := bl_alloc Hhb.out (.cells #[.int .i64 a0, .int .i64 a1, .int .i64 dn, .int .i64 q0, .int .i64 q1] 67)
          have gsz : q + 1 ≤ (wr.alloc (.cells #[.int .i64 a0, .int .i64 a1, .int .i64 dn, .int .i64 q0, .int .i64 q1] 67)).heap.size := by simp; omega
          rw [hq] at gw hsz' ⊢
          generalize wr.alloc (.cells #[.int .i64 a0, .int .i64 a1, .int .i64 dn, .int .i64 q0, .int .i64 q1] 67) = w6 at g8 g14 gz gw grow gb gsz ⊢
          clear Hx8 Hx14 Hxz Hhrow Hhb hq
          have g8c := cells_of g8
          have g8l := lt_of_heap g8
          have g14c := cells_of g14
          have g14l := lt_of_heap g14
          have gzc := cells_of gz
          have gzl := lt_of_heap gz
          have gwc := cells_of gw
          have gwl := lt_of_heap gw
          have hI : Below w6.heap.size w6 w6.drew := (Below.refl _ _).drew
          have Hg8 := Lib.hid g8; clear g8; have Hg14 := Lib.hid g14; clear g14; have Hgz := Lib.hid gz; clear gz; have Hgw := Lib.hid gw; clear gw; have Hgrow := Lib.hid grow; clear grow; have Hgb := Lib.hid gb; clear gb
          refine wp_region_ord (fun W => Below w6.heap.size w6 W) [([0, 1, 2, 3], 4), ([], 5)] [] (some 6) (by kernel_rfl) (by kernel_rfl) hI ?_
          refine OrdI_cons ?_
          (apply StI_plain (w0 := w6.drew) hI rfl rfl rfl rfl; (focus (intro W hW K hK; obtain ⟨_, _⟩ := bk (w.heap.size + 1 + 1) hW g8l; obtain ⟨_, _⟩ := bk bp hW g14l; obtain ⟨_, _⟩ := bk bz hW gzl; obtain ⟨_, _⟩ := bk q hW gwl; go_step; exact hK)); (focus rfl)); (apply StI_plain (w0 := w6.drew) hI rfl rfl rfl rfl; (focus (intro W hW K hK; obtain ⟨_, _⟩ := bk (w.heap.size + 1 + 1) hW g8l; obtain ⟨_, _⟩ := bk bp hW g14l; obtain ⟨_, _⟩ := bk bz hW gzl; obtain ⟨_, _⟩ := bk q hW gwl; go_step; exact hK)); (focus rfl)); (apply StI_plain (w0 := w6.drew) hI rfl rfl rfl rfl; (focus (intro W hW K hK; obtain ⟨_, _⟩ := bk (w.heap.size + 1 + 1) hW g8l; obtain ⟨_, _⟩ := bk bp hW g14l; obtain ⟨_, _⟩ := bk bz hW gzl; obtain ⟨_, _⟩ := bk q hW gwl; go_step; exact hK)); (focus rfl)); (apply StI_plain (w0 := w6.drew) hI rfl rfl rfl rfl; (focus (intro W hW K hK; obtain ⟨_, _⟩ := bk (w.heap.size + 1 + 1) hW g8l; obtain ⟨_, _⟩ := bk bp hW g14l; obtain ⟨_, _⟩ := bk bz hW gzl; obtain ⟨_, _⟩ := bk q hW gwl; go_step; exact hK)); (focus rfl))
          (apply StI_eff rfl; go_wp2_with (first | (go_at_call 56; refine (Hhst'.out _ (bl_step Hgb.out hI)).mono ?_; rintro e w7 ⟨rfl, hb7⟩)))
          have hI7 : Below w6.heap.size w6 w7 := below_mid hI (Nat.le_refl _) hb7
          refine onNormal_mk hI7 (OrdI_cons ?_)
          (apply StI_eff rfl; go_wp2_with (first | (go_at_call 55; refine (Hhfo.out _).mono ?_; rintro e w8 ⟨rfl, hb8⟩)))
          have hI8 : Below w6.heap.size w6 w8 := below_mid hI7 (Nat.le_refl _) hb8
          refine onNormal_mk hI8 (OrdI_snk (StI_nil ?_))
          have k8 := heap_below hI8 Hg8.out
          have k14 := heap_below hI8 Hg14.out
          have kz := heap_below hI8 Hgz.out
          have krow := Hgrow.out.kept (below_grown hI8) (by cases v.ownBlock <;> simp)
          have kb := bl_step Hgb.out hI8
          have ksz : q + 1 ≤ w8.heap.size := by have := hI8.size; omega
          have kzc := cells_of kz
          have kzf := frozen_of kz
          have kzl := lt_of_heap kz
          clear hI hI7 hI8 hb7 hb8 g8c g8l g14c g14l gzc gzl gwc gwl Hg8 Hg14 Hgz Hgw Hgrow Hgb Hhst' Hhfo
          have Hk8 := Lib.hid k8; clear k8; have Hk14 := Lib.hid k14; clear k14; have Hkz := Lib.hid kz; clear kz; have Hkrow := Lib.hid krow; clear krow; have Hkb := Lib.hid kb; clear kb
          apply wpOp_eff rfl
          go_upto_region 21 with fail
          refine onNormal_last ?_
          have hb1 : bz ≠ w.heap.size + 1 + 1 := fun e => by have := Hkz.out; rw [e, Hk8.out] at this; cases this
          have hb2 : bz ≠ bp := fun e => by have := Hkz.out; rw [e, Hk14.out] at this; cases this
          have m8 := heap_setCell_off (o := 1) (heap_setCell_off (o := 0) Hk8.out (.int .i64 F1) hb1) (.int .i64 F2) hb1
          have m14 := heap_setCell_off (o := 1) (heap_setCell_off (o := 0) Hk14.out (.int .i64 F1) hb2) (.int .i64 F2) hb2
          have mz : ((w8.setCell ⟨bz, 0, none⟩ (.int .i64 F1)).setCell ⟨bz, 1, none⟩ (.int .i64 F2)).heap[bz]? = some (.cells #[.int .i64 F1, .int .i64 F2] 122 (0, 0)) := (heap_setCell_at ((heap_setCell_at Hkz.out _).trans rfl) _).trans rfl
          have mrow := ownsRow_setCell_below (ownsRow_setCell_below Hkrow.out (a := ⟨bz, 0, none⟩) (Nat.lt_succ_self bz) (.int .i64 F1)) (a := ⟨bz, 1, none⟩) (Nat.lt_succ_self bz) (.int .i64 F2)
          have hzw : w.heap.size ≤ bz := by omega
          have mb : Below w.heap.size w ((w8.setCell ⟨bz, 0, none⟩ (.int .i64 F1)).setCell ⟨bz, 1, none⟩ (.int .i64 F2)) := bl_setCell (bl_setCell Hkb.out _ _ hzw) _ _ hzw
          have msz : q + 1 ≤ ((w8.setCell ⟨bz, 0, none⟩ (.int .i64 F1)).setCell ⟨bz, 1, none⟩ (.int .i64 F2)).heap.size := by simp; omega
          clear kzc kzf kzl Hk8 Hk14 Hkz Hkrow Hkb ksz hb1 hb2
          generalize ((w8.setCell ⟨bz, 0, none⟩ (.int .i64 F1)).setCell ⟨bz, 1, none⟩ (.int .i64 F2)) = w9 at m8 m14 mz mrow mb msz ⊢
          have mzc := cells_of mz
          have mzl := lt_of_heap mz
          obtain ⟨i0, hinf, hz0, hz1, hz2⟩ := info_parts info36
          have hmax : k + 1 ≤ maxLen := by unfold maxLen; omega
          have hlt0 := fun g (hg : v.ownBlock = some g) => (mrow.lt g hg).1
          have hnews := news2 w9 (.int .i64 F1) (.int .i64 F2) 46
          have hk1 : w.heap.size + 1 + 1 < w9.heap.size := lt_of_heap m8
          have hk2 : bp < w9.heap.size := lt_of_heap m14
          have hn1 : ∀ b, b < bz + 1 → some b ≠ v.ownBlock := fun b hb h => by have := hlt0 b h.symm; omega
          have hp1 : w.heap.size + 1 + 1 < bz + 1 := by omega
          have hp2 : bp < bz + 1 := by omega
          have Hm8 := Lib.hid m8; clear m8; have Hm14 := Lib.hid m14; clear m14; have Hmz := Lib.hid mz; clear mz; have Hmb := Lib.hid mb; clear mb; have Hhn1 := Lib.hid hn1; clear hn1
          go_wp2_with (at_builtin; refine wpList_append_own _ rfl _ _ 34 rfl (bz + 1) 46 i0 (.agg #[.int .i64 0, .int .i64 0]) 2 16 Try.underlying34 hinf hz0 hz1 hz2 rfl (by decide) _ _ _ rfl (mrow.alloc _) ⟨w9.heap.size, 0, none⟩ 1 1 [.int .i64 F1, .int .i64 F2] rfl rfl hnews (by simp [Value.oneCell']) (by omega) (by omega) (by simp; omega) ?_; intro v' w4 hown' hgrow _; obtain ⟨g', cap', rfl⟩ := ownsRow_succ hown'; replace hgrow : (w9.alloc (.cells #[.int .i64 F1, .int .i64 F2] 46)).grownBy w4 v.ownBlock := hgrow; have k0 := (hgrow.block (w.heap.size + 1 + 1) (by simp; omega) (Hhn1.out _ hp1)).trans (heap_alloc_off Hm8.out _); have k1 := (hgrow.block bp (by simp; omega) (Hhn1.out _ hp2)).trans (heap_alloc_off Hm14.out _); have k2 := (hgrow.block bz (by simp; omega) (Hhn1.out _ (by omega))).trans (heap_alloc_off Hmz.out _); have hb4 : Below w.heap.size w w4 := (bl_alloc Hmb.out _).grown hgrow (by simp; omega) (fun k hk => by have := hlt0 k hk; omega); have hs4 : bz + 1 ≤ w4.heap.size := (by have := hgrow.size; simp at this; omega); clear hnews mrow; have Hk0 := Lib.hid k0; clear k0; have Hk1 := Lib.hid k1; clear k1; have Hk2 := Lib.hid k2; clear k2; have Hhb4 := Lib.hid hb4; clear hb4; have Hown := Lib.hid hown'; clear hown' hgrow)
          refine ⟨⟨k + 1, _, by omega, rfl, by go_num, Hk0.out, Hk1.out, ?_, ?_, Hhb4.out, hs4⟩, by simp [intOf]; omega⟩
          · rw [Hhzs.out]; exact Hk2.out
          · rw [Hhrs.out, wcells_snoc]; exact Hown.out
        · obtain rfl : k = l.length := by omega
          rw [List.take_length] at hrow
          have Hx8 := Lib.hid x8; clear x8; have Hx14 := Lib.hid x14; clear x14; have Hxz := Lib.hid xz; clear xz; have Hhrow := Lib.hid hrow; clear hrow; have Hhb := Lib.hid hb; clear hb
          go_wp2_with fail
          ((try simp only [Exit.inBlock, Exit.then]); refine bodyPost_ret (v := .tuple #[v, .int .i64 0]) (by simp [results, Try.results25, go_sem, *]) rfl ?_)
          exact ⟨v, rfl, row_mono Hhrow.out (by omega), Hhb.out⟩
end Go.Proofs.Ytfbmjecikilghaa
