/- TopBreach. -/
import Derived.Test.YtfbmjecikilghaaBrcF
namespace Go.Proofs.Ytfbmjecikilghaa
open Go.RowKit Go.Shelf

set_option maxHeartbeats 32000000 in
set_option maxRecDepth 100000 in
theorem topBreach_ok (s : ShoreL) (cell cr st we sp : Int) (ws : List U3) (wh : List Int) (al am aw a5 ah : Option Addr) (cl cm cw c5 ch B : Nat) (w : World) (hB : B ≤ w.heap.size) (hs : s.ok) (hS : ShoreW B w s al am aw) (hW : Sl U8E 3 B w a5 ws) (hH : SlW .u8 B w ah wh)
    (hws : ∀ x ∈ ws, x.ok 256) (hwh : ∀ x ∈ wh, 0 ≤ x ∧ x ≤ 255) (h1 : 1 ≤ ws.length) (h8 : ws.length ≤ 8) (hcell : 0 ≤ cell ∧ cell ≤ 255) (hcr : 0 ≤ cr ∧ cr ≤ 255) (hst : 0 ≤ st ∧ st ≤ 255) (hwr : 0 ≤ we ∧ we ≤ 255) (hsp : 0 ≤ sp ∧ sp ≤ 255) :
    Calls Try.prog 4 #[.agg #[.int .u8 s.wide, .int .u8 s.high, .slice al s.low.length cl, .slice am s.more.length cm, .slice aw s.where_.length cw, .int .u8 cell, .int .u8 cr, .int .u8 st, .int .u8 we, .slice a5 ws.length c5, .int .u8 sp, .slice ah wh.length ch]] w fun e w' => e = .returned (.bool true) ∧ Below w.heap.size w w' := by
  obtain ⟨cell0, cell1⟩ := hcell
  obtain ⟨cr0, cr1⟩ := hcr
  obtain ⟨st0, st1⟩ := hst
  obtain ⟨wr0, wr1⟩ := hwr
  obtain ⟨sp0, sp1⟩ := hsp
  obtain ⟨d1, d2, d3, d4⟩ := s.dims hs
  obtain ⟨N, hN⟩ : ∃ N : Nat, s.wd * s.ht = N := ⟨_, rfl⟩
  have hN0 : 0 < N := by rw [← hN]; exact Nat.mul_pos d1 d3
  have hN16 : N ≤ 16 := by rw [← hN]; exact Nat.mul_le_mul d2 d4
  have Hhs := Lib.hid hs; clear hs; have HhS := Lib.hid hS; clear hS; have HhW := Lib.hid hW; clear hW; have HhH := Lib.hid hH; clear hH; have Hhws := Lib.hid hws; clear hws; have Hhwh := Lib.hid hwh; clear hwh; have HhN := Lib.hid hN; clear hN
  go_enter Try.func4, Try.ntmps4
  go_upto_region 3 with fail
  have hbx : (w.alloc (.cells #[.int .u8 s.wide, .int .u8 s.high, .slice al s.low.length cl, .slice am s.more.length cm, .slice aw s.where_.length cw, .int .u8 cell, .int .u8 cr, .int .u8 st, .int .u8 we, .slice a5 ws.length c5, .int .u8 sp, .slice ah wh.length ch] 60)).heap[w.heap.size]? = some (.cells #[.int .u8 s.wide, .int .u8 s.high, .slice al s.low.length cl, .slice am s.more.length cm, .slice aw s.where_.length cw, .int .u8 cell, .int .u8 cr, .int .u8 st, .int .u8 we, .slice a5 ws.length c5, .int .u8 sp, .slice ah wh.length ch] 60 (0, 0)) := heap_alloc_at _ _
  have hbw : Below w.heap.size w (w.alloc (.cells #[.int .u8 s.wide, .int .u8 s.high, .slice al s.low.length cl, .slice am s.more.length cm, .slice aw s.where_.length cw, .int .u8 cell, .int .u8 cr, .int .u8 st, .int .u8 we, .slice a5 ws.length c5, .int .u8 sp, .slice ah wh.length ch] 60)) := (by repeat (first | exact Below.refl _ _ | (refine bl_setCell ?_ _ _ ?_; rotate_left; focus (first | omega | (simp; done) | (simp; omega))) | refine bl_alloc ?_ _ | refine bl_step ?_ (by assumption) | refine bl_drew ?_ | refine bl_drewN ?_ _))
  generalize (w.alloc (.cells #[.int .u8 s.wide, .int .u8 s.high, .slice al s.low.length cl, .slice am s.more.length cm, .slice aw s.where_.length cw, .int .u8 cell, .int .u8 cr, .int .u8 st, .int .u8 we, .slice a5 ws.length c5, .int .u8 sp, .slice ah wh.length ch] 60)) = wd at hbx hbw ⊢
  have hbc := cells_of hbx
  have hbl := lt_of_heap hbx
  have hKn := fun W (hW : Below wd.heap.size wd W) => known_rowC B W s al am aw cl cm cw Hhs.out (HhS.out.below ((bl_step hbw hW).mono hB)) (by have := hbw.size; have := hW.size; omega) N HhN.out
  have hTr := fun W (hW : Below wd.heap.size wd W) => truth_rowC B W s al am aw cl cm cw Hhs.out (HhS.out.below ((bl_step hbw hW).mono hB)) (by have := hbw.size; have := hW.size; omega) N HhN.out
  have Hhbx := Lib.hid hbx; clear hbx; have Hhbw := Lib.hid hbw; clear hbw
  go_cut [3, 4] from 53 to 58 (fun v3 v4 wx => GridsC s N wd v3 v4 wx)
  case first =>
    as_aux_lemma =>
    have hI : Below wd.heap.size wd wd.drew := (Below.refl _ _).drew
    refine wp_region_ordT3 (fun W => Below wd.heap.size wd W) (.three [0, 1, 3, 4] 2 (.three [] 5 (.two [] 6 (.one [] 7 (.one [] 8 (.one [] 9 (.fin [] none)))) 7 (.one [] 6 (.one [] 8 (.one [] 9 (.fin [] none))))) 6 (.two [] 5 (.one [] 7 (.one [] 8 (.one [] 9 (.fin [] none)))) 7 (.one [] 5 (.one [] 8 (.one [] 9 (.fin [] none))))) 7 (.two [] 5 (.one [] 6 (.one [] 8 (.one [] 9 (.fin [] none)))) 6 (.one [] 5 (.one [] 8 (.one [] 9 (.fin [] none)))))) 6 (.two [] 2 (.two [] 5 (.one [] 7 (.one [] 8 (.one [] 9 (.fin [] none)))) 7 (.one [] 5 (.one [] 8 (.one [] 9 (.fin [] none))))) 7 (.one [] 2 (.one [] 5 (.one [] 8 (.one [] 9 (.fin [] none)))))) 7 (.two [] 2 (.two [] 5 (.one [] 6 (.one [] 8 (.one [] 9 (.fin [] none)))) 6 (.one [] 5 (.one [] 8 (.one [] 9 (.fin [] none))))) 6 (.one [] 2 (.one [] 5 (.one [] 8 (.one [] 9 (.fin [] none))))))) (by kernel_rfl) (by kernel_rfl) hI ?_
    refine ot3Three ?_
    (apply StI_plain (w0 := wd.drew) hI rfl rfl rfl rfl; (focus (intro W hW K hK; obtain ⟨_, _⟩ := bk w.heap.size hW hbl; go_step; exact hK)); (focus rfl)); (apply StI_plain (w0 := wd.drew) hI rfl rfl rfl rfl; (focus (intro W hW K hK; obtain ⟨_, _⟩ := bk w.heap.size hW hbl; go_step; exact hK)); (focus rfl)); (apply StI_plain (w0 := wd.drew) hI rfl rfl rfl rfl; (focus (intro W hW K hK; obtain ⟨_, _⟩ := bk w.heap.size hW hbl; go_step; exact hK)); (focus rfl)); (apply StI_plain (w0 := wd.drew) hI rfl rfl rfl rfl; (focus (intro W hW K hK; obtain ⟨_, _⟩ := bk w.heap.size hW hbl; go_step; exact hK)); (focus rfl))
    refine StI_nil ⟨?_, ?_, ?_⟩
    · (apply wpOp_eff rfl; go_wp2_with (first | (go_at_call 6; refine (hKn _ hI).mono ?_; rintro e v1 ⟨g3, k3, o3, rfl, hg3, hk1, hro3, hb1⟩)))
      have HR3 := Lib.hid hro3
      clear hro3
      have hI1 : Below wd.heap.size wd v1 := below_mid hI (Nat.le_refl _) hb1
      refine ot3N hI1 ?_
      refine ot3Three (StI_nil ⟨?_, ?_, ?_⟩)
      · (apply wpOp_eff rfl; go_wp2_with (first | (go_at_call 7; refine (hTr _ hI1).mono ?_; rintro e v2 ⟨g4, k4, o4, rfl, hg4, ht2, hro4, hb2⟩)))
        have HR4 := Lib.hid hro4
        clear hro4
        have nkt : g3 ≠ g4 := by have := lt_of_heap hk1; omega
        have nwd : wd.heap.size ≤ g4 := by have := hI1.size; omega
        have hk2 := heap_below hb2 hk1
        have hI2 : Below wd.heap.size wd v2 := below_mid hI1 (Nat.le_refl _) hb2
        refine ot3N hI2 ?_
        refine ot3Two (StI_nil ⟨?_, ?_⟩)
        · (apply wpOp_eff rfl; go_wp2_with (first | fail))
          have hI3 : Below wd.heap.size wd (v2.alloc (.cells #[.int .i64 0, .int .i64 0, .int .i64 0, .slice none 0 0] 36)) := hI2.alloc hI2.size _
          have hp3 : (v2.alloc (.cells #[.int .i64 0, .int .i64 0, .int .i64 0, .slice none 0 0] 36)).heap[v2.heap.size]? = some (.cells gridZ 36 (0, 0)) := heap_alloc_at v2 (.cells #[.int .i64 0, .int .i64 0, .int .i64 0, .slice none 0 0] 36)
          have nkp : g3 ≠ v2.heap.size := by have := lt_of_heap hk2; omega
          have hk3 := heap_alloc_off hk2 (.cells #[.int .i64 0, .int .i64 0, .int .i64 0, .slice none 0 0] 36)
          have ntp : g4 ≠ v2.heap.size := by have := lt_of_heap ht2; omega
          have ht3 := heap_alloc_off ht2 (.cells #[.int .i64 0, .int .i64 0, .int .i64 0, .slice none 0 0] 36)
          have nnp3 : wd.heap.size ≤ v2.heap.size := hI2.size
          generalize (v2.alloc (.cells #[.int .i64 0, .int .i64 0, .int .i64 0, .slice none 0 0] 36)) = v3 at hI3 hp3 hk3 ht3 ⊢
          refine ot3N hI3 ?_
          refine ot3One (StI_nil ?_)
          (apply wpOp_eff rfl; go_wp2_with (first | fail))
          have hI4 : Below wd.heap.size wd (v3.alloc (.cells #[.int .i64 0, .int .i64 0, .int .i64 0, .slice none 0 0] 36)) := hI3.alloc hI3.size _
          have hq4 : (v3.alloc (.cells #[.int .i64 0, .int .i64 0, .int .i64 0, .slice none 0 0] 36)).heap[v3.heap.size]? = some (.cells gridZ 36 (0, 0)) := heap_alloc_at v3 (.cells #[.int .i64 0, .int .i64 0, .int .i64 0, .slice none 0 0] 36)
          have hp4 := heap_alloc_off hp3 (.cells #[.int .i64 0, .int .i64 0, .int .i64 0, .slice none 0 0] 36)
          have npq4 : v2.heap.size ≠ v3.heap.size := by have := lt_of_heap hp3; omega
          have nkq : g3 ≠ v3.heap.size := by have := lt_of_heap hk3; omega
          have hk4 := heap_alloc_off hk3 (.cells #[.int .i64 0, .int .i64 0, .int .i64 0, .slice none 0 0] 36)
          have ntq : g4 ≠ v3.heap.size := by have := lt_of_heap ht3; omega
          have ht4 := heap_alloc_off ht3 (.cells #[.int .i64 0, .int .i64 0, .int .i64 0, .slice none 0 0] 36)
          have nnq4 : wd.heap.size ≤ v3.heap.size := hI3.size
          generalize (v3.alloc (.cells #[.int .i64 0, .int .i64 0, .int .i64 0, .slice none 0 0] 36)) = v4 at hI4 hq4 hp4 hk4 ht4 ⊢
          refine ot3N hI4 ?_
          refine ot3One ?_
          have hG := (⟨hp4, hq4, hk4, ht4, npq4, nkp, nkq, ntp, ntq, nnp3, nnq4, hI4⟩ : GS wd v4 (v2.heap.size) (v3.heap.size) g3 g4 gridZ gridZ o3 o4)
          clear hk1 hI1 hb1 hk2 ht2 hI2 hb2 hI3 hp3 hk3 ht3 hI4 hq4 hp4 hk4 ht4
          apply StI_eff rfl
          refine wpList_store_rowTo rfl 36 _ _ rfl rfl (v2.heap.size) #[.int .i64 s.wd, .int .i64 s.ht, .int .i64 500, .slice (some ⟨g3, 0, none⟩) N k3] (by kernel_rfl) (by kernel_rfl) _ _ hG.hp (by kernel_rfl) rfl (by simp [Value.oneCell']) ?_
          apply wpList_nil
          have hG2 : GS wd (v4.setRow (v2.heap.size) #[.int .i64 s.wd, .int .i64 s.ht, .int .i64 500, .slice (some ⟨g3, 0, none⟩) N k3]) (v2.heap.size) (v3.heap.size) g3 g4 #[.int .i64 s.wd, .int .i64 s.ht, .int .i64 500, .slice (some ⟨g3, 0, none⟩) N k3] gridZ o3 o4 := hG.setP
          generalize v4.setRow (v2.heap.size) #[.int .i64 s.wd, .int .i64 s.ht, .int .i64 500, .slice (some ⟨g3, 0, none⟩) N k3] = w8 at hG2 ⊢
          clear hG
          refine ot3N hG2.below (ot3One ?_)
          apply StI_eff rfl
          refine wpList_store_rowTo rfl 36 _ _ rfl rfl (v3.heap.size) #[.int .i64 s.wd, .int .i64 s.ht, .int .i64 500, .slice (some ⟨g4, 0, none⟩) N k4] (by kernel_rfl) (by kernel_rfl) _ _ hG2.hq (by kernel_rfl) rfl (by simp [Value.oneCell']) ?_
          apply wpList_nil
          refine ot3N hG2.setQ.below (ot3Fin (StI_nil ?_))
          go_wp2_with fail
          go_meet
          exact ⟨_, _, g3, k3, g4, k4, o3, o4, rfl, rfl, HR3.out, HR4.out, hG2.setQ, nkt, nwd⟩
        · (apply wpOp_eff rfl; go_wp2_with (first | fail))
          have hI5 : Below wd.heap.size wd (v2.alloc (.cells #[.int .i64 0, .int .i64 0, .int .i64 0, .slice none 0 0] 36)) := hI2.alloc hI2.size _
          have hq5 : (v2.alloc (.cells #[.int .i64 0, .int .i64 0, .int .i64 0, .slice none 0 0] 36)).heap[v2.heap.size]? = some (.cells gridZ 36 (0, 0)) := heap_alloc_at v2 (.cells #[.int .i64 0, .int .i64 0, .int .i64 0, .slice none 0 0] 36)
          have nkq : g3 ≠ v2.heap.size := by have := lt_of_heap hk2; omega
          have hk5 := heap_alloc_off hk2 (.cells #[.int .i64 0, .int .i64 0, .int .i64 0, .slice none 0 0] 36)
          have ntq : g4 ≠ v2.heap.size := by have := lt_of_heap ht2; omega
          have ht5 := heap_alloc_off ht2 (.cells #[.int .i64 0, .int .i64 0, .int .i64 0, .slice none 0 0] 36)
          have nnq5 : wd.heap.size ≤ v2.heap.size := hI2.size
          generalize (v2.alloc (.cells #[.int .i64 0, .int .i64 0, .int .i64 0, .slice none 0 0] 36)) = v5 at hI5 hq5 hk5 ht5 ⊢
          refine ot3N hI5 ?_
          refine ot3One (StI_nil ?_)
          (apply wpOp_eff rfl; go_wp2_with (first | fail))
          have hI6 : Below wd.heap.size wd (v5.alloc (.cells #[.int .i64 0, .int .i64 0, .int .i64 0, .slice none 0 0] 36)) := hI5.alloc hI5.size _
          have hp6 : (v5.alloc (.cells #[.int .i64 0, .int .i64 0, .int .i64 0, .slice none 0 0] 36)).heap[v5.heap.size]? = some (.cells gridZ 36 (0, 0)) := heap_alloc_at v5 (.cells #[.int .i64 0, .int .i64 0, .int .i64 0, .slice none 0 0] 36)
          have hq6 := heap_alloc_off hq5 (.cells #[.int .i64 0, .int .i64 0, .int .i64 0, .slice none 0 0] 36)
          have npq6 : v5.heap.size ≠ v2.heap.size := by have := lt_of_heap hq5; omega
          have nkp : g3 ≠ v5.heap.size := by have := lt_of_heap hk5; omega
          have hk6 := heap_alloc_off hk5 (.cells #[.int .i64 0, .int .i64 0, .int .i64 0, .slice none 0 0] 36)
          have ntp : g4 ≠ v5.heap.size := by have := lt_of_heap ht5; omega
          have ht6 := heap_alloc_off ht5 (.cells #[.int .i64 0, .int .i64 0, .int .i64 0, .slice none 0 0] 36)
          have nnp6 : wd.heap.size ≤ v5.heap.size := hI5.size
          generalize (v5.alloc (.cells #[.int .i64 0, .int .i64 0, .int .i64 0, .slice none 0 0] 36)) = v6 at hI6 hp6 hq6 hk6 ht6 ⊢
          refine ot3N hI6 ?_
          refine ot3One ?_
          have hG := (⟨hp6, hq6, hk6, ht6, npq6, nkp, nkq, ntp, ntq, nnp6, nnq5, hI6⟩ : GS wd v6 (v5.heap.size) (v2.heap.size) g3 g4 gridZ gridZ o3 o4)
          clear hk1 hI1 hb1 hk2 ht2 hI2 hb2 hI5 hq5 hk5 ht5 hI6 hp6 hq6 hk6 ht6
          apply StI_eff rfl
          refine wpList_store_rowTo rfl 36 _ _ rfl rfl (v5.heap.size) #[.int .i64 s.wd, .int .i64 s.ht, .int .i64 500, .slice (some ⟨g3, 0, none⟩) N k3] (by kernel_rfl) (by kernel_rfl) _ _ hG.hp (by kernel_rfl) rfl (by simp [Value.oneCell']) ?_
          apply wpList_nil
          have hG2 : GS wd (v6.setRow (v5.heap.size) #[.int .i64 s.wd, .int .i64 s.ht, .int .i64 500, .slice (some ⟨g3, 0, none⟩) N k3]) (v5.heap.size) (v2.heap.size) g3 g4 #[.int .i64 s.wd, .int .i64 s.ht, .int .i64 500, .slice (some ⟨g3, 0, none⟩) N k3] gridZ o3 o4 := hG.setP
          generalize v6.setRow (v5.heap.size) #[.int .i64 s.wd, .int .i64 s.ht, .int .i64 500, .slice (some ⟨g3, 0, none⟩) N k3] = w8 at hG2 ⊢
          clear hG
          refine ot3N hG2.below (ot3One ?_)
          apply StI_eff rfl
          refine wpList_store_rowTo rfl 36 _ _ rfl rfl (v2.heap.size) #[.int .i64 s.wd, .int .i64 s.ht, .int .i64 500, .slice (some ⟨g4, 0, none⟩) N k4] (by kernel_rfl) (by kernel_rfl) _ _ hG2.hq (by kernel_rfl) rfl (by simp [Value.oneCell']) ?_
          apply wpList_nil
          refine ot3N hG2.setQ.below (ot3Fin (StI_nil ?_))
          go_wp2_with fail
          go_meet
          exact ⟨_, _, g3, k3, g4, k4, o3, o4, rfl, rfl, HR3.out, HR4.out, hG2.setQ, nkt, nwd⟩
      · (apply wpOp_eff rfl; go_wp2_with (first | fail))
        have hI7 : Below wd.heap.size wd (v1.alloc (.cells #[.int .i64 0, .int .i64 0, .int .i64 0, .slice none 0 0] 36)) := hI1.alloc hI1.size _
        have hp7 : (v1.alloc (.cells #[.int .i64 0, .int .i64 0, .int .i64 0, .slice none 0 0] 36)).heap[v1.heap.size]? = some (.cells gridZ 36 (0, 0)) := heap_alloc_at v1 (.cells #[.int .i64 0, .int .i64 0, .int .i64 0, .slice none 0 0] 36)
        have nkp : g3 ≠ v1.heap.size := by have := lt_of_heap hk1; omega
        have hk7 := heap_alloc_off hk1 (.cells #[.int .i64 0, .int .i64 0, .int .i64 0, .slice none 0 0] 36)
        have nnp7 : wd.heap.size ≤ v1.heap.size := hI1.size
        generalize (v1.alloc (.cells #[.int .i64 0, .int .i64 0, .int .i64 0, .slice none 0 0] 36)) = v7 at hI7 hp7 hk7 ⊢
        refine ot3N hI7 ?_
        refine ot3Two (StI_nil ⟨?_, ?_⟩)
        · (apply wpOp_eff rfl; go_wp2_with (first | (go_at_call 7; refine (hTr _ hI7).mono ?_; rintro e v8 ⟨g4, k4, o4, rfl, hg4, ht8, hro4, hb8⟩)))
          have HR4 := Lib.hid hro4
          clear hro4
          have ntp : g4 ≠ v1.heap.size := by have := lt_of_heap hp7; omega
          have nkt : g3 ≠ g4 := by have := lt_of_heap hk7; omega
          have nwd : wd.heap.size ≤ g4 := by have := hI7.size; omega
          have hp8 := heap_below hb8 hp7
          have hk8 := heap_below hb8 hk7
          have hI8 : Below wd.heap.size wd v8 := below_mid hI7 (Nat.le_refl _) hb8
          refine ot3N hI8 ?_
          refine ot3One (StI_nil ?_)
          (apply wpOp_eff rfl; go_wp2_with (first | fail))
          have hI9 : Below wd.heap.size wd (v8.alloc (.cells #[.int .i64 0, .int .i64 0, .int .i64 0, .slice none 0 0] 36)) := hI8.alloc hI8.size _
          have hq9 : (v8.alloc (.cells #[.int .i64 0, .int .i64 0, .int .i64 0, .slice none 0 0] 36)).heap[v8.heap.size]? = some (.cells gridZ 36 (0, 0)) := heap_alloc_at v8 (.cells #[.int .i64 0, .int .i64 0, .int .i64 0, .slice none 0 0] 36)
          have hp9 := heap_alloc_off hp8 (.cells #[.int .i64 0, .int .i64 0, .int .i64 0, .slice none 0 0] 36)
          have npq9 : v1.heap.size ≠ v8.heap.size := by have := lt_of_heap hp8; omega
          have nkq : g3 ≠ v8.heap.size := by have := lt_of_heap hk8; omega
          have hk9 := heap_alloc_off hk8 (.cells #[.int .i64 0, .int .i64 0, .int .i64 0, .slice none 0 0] 36)
          have ntq : g4 ≠ v8.heap.size := by have := lt_of_heap ht8; omega
          have ht9 := heap_alloc_off ht8 (.cells #[.int .i64 0, .int .i64 0, .int .i64 0, .slice none 0 0] 36)
          have nnq9 : wd.heap.size ≤ v8.heap.size := hI8.size
          generalize (v8.alloc (.cells #[.int .i64 0, .int .i64 0, .int .i64 0, .slice none 0 0] 36)) = v9 at hI9 hq9 hp9 hk9 ht9 ⊢
          refine ot3N hI9 ?_
          refine ot3One ?_
          have hG := (⟨hp9, hq9, hk9, ht9, npq9, nkp, nkq, ntp, ntq, nnp7, nnq9, hI9⟩ : GS wd v9 (v1.heap.size) (v8.heap.size) g3 g4 gridZ gridZ o3 o4)
          clear hk1 hI1 hb1 hI7 hp7 hk7 hp8 hk8 ht8 hI8 hb8 hI9 hq9 hp9 hk9 ht9
          apply StI_eff rfl
          refine wpList_store_rowTo rfl 36 _ _ rfl rfl (v1.heap.size) #[.int .i64 s.wd, .int .i64 s.ht, .int .i64 500, .slice (some ⟨g3, 0, none⟩) N k3] (by kernel_rfl) (by kernel_rfl) _ _ hG.hp (by kernel_rfl) rfl (by simp [Value.oneCell']) ?_
          apply wpList_nil
          have hG2 : GS wd (v9.setRow (v1.heap.size) #[.int .i64 s.wd, .int .i64 s.ht, .int .i64 500, .slice (some ⟨g3, 0, none⟩) N k3]) (v1.heap.size) (v8.heap.size) g3 g4 #[.int .i64 s.wd, .int .i64 s.ht, .int .i64 500, .slice (some ⟨g3, 0, none⟩) N k3] gridZ o3 o4 := hG.setP
          generalize v9.setRow (v1.heap.size) #[.int .i64 s.wd, .int .i64 s.ht, .int .i64 500, .slice (some ⟨g3, 0, none⟩) N k3] = w8 at hG2 ⊢
          clear hG
          refine ot3N hG2.below (ot3One ?_)
          apply StI_eff rfl
          refine wpList_store_rowTo rfl 36 _ _ rfl rfl (v8.heap.size) #[.int .i64 s.wd, .int .i64 s.ht, .int .i64 500, .slice (some ⟨g4, 0, none⟩) N k4] (by kernel_rfl) (by kernel_rfl) _ _ hG2.hq (by kernel_rfl) rfl (by simp [Value.oneCell']) ?_
          apply wpList_nil
          refine ot3N hG2.setQ.below (ot3Fin (StI_nil ?_))
          go_wp2_with fail
          go_meet
          exact ⟨_, _, g3, k3, g4, k4, o3, o4, rfl, rfl, HR3.out, HR4.out, hG2.setQ, nkt, nwd⟩
        · (apply wpOp_eff rfl; go_wp2_with (first | fail))
          have hI10 : Below wd.heap.size wd (v7.alloc (.cells #[.int .i64 0, .int .i64 0, .int .i64 0, .slice none 0 0] 36)) := hI7.alloc hI7.size _
          have hq10 : (v7.alloc (.cells #[.int .i64 0, .int .i64 0, .int .i64 0, .slice none 0 0] 36)).heap[v7.heap.size]? = some (.cells gridZ 36 (0, 0)) := heap_alloc_at v7 (.cells #[.int .i64 0, .int .i64 0, .int .i64 0, .slice none 0 0] 36)
          have hp10 := heap_alloc_off hp7 (.cells #[.int .i64 0, .int .i64 0, .int .i64 0, .slice none 0 0] 36)
          have npq10 : v1.heap.size ≠ v7.heap.size := by have := lt_of_heap hp7; omega
          have nkq : g3 ≠ v7.heap.size := by have := lt_of_heap hk7; omega
          have hk10 := heap_alloc_off hk7 (.cells #[.int .i64 0, .int .i64 0, .int .i64 0, .slice none 0 0] 36)
          have nnq10 : wd.heap.size ≤ v7.heap.size := hI7.size
          generalize (v7.alloc (.cells #[.int .i64 0, .int .i64 0, .int .i64 0, .slice none 0 0] 36)) = v10 at hI10 hq10 hp10 hk10 ⊢
          refine ot3N hI10 ?_
          refine ot3One (StI_nil ?_)
          (apply wpOp_eff rfl; go_wp2_with (first | (go_at_call 7; refine (hTr _ hI10).mono ?_; rintro e v11 ⟨g4, k4, o4, rfl, hg4, ht11, hro4, hb11⟩)))
          have HR4 := Lib.hid hro4
          clear hro4
          have ntp : g4 ≠ v1.heap.size := by have := lt_of_heap hp10; omega
          have ntq : g4 ≠ v7.heap.size := by have := lt_of_heap hq10; omega
          have nkt : g3 ≠ g4 := by have := lt_of_heap hk10; omega
          have nwd : wd.heap.size ≤ g4 := by have := hI10.size; omega
          have hp11 := heap_below hb11 hp10
          have hq11 := heap_below hb11 hq10
          have hk11 := heap_below hb11 hk10
          have hI11 : Below wd.heap.size wd v11 := below_mid hI10 (Nat.le_refl _) hb11
          refine ot3N hI11 ?_
          refine ot3One ?_
          have hG := (⟨hp11, hq11, hk11, ht11, npq10, nkp, nkq, ntp, ntq, nnp7, nnq10, hI11⟩ : GS wd v11 (v1.heap.size) (v7.heap.size) g3 g4 gridZ gridZ o3 o4)
          clear hk1 hI1 hb1 hI7 hp7 hk7 hI10 hq10 hp10 hk10 hp11 hq11 hk11 ht11 hI11 hb11
          apply StI_eff rfl
          refine wpList_store_rowTo rfl 36 _ _ rfl rfl (v1.heap.size) #[.int .i64 s.wd, .int .i64 s.ht, .int .i64 500, .slice (some ⟨g3, 0, none⟩) N k3] (by kernel_rfl) (by kernel_rfl) _ _ hG.hp (by kernel_rfl) rfl (by simp [Value.oneCell']) ?_
          apply wpList_nil
          have hG2 : GS wd (v11.setRow (v1.heap.size) #[.int .i64 s.wd, .int .i64 s.ht, .int .i64 500, .slice (some ⟨g3, 0, none⟩) N k3]) (v1.heap.size) (v7.heap.size) g3 g4 #[.int .i64 s.wd, .int .i64 s.ht, .int .i64 500, .slice (some ⟨g3, 0, none⟩) N k3] gridZ o3 o4 := hG.setP
          generalize v11.setRow (v1.heap.size) #[.int .i64 s.wd, .int .i64 s.ht, .int .i64 500, .slice (some ⟨g3, 0, none⟩) N k3] = w8 at hG2 ⊢
          clear hG
          refine ot3N hG2.below (ot3One ?_)
          apply StI_eff rfl
          refine wpList_store_rowTo rfl 36 _ _ rfl rfl (v7.heap.size) #[.int .i64 s.wd, .int .i64 s.ht, .int .i64 500, .slice (some ⟨g4, 0, none⟩) N k4] (by kernel_rfl) (by kernel_rfl) _ _ hG2.hq (by kernel_rfl) rfl (by simp [Value.oneCell']) ?_
          apply wpList_nil
          refine ot3N hG2.setQ.below (ot3Fin (StI_nil ?_))
          go_wp2_with fail
          go_meet
          exact ⟨_, _, g3, k3, g4, k4, o3, o4, rfl, rfl, HR3.out, HR4.out, hG2.setQ, nkt, nwd⟩
      · (apply wpOp_eff rfl; go_wp2_with (first | fail))
        have hI12 : Below wd.heap.size wd (v1.alloc (.cells #[.int .i64 0, .int .i64 0, .int .i64 0, .slice none 0 0] 36)) := hI1.alloc hI1.size _
        have hq12 : (v1.alloc (.cells #[.int .i64 0, .int .i64 0, .int .i64 0, .slice none 0 0] 36)).heap[v1.heap.size]? = some (.cells gridZ 36 (0, 0)) := heap_alloc_at v1 (.cells #[.int .i64 0, .int .i64 0, .int .i64 0, .slice none 0 0] 36)
        have nkq : g3 ≠ v1.heap.size := by have := lt_of_heap hk1; omega
        have hk12 := heap_alloc_off hk1 (.cells #[.int .i64 0, .int .i64 0, .int .i64 0, .slice none 0 0] 36)
        have nnq12 : wd.heap.size ≤ v1.heap.size := hI1.size
        generalize (v1.alloc (.cells #[.int .i64 0, .int .i64 0, .int .i64 0, .slice none 0 0] 36)) = v12 at hI12 hq12 hk12 ⊢
        refine ot3N hI12 ?_
        refine ot3Two (StI_nil ⟨?_, ?_⟩)
        · (apply wpOp_eff rfl; go_wp2_with (first | (go_at_call 7; refine (hTr _ hI12).mono ?_; rintro e v13 ⟨g4, k4, o4, rfl, hg4, ht13, hro4, hb13⟩)))
          have HR4 := Lib.hid hro4
          clear hro4
          have ntq : g4 ≠ v1.heap.size := by have := lt_of_heap hq12; omega
          have nkt : g3 ≠ g4 := by have := lt_of_heap hk12; omega
          have nwd : wd.heap.size ≤ g4 := by have := hI12.size; omega
          have hq13 := heap_below hb13 hq12
          have hk13 := heap_below hb13 hk12
          have hI13 : Below wd.heap.size wd v13 := below_mid hI12 (Nat.le_refl _) hb13
          refine ot3N hI13 ?_
          refine ot3One (StI_nil ?_)
          (apply wpOp_eff rfl; go_wp2_with (first | fail))
          have hI14 : Below wd.heap.size wd (v13.alloc (.cells #[.int .i64 0, .int .i64 0, .int .i64 0, .slice none 0 0] 36)) := hI13.alloc hI13.size _
          have hp14 : (v13.alloc (.cells #[.int .i64 0, .int .i64 0, .int .i64 0, .slice none 0 0] 36)).heap[v13.heap.size]? = some (.cells gridZ 36 (0, 0)) := heap_alloc_at v13 (.cells #[.int .i64 0, .int .i64 0, .int .i64 0, .slice none 0 0] 36)
          have hq14 := heap_alloc_off hq13 (.cells #[.int .i64 0, .int .i64 0, .int .i64 0, .slice none 0 0] 36)
          have npq14 : v13.heap.size ≠ v1.heap.size := by have := lt_of_heap hq13; omega
          have nkp : g3 ≠ v13.heap.size := by have := lt_of_heap hk13; omega
          have hk14 := heap_alloc_off hk13 (.cells #[.int .i64 0, .int .i64 0, .int .i64 0, .slice none 0 0] 36)
          have ntp : g4 ≠ v13.heap.size := by have := lt_of_heap ht13; omega
          have ht14 := heap_alloc_off ht13 (.cells #[.int .i64 0, .int .i64 0, .int .i64 0, .slice none 0 0] 36)
          have nnp14 : wd.heap.size ≤ v13.heap.size := hI13.size
          generalize (v13.alloc (.cells #[.int .i64 0, .int .i64 0, .int .i64 0, .slice none 0 0] 36)) = v14 at hI14 hp14 hq14 hk14 ht14 ⊢
          refine ot3N hI14 ?_
          refine ot3One ?_
          have hG := (⟨hp14, hq14, hk14, ht14, npq14, nkp, nkq, ntp, ntq, nnp14, nnq12, hI14⟩ : GS wd v14 (v13.heap.size) (v1.heap.size) g3 g4 gridZ gridZ o3 o4)
          clear hk1 hI1 hb1 hI12 hq12 hk12 hq13 hk13 ht13 hI13 hb13 hI14 hp14 hq14 hk14 ht14
          apply StI_eff rfl
          refine wpList_store_rowTo rfl 36 _ _ rfl rfl (v13.heap.size) #[.int .i64 s.wd, .int .i64 s.ht, .int .i64 500, .slice (some ⟨g3, 0, none⟩) N k3] (by kernel_rfl) (by kernel_rfl) _ _ hG.hp (by kernel_rfl) rfl (by simp [Value.oneCell']) ?_
          apply wpList_nil
          have hG2 : GS wd (v14.setRow (v13.heap.size) #[.int .i64 s.wd, .int .i64 s.ht, .int .i64 500, .slice (some ⟨g3, 0, none⟩) N k3]) (v13.heap.size) (v1.heap.size) g3 g4 #[.int .i64 s.wd, .int .i64 s.ht, .int .i64 500, .slice (some ⟨g3, 0, none⟩) N k3] gridZ o3 o4 := hG.setP
          generalize v14.setRow (v13.heap.size) #[.int .i64 s.wd, .int .i64 s.ht, .int .i64 500, .slice (some ⟨g3, 0, none⟩) N k3] = w8 at hG2 ⊢
          clear hG
          refine ot3N hG2.below (ot3One ?_)
          apply StI_eff rfl
          refine wpList_store_rowTo rfl 36 _ _ rfl rfl (v1.heap.size) #[.int .i64 s.wd, .int .i64 s.ht, .int .i64 500, .slice (some ⟨g4, 0, none⟩) N k4] (by kernel_rfl) (by kernel_rfl) _ _ hG2.hq (by kernel_rfl) rfl (by simp [Value.oneCell']) ?_
          apply wpList_nil
          refine ot3N hG2.setQ.below (ot3Fin (StI_nil ?_))
          go_wp2_with fail
          go_meet
          exact ⟨_, _, g3, k3, g4, k4, o3, o4, rfl, rfl, HR3.out, HR4.out, hG2.setQ, nkt, nwd⟩
        · (apply wpOp_eff rfl; go_wp2_with (first | fail))
          have hI15 : Below wd.heap.size wd (v12.alloc (.cells #[.int .i64 0, .int .i64 0, .int .i64 0, .slice none 0 0] 36)) := hI12.alloc hI12.size _
          have hp15 : (v12.alloc (.cells #[.int .i64 0, .int .i64 0, .int .i64 0, .slice none 0 0] 36)).heap[v12.heap.size]? = some (.cells gridZ 36 (0, 0)) := heap_alloc_at v12 (.cells #[.int .i64 0, .int .i64 0, .int .i64 0, .slice none 0 0] 36)
          have hq15 := heap_alloc_off hq12 (.cells #[.int .i64 0, .int .i64 0, .int .i64 0, .slice none 0 0] 36)
          have npq15 : v12.heap.size ≠ v1.heap.size := by have := lt_of_heap hq12; omega
          have nkp : g3 ≠ v12.heap.size := by have := lt_of_heap hk12; omega
          have hk15 := heap_alloc_off hk12 (.cells #[.int .i64 0, .int .i64 0, .int .i64 0, .slice none 0 0] 36)
          have nnp15 : wd.heap.size ≤ v12.heap.size := hI12.size
          generalize (v12.alloc (.cells #[.int .i64 0, .int .i64 0, .int .i64 0, .slice none 0 0] 36)) = v15 at hI15 hp15 hq15 hk15 ⊢
          refine ot3N hI15 ?_
          refine ot3One (StI_nil ?_)
          (apply wpOp_eff rfl; go_wp2_with (first | (go_at_call 7; refine (hTr _ hI15).mono ?_; rintro e v16 ⟨g4, k4, o4, rfl, hg4, ht16, hro4, hb16⟩)))
          have HR4 := Lib.hid hro4
          clear hro4
          have ntp : g4 ≠ v12.heap.size := by have := lt_of_heap hp15; omega
          have ntq : g4 ≠ v1.heap.size := by have := lt_of_heap hq15; omega
          have nkt : g3 ≠ g4 := by have := lt_of_heap hk15; omega
          have nwd : wd.heap.size ≤ g4 := by have := hI15.size; omega
          have hp16 := heap_below hb16 hp15
          have hq16 := heap_below hb16 hq15
          have hk16 := heap_below hb16 hk15
          have hI16 : Below wd.heap.size wd v16 := below_mid hI15 (Nat.le_refl _) hb16
          refine ot3N hI16 ?_
          refine ot3One ?_
          have hG := (⟨hp16, hq16, hk16, ht16, npq15, nkp, nkq, ntp, ntq, nnp15, nnq12, hI16⟩ : GS wd v16 (v12.heap.size) (v1.heap.size) g3 g4 gridZ gridZ o3 o4)
          clear hk1 hI1 hb1 hI12 hq12 hk12 hI15 hp15 hq15 hk15 hp16 hq16 hk16 ht16 hI16 hb16
          apply StI_eff rfl
          refine wpList_store_rowTo rfl 36 _ _ rfl rfl (v12.heap.size) #[.int .i64 s.wd, .int .i64 s.ht, .int .i64 500, .slice (some ⟨g3, 0, none⟩) N k3] (by kernel_rfl) (by kernel_rfl) _ _ hG.hp (by kernel_rfl) rfl (by simp [Value.oneCell']) ?_
          apply wpList_nil
          have hG2 : GS wd (v16.setRow (v12.heap.size) #[.int .i64 s.wd, .int .i64 s.ht, .int .i64 500, .slice (some ⟨g3, 0, none⟩) N k3]) (v12.heap.size) (v1.heap.size) g3 g4 #[.int .i64 s.wd, .int .i64 s.ht, .int .i64 500, .slice (some ⟨g3, 0, none⟩) N k3] gridZ o3 o4 := hG.setP
          generalize v16.setRow (v12.heap.size) #[.int .i64 s.wd, .int .i64 s.ht, .int .i64 500, .slice (some ⟨g3, 0, none⟩) N k3] = w8 at hG2 ⊢
          clear hG
          refine ot3N hG2.below (ot3One ?_)
          apply StI_eff rfl
          refine wpList_store_rowTo rfl 36 _ _ rfl rfl (v1.heap.size) #[.int .i64 s.wd, .int .i64 s.ht, .int .i64 500, .slice (some ⟨g4, 0, none⟩) N k4] (by kernel_rfl) (by kernel_rfl) _ _ hG2.hq (by kernel_rfl) rfl (by simp [Value.oneCell']) ?_
          apply wpList_nil
          refine ot3N hG2.setQ.below (ot3Fin (StI_nil ?_))
          go_wp2_with fail
          go_meet
          exact ⟨_, _, g3, k3, g4, k4, o3, o4, rfl, rfl, HR3.out, HR4.out, hG2.setQ, nkt, nwd⟩
    · (apply wpOp_eff rfl; go_wp2_with (first | fail))
      have hI17 : Below wd.heap.size wd (wd.alloc (.cells #[.int .i64 0, .int .i64 0, .int .i64 0, .slice none 0 0] 36)).drew := ((Below.refl _ _).alloc (Nat.le_refl _) _).drew
      have hp17 : (wd.alloc (.cells #[.int .i64 0, .int .i64 0, .int .i64 0, .slice none 0 0] 36)).drew.heap[wd.heap.size]? = some (.cells gridZ 36 (0, 0)) := heap_drew' (heap_alloc_at wd (.cells #[.int .i64 0, .int .i64 0, .int .i64 0, .slice none 0 0] 36))
      have nnp17 : wd.heap.size ≤ wd.heap.size := Nat.le_refl _
      generalize (wd.alloc (.cells #[.int .i64 0, .int .i64 0, .int .i64 0, .slice none 0 0] 36)).drew = v17 at hI17 hp17 ⊢
      refine ot3N hI17 ?_
      refine ot3Two (StI_nil ⟨?_, ?_⟩)
      · (apply wpOp_eff rfl; go_wp2_with (first | (go_at_call 6; refine (hKn _ hI17).mono ?_; rintro e v18 ⟨g3, k3, o3, rfl, hg3, hk18, hro3, hb18⟩)))
        have HR3 := Lib.hid hro3
        clear hro3
        have nkp : g3 ≠ wd.heap.size := by have := lt_of_heap hp17; omega
        have hp18 := heap_below hb18 hp17
        have hI18 : Below wd.heap.size wd v18 := below_mid hI17 (Nat.le_refl _) hb18
        refine ot3N hI18 ?_
        refine ot3Two (StI_nil ⟨?_, ?_⟩)
        · (apply wpOp_eff rfl; go_wp2_with (first | (go_at_call 7; refine (hTr _ hI18).mono ?_; rintro e v19 ⟨g4, k4, o4, rfl, hg4, ht19, hro4, hb19⟩)))
          have HR4 := Lib.hid hro4
          clear hro4
          have ntp : g4 ≠ wd.heap.size := by have := lt_of_heap hp18; omega
          have nkt : g3 ≠ g4 := by have := lt_of_heap hk18; omega
          have nwd : wd.heap.size ≤ g4 := by have := hI18.size; omega
          have hp19 := heap_below hb19 hp18
          have hk19 := heap_below hb19 hk18
          have hI19 : Below wd.heap.size wd v19 := below_mid hI18 (Nat.le_refl _) hb19
          refine ot3N hI19 ?_
          refine ot3One (StI_nil ?_)
          (apply wpOp_eff rfl; go_wp2_with (first | fail))
          have hI20 : Below wd.heap.size wd (v19.alloc (.cells #[.int .i64 0, .int .i64 0, .int .i64 0, .slice none 0 0] 36)) := hI19.alloc hI19.size _
          have hq20 : (v19.alloc (.cells #[.int .i64 0, .int .i64 0, .int .i64 0, .slice none 0 0] 36)).heap[v19.heap.size]? = some (.cells gridZ 36 (0, 0)) := heap_alloc_at v19 (.cells #[.int .i64 0, .int .i64 0, .int .i64 0, .slice none 0 0] 36)
          have hp20 := heap_alloc_off hp19 (.cells #[.int .i64 0, .int .i64 0, .int .i64 0, .slice none 0 0] 36)
          have npq20 : wd.heap.size ≠ v19.heap.size := by have := lt_of_heap hp19; omega
          have nkq : g3 ≠ v19.heap.size := by have := lt_of_heap hk19; omega
          have hk20 := heap_alloc_off hk19 (.cells #[.int .i64 0, .int .i64 0, .int .i64 0, .slice none 0 0] 36)
          have ntq : g4 ≠ v19.heap.size := by have := lt_of_heap ht19; omega
          have ht20 := heap_alloc_off ht19 (.cells #[.int .i64 0, .int .i64 0, .int .i64 0, .slice none 0 0] 36)
          have nnq20 : wd.heap.size ≤ v19.heap.size := hI19.size
          generalize (v19.alloc (.cells #[.int .i64 0, .int .i64 0, .int .i64 0, .slice none 0 0] 36)) = v20 at hI20 hq20 hp20 hk20 ht20 ⊢
          refine ot3N hI20 ?_
          refine ot3One ?_
          have hG := (⟨hp20, hq20, hk20, ht20, npq20, nkp, nkq, ntp, ntq, nnp17, nnq20, hI20⟩ : GS wd v20 (wd.heap.size) (v19.heap.size) g3 g4 gridZ gridZ o3 o4)
          clear hI17 hp17 hp18 hk18 hI18 hb18 hp19 hk19 ht19 hI19 hb19 hI20 hq20 hp20 hk20 ht20
          apply StI_eff rfl
          refine wpList_store_rowTo rfl 36 _ _ rfl rfl (wd.heap.size) #[.int .i64 s.wd, .int .i64 s.ht, .int .i64 500, .slice (some ⟨g3, 0, none⟩) N k3] (by kernel_rfl) (by kernel_rfl) _ _ hG.hp (by kernel_rfl) rfl (by simp [Value.oneCell']) ?_
          apply wpList_nil
          have hG2 : GS wd (v20.setRow (wd.heap.size) #[.int .i64 s.wd, .int .i64 s.ht, .int .i64 500, .slice (some ⟨g3, 0, none⟩) N k3]) (wd.heap.size) (v19.heap.size) g3 g4 #[.int .i64 s.wd, .int .i64 s.ht, .int .i64 500, .slice (some ⟨g3, 0, none⟩) N k3] gridZ o3 o4 := hG.setP
          generalize v20.setRow (wd.heap.size) #[.int .i64 s.wd, .int .i64 s.ht, .int .i64 500, .slice (some ⟨g3, 0, none⟩) N k3] = w8 at hG2 ⊢
          clear hG
          refine ot3N hG2.below (ot3One ?_)
          apply StI_eff rfl
          refine wpList_store_rowTo rfl 36 _ _ rfl rfl (v19.heap.size) #[.int .i64 s.wd, .int .i64 s.ht, .int .i64 500, .slice (some ⟨g4, 0, none⟩) N k4] (by kernel_rfl) (by kernel_rfl) _ _ hG2.hq (by kernel_rfl) rfl (by simp [Value.oneCell']) ?_
          apply wpList_nil
          refine ot3N hG2.setQ.below (ot3Fin (StI_nil ?_))
          go_wp2_with fail
          go_meet
          exact ⟨_, _, g3, k3, g4, k4, o3, o4, rfl, rfl, HR3.out, HR4.out, hG2.setQ, nkt, nwd⟩
        · (apply wpOp_eff rfl; go_wp2_with (first | fail))
          have hI21 : Below wd.heap.size wd (v18.alloc (.cells #[.int .i64 0, .int .i64 0, .int .i64 0, .slice none 0 0] 36)) := hI18.alloc hI18.size _
          have hq21 : (v18.alloc (.cells #[.int .i64 0, .int .i64 0, .int .i64 0, .slice none 0 0] 36)).heap[v18.heap.size]? = some (.cells gridZ 36 (0, 0)) := heap_alloc_at v18 (.cells #[.int .i64 0, .int .i64 0, .int .i64 0, .slice none 0 0] 36)
          have hp21 := heap_alloc_off hp18 (.cells #[.int .i64 0, .int .i64 0, .int .i64 0, .slice none 0 0] 36)
          have npq21 : wd.heap.size ≠ v18.heap.size := by have := lt_of_heap hp18; omega
          have nkq : g3 ≠ v18.heap.size := by have := lt_of_heap hk18; omega
          have hk21 := heap_alloc_off hk18 (.cells #[.int .i64 0, .int .i64 0, .int .i64 0, .slice none 0 0] 36)
          have nnq21 : wd.heap.size ≤ v18.heap.size := hI18.size
          generalize (v18.alloc (.cells #[.int .i64 0, .int .i64 0, .int .i64 0, .slice none 0 0] 36)) = v21 at hI21 hq21 hp21 hk21 ⊢
          refine ot3N hI21 ?_
          refine ot3One (StI_nil ?_)
          (apply wpOp_eff rfl; go_wp2_with (first | (go_at_call 7; refine (hTr _ hI21).mono ?_; rintro e v22 ⟨g4, k4, o4, rfl, hg4, ht22, hro4, hb22⟩)))
          have HR4 := Lib.hid hro4
          clear hro4
          have ntp : g4 ≠ wd.heap.size := by have := lt_of_heap hp21; omega
          have ntq : g4 ≠ v18.heap.size := by have := lt_of_heap hq21; omega
          have nkt : g3 ≠ g4 := by have := lt_of_heap hk21; omega
          have nwd : wd.heap.size ≤ g4 := by have := hI21.size; omega
          have hp22 := heap_below hb22 hp21
          have hq22 := heap_below hb22 hq21
          have hk22 := heap_below hb22 hk21
          have hI22 : Below wd.heap.size wd v22 := below_mid hI21 (Nat.le_refl _) hb22
          refine ot3N hI22 ?_
          refine ot3One ?_
          have hG := (⟨hp22, hq22, hk22, ht22, npq21, nkp, nkq, ntp, ntq, nnp17, nnq21, hI22⟩ : GS wd v22 (wd.heap.size) (v18.heap.size) g3 g4 gridZ gridZ o3 o4)
          clear hI17 hp17 hp18 hk18 hI18 hb18 hI21 hq21 hp21 hk21 hp22 hq22 hk22 ht22 hI22 hb22
          apply StI_eff rfl
          refine wpList_store_rowTo rfl 36 _ _ rfl rfl (wd.heap.size) #[.int .i64 s.wd, .int .i64 s.ht, .int .i64 500, .slice (some ⟨g3, 0, none⟩) N k3] (by kernel_rfl) (by kernel_rfl) _ _ hG.hp (by kernel_rfl) rfl (by simp [Value.oneCell']) ?_
          apply wpList_nil
          have hG2 : GS wd (v22.setRow (wd.heap.size) #[.int .i64 s.wd, .int .i64 s.ht, .int .i64 500, .slice (some ⟨g3, 0, none⟩) N k3]) (wd.heap.size) (v18.heap.size) g3 g4 #[.int .i64 s.wd, .int .i64 s.ht, .int .i64 500, .slice (some ⟨g3, 0, none⟩) N k3] gridZ o3 o4 := hG.setP
          generalize v22.setRow (wd.heap.size) #[.int .i64 s.wd, .int .i64 s.ht, .int .i64 500, .slice (some ⟨g3, 0, none⟩) N k3] = w8 at hG2 ⊢
          clear hG
          refine ot3N hG2.below (ot3One ?_)
          apply StI_eff rfl
          refine wpList_store_rowTo rfl 36 _ _ rfl rfl (v18.heap.size) #[.int .i64 s.wd, .int .i64 s.ht, .int .i64 500, .slice (some ⟨g4, 0, none⟩) N k4] (by kernel_rfl) (by kernel_rfl) _ _ hG2.hq (by kernel_rfl) rfl (by simp [Value.oneCell']) ?_
          apply wpList_nil
          refine ot3N hG2.setQ.below (ot3Fin (StI_nil ?_))
          go_wp2_with fail
          go_meet
          exact ⟨_, _, g3, k3, g4, k4, o3, o4, rfl, rfl, HR3.out, HR4.out, hG2.setQ, nkt, nwd⟩
      · (apply wpOp_eff rfl; go_wp2_with (first | fail))
        have hI23 : Below wd.heap.size wd (v17.alloc (.cells #[.int .i64 0, .int .i64 0, .int .i64 0, .slice none 0 0] 36)) := hI17.alloc hI17.size _
        have hq23 : (v17.alloc (.cells #[.int .i64 0, .int .i64 0, .int .i64 0, .slice none 0 0] 36)).heap[v17.heap.size]? = some (.cells gridZ 36 (0, 0)) := heap_alloc_at v17 (.cells #[.int .i64 0, .int .i64 0, .int .i64 0, .slice none 0 0] 36)
        have hp23 := heap_alloc_off hp17 (.cells #[.int .i64 0, .int .i64 0, .int .i64 0, .slice none 0 0] 36)
        have npq23 : wd.heap.size ≠ v17.heap.size := by have := lt_of_heap hp17; omega
        have nnq23 : wd.heap.size ≤ v17.heap.size := hI17.size
        generalize (v17.alloc (.cells #[.int .i64 0, .int .i64 0, .int .i64 0, .slice none 0 0] 36)) = v23 at hI23 hq23 hp23 ⊢
        refine ot3N hI23 ?_
        refine ot3One (StI_nil ?_)
        (apply wpOp_eff rfl; go_wp2_with (first | (go_at_call 6; refine (hKn _ hI23).mono ?_; rintro e v24 ⟨g3, k3, o3, rfl, hg3, hk24, hro3, hb24⟩)))
        have HR3 := Lib.hid hro3
        clear hro3
        have nkp : g3 ≠ wd.heap.size := by have := lt_of_heap hp23; omega
        have nkq : g3 ≠ v17.heap.size := by have := lt_of_heap hq23; omega
        have hp24 := heap_below hb24 hp23
        have hq24 := heap_below hb24 hq23
        have hI24 : Below wd.heap.size wd v24 := below_mid hI23 (Nat.le_refl _) hb24
        refine ot3N hI24 ?_
        refine ot3One (StI_nil ?_)
        (apply wpOp_eff rfl; go_wp2_with (first | (go_at_call 7; refine (hTr _ hI24).mono ?_; rintro e v25 ⟨g4, k4, o4, rfl, hg4, ht25, hro4, hb25⟩)))
        have HR4 := Lib.hid hro4
        clear hro4
        have ntp : g4 ≠ wd.heap.size := by have := lt_of_heap hp24; omega
        have ntq : g4 ≠ v17.heap.size := by have := lt_of_heap hq24; omega
        have nkt : g3 ≠ g4 := by have := lt_of_heap hk24; omega
        have nwd : wd.heap.size ≤ g4 := by have := hI24.size; omega
        have hp25 := heap_below hb25 hp24
        have hq25 := heap_below hb25 hq24
        have hk25 := heap_below hb25 hk24
        have hI25 : Below wd.heap.size wd v25 := below_mid hI24 (Nat.le_refl _) hb25
        refine ot3N hI25 ?_
        refine ot3One ?_
        have hG := (⟨hp25, hq25, hk25, ht25, npq23, nkp, nkq, ntp, ntq, nnp17, nnq23, hI25⟩ : GS wd v25 (wd.heap.size) (v17.heap.size) g3 g4 gridZ gridZ o3 o4)
        clear hI17 hp17 hI23 hq23 hp23 hp24 hq24 hk24 hI24 hb24 hp25 hq25 hk25 ht25 hI25 hb25
        apply StI_eff rfl
        refine wpList_store_rowTo rfl 36 _ _ rfl rfl (wd.heap.size) #[.int .i64 s.wd, .int .i64 s.ht, .int .i64 500, .slice (some ⟨g3, 0, none⟩) N k3] (by kernel_rfl) (by kernel_rfl) _ _ hG.hp (by kernel_rfl) rfl (by simp [Value.oneCell']) ?_
        apply wpList_nil
        have hG2 : GS wd (v25.setRow (wd.heap.size) #[.int .i64 s.wd, .int .i64 s.ht, .int .i64 500, .slice (some ⟨g3, 0, none⟩) N k3]) (wd.heap.size) (v17.heap.size) g3 g4 #[.int .i64 s.wd, .int .i64 s.ht, .int .i64 500, .slice (some ⟨g3, 0, none⟩) N k3] gridZ o3 o4 := hG.setP
        generalize v25.setRow (wd.heap.size) #[.int .i64 s.wd, .int .i64 s.ht, .int .i64 500, .slice (some ⟨g3, 0, none⟩) N k3] = w8 at hG2 ⊢
        clear hG
        refine ot3N hG2.below (ot3One ?_)
        apply StI_eff rfl
        refine wpList_store_rowTo rfl 36 _ _ rfl rfl (v17.heap.size) #[.int .i64 s.wd, .int .i64 s.ht, .int .i64 500, .slice (some ⟨g4, 0, none⟩) N k4] (by kernel_rfl) (by kernel_rfl) _ _ hG2.hq (by kernel_rfl) rfl (by simp [Value.oneCell']) ?_
        apply wpList_nil
        refine ot3N hG2.setQ.below (ot3Fin (StI_nil ?_))
        go_wp2_with fail
        go_meet
        exact ⟨_, _, g3, k3, g4, k4, o3, o4, rfl, rfl, HR3.out, HR4.out, hG2.setQ, nkt, nwd⟩
    · (apply wpOp_eff rfl; go_wp2_with (first | fail))
      have hI26 : Below wd.heap.size wd (wd.alloc (.cells #[.int .i64 0, .int .i64 0, .int .i64 0, .slice none 0 0] 36)).drew := ((Below.refl _ _).alloc (Nat.le_refl _) _).drew
      have hq26 : (wd.alloc (.cells #[.int .i64 0, .int .i64 0, .int .i64 0, .slice none 0 0] 36)).drew.heap[wd.heap.size]? = some (.cells gridZ 36 (0, 0)) := heap_drew' (heap_alloc_at wd (.cells #[.int .i64 0, .int .i64 0, .int .i64 0, .slice none 0 0] 36))
      have nnq26 : wd.heap.size ≤ wd.heap.size := Nat.le_refl _
      generalize (wd.alloc (.cells #[.int .i64 0, .int .i64 0, .int .i64 0, .slice none 0 0] 36)).drew = v26 at hI26 hq26 ⊢
      refine ot3N hI26 ?_
      refine ot3Two (StI_nil ⟨?_, ?_⟩)
      · (apply wpOp_eff rfl; go_wp2_with (first | (go_at_call 6; refine (hKn _ hI26).mono ?_; rintro e v27 ⟨g3, k3, o3, rfl, hg3, hk27, hro3, hb27⟩)))
        have HR3 := Lib.hid hro3
        clear hro3
        have nkq : g3 ≠ wd.heap.size := by have := lt_of_heap hq26; omega
        have hq27 := heap_below hb27 hq26
        have hI27 : Below wd.heap.size wd v27 := below_mid hI26 (Nat.le_refl _) hb27
        refine ot3N hI27 ?_
        refine ot3Two (StI_nil ⟨?_, ?_⟩)
        · (apply wpOp_eff rfl; go_wp2_with (first | (go_at_call 7; refine (hTr _ hI27).mono ?_; rintro e v28 ⟨g4, k4, o4, rfl, hg4, ht28, hro4, hb28⟩)))
          have HR4 := Lib.hid hro4
          clear hro4
          have ntq : g4 ≠ wd.heap.size := by have := lt_of_heap hq27; omega
          have nkt : g3 ≠ g4 := by have := lt_of_heap hk27; omega
          have nwd : wd.heap.size ≤ g4 := by have := hI27.size; omega
          have hq28 := heap_below hb28 hq27
          have hk28 := heap_below hb28 hk27
          have hI28 : Below wd.heap.size wd v28 := below_mid hI27 (Nat.le_refl _) hb28
          refine ot3N hI28 ?_
          refine ot3One (StI_nil ?_)
          (apply wpOp_eff rfl; go_wp2_with (first | fail))
          have hI29 : Below wd.heap.size wd (v28.alloc (.cells #[.int .i64 0, .int .i64 0, .int .i64 0, .slice none 0 0] 36)) := hI28.alloc hI28.size _
          have hp29 : (v28.alloc (.cells #[.int .i64 0, .int .i64 0, .int .i64 0, .slice none 0 0] 36)).heap[v28.heap.size]? = some (.cells gridZ 36 (0, 0)) := heap_alloc_at v28 (.cells #[.int .i64 0, .int .i64 0, .int .i64 0, .slice none 0 0] 36)
          have hq29 := heap_alloc_off hq28 (.cells #[.int .i64 0, .int .i64 0, .int .i64 0, .slice none 0 0] 36)
          have npq29 : v28.heap.size ≠ wd.heap.size := by have := lt_of_heap hq28; omega
          have nkp : g3 ≠ v28.heap.size := by have := lt_of_heap hk28; omega
          have hk29 := heap_alloc_off hk28 (.cells #[.int .i64 0, .int .i64 0, .int .i64 0, .slice none 0 0] 36)
          have ntp : g4 ≠ v28.heap.size := by have := lt_of_heap ht28; omega
          have ht29 := heap_alloc_off ht28 (.cells #[.int .i64 0, .int .i64 0, .int .i64 0, .slice none 0 0] 36)
          have nnp29 : wd.heap.size ≤ v28.heap.size := hI28.size
          generalize (v28.alloc (.cells #[.int .i64 0, .int .i64 0, .int .i64 0, .slice none 0 0] 36)) = v29 at hI29 hp29 hq29 hk29 ht29 ⊢
          refine ot3N hI29 ?_
          refine ot3One ?_
          have hG := (⟨hp29, hq29, hk29, ht29, npq29, nkp, nkq, ntp, ntq, nnp29, nnq26, hI29⟩ : GS wd v29 (v28.heap.size) (wd.heap.size) g3 g4 gridZ gridZ o3 o4)
          clear hI26 hq26 hq27 hk27 hI27 hb27 hq28 hk28 ht28 hI28 hb28 hI29 hp29 hq29 hk29 ht29
          apply StI_eff rfl
          refine wpList_store_rowTo rfl 36 _ _ rfl rfl (v28.heap.size) #[.int .i64 s.wd, .int .i64 s.ht, .int .i64 500, .slice (some ⟨g3, 0, none⟩) N k3] (by kernel_rfl) (by kernel_rfl) _ _ hG.hp (by kernel_rfl) rfl (by simp [Value.oneCell']) ?_
          apply wpList_nil
          have hG2 : GS wd (v29.setRow (v28.heap.size) #[.int .i64 s.wd, .int .i64 s.ht, .int .i64 500, .slice (some ⟨g3, 0, none⟩) N k3]) (v28.heap.size) (wd.heap.size) g3 g4 #[.int .i64 s.wd, .int .i64 s.ht, .int .i64 500, .slice (some ⟨g3, 0, none⟩) N k3] gridZ o3 o4 := hG.setP
          generalize v29.setRow (v28.heap.size) #[.int .i64 s.wd, .int .i64 s.ht, .int .i64 500, .slice (some ⟨g3, 0, none⟩) N k3] = w8 at hG2 ⊢
          clear hG
          refine ot3N hG2.below (ot3One ?_)
          apply StI_eff rfl
          refine wpList_store_rowTo rfl 36 _ _ rfl rfl (wd.heap.size) #[.int .i64 s.wd, .int .i64 s.ht, .int .i64 500, .slice (some ⟨g4, 0, none⟩) N k4] (by kernel_rfl) (by kernel_rfl) _ _ hG2.hq (by kernel_rfl) rfl (by simp [Value.oneCell']) ?_
          apply wpList_nil
          refine ot3N hG2.setQ.below (ot3Fin (StI_nil ?_))
          go_wp2_with fail
          go_meet
          exact ⟨_, _, g3, k3, g4, k4, o3, o4, rfl, rfl, HR3.out, HR4.out, hG2.setQ, nkt, nwd⟩
        · (apply wpOp_eff rfl; go_wp2_with (first | fail))
          have hI30 : Below wd.heap.size wd (v27.alloc (.cells #[.int .i64 0, .int .i64 0, .int .i64 0, .slice none 0 0] 36)) := hI27.alloc hI27.size _
          have hp30 : (v27.alloc (.cells #[.int .i64 0, .int .i64 0, .int .i64 0, .slice none 0 0] 36)).heap[v27.heap.size]? = some (.cells gridZ 36 (0, 0)) := heap_alloc_at v27 (.cells #[.int .i64 0, .int .i64 0, .int .i64 0, .slice none 0 0] 36)
          have hq30 := heap_alloc_off hq27 (.cells #[.int .i64 0, .int .i64 0, .int .i64 0, .slice none 0 0] 36)
          have npq30 : v27.heap.size ≠ wd.heap.size := by have := lt_of_heap hq27; omega
          have nkp : g3 ≠ v27.heap.size := by have := lt_of_heap hk27; omega
          have hk30 := heap_alloc_off hk27 (.cells #[.int .i64 0, .int .i64 0, .int .i64 0, .slice none 0 0] 36)
          have nnp30 : wd.heap.size ≤ v27.heap.size := hI27.size
          generalize (v27.alloc (.cells #[.int .i64 0, .int .i64 0, .int .i64 0, .slice none 0 0] 36)) = v30 at hI30 hp30 hq30 hk30 ⊢
          refine ot3N hI30 ?_
          refine ot3One (StI_nil ?_)
          (apply wpOp_eff rfl; go_wp2_with (first | (go_at_call 7; refine (hTr _ hI30).mono ?_; rintro e v31 ⟨g4, k4, o4, rfl, hg4, ht31, hro4, hb31⟩)))
          have HR4 := Lib.hid hro4
          clear hro4
          have ntp : g4 ≠ v27.heap.size := by have := lt_of_heap hp30; omega
          have ntq : g4 ≠ wd.heap.size := by have := lt_of_heap hq30; omega
          have nkt : g3 ≠ g4 := by have := lt_of_heap hk30; omega
          have nwd : wd.heap.size ≤ g4 := by have := hI30.size; omega
          have hp31 := heap_below hb31 hp30
          have hq31 := heap_below hb31 hq30
          have hk31 := heap_below hb31 hk30
          have hI31 : Below wd.heap.size wd v31 := below_mid hI30 (Nat.le_refl _) hb31
          refine ot3N hI31 ?_
          refine ot3One ?_
          have hG := (⟨hp31, hq31, hk31, ht31, npq30, nkp, nkq, ntp, ntq, nnp30, nnq26, hI31⟩ : GS wd v31 (v27.heap.size) (wd.heap.size) g3 g4 gridZ gridZ o3 o4)
          clear hI26 hq26 hq27 hk27 hI27 hb27 hI30 hp30 hq30 hk30 hp31 hq31 hk31 ht31 hI31 hb31
          apply StI_eff rfl
          refine wpList_store_rowTo rfl 36 _ _ rfl rfl (v27.heap.size) #[.int .i64 s.wd, .int .i64 s.ht, .int .i64 500, .slice (some ⟨g3, 0, none⟩) N k3] (by kernel_rfl) (by kernel_rfl) _ _ hG.hp (by kernel_rfl) rfl (by simp [Value.oneCell']) ?_
          apply wpList_nil
          have hG2 : GS wd (v31.setRow (v27.heap.size) #[.int .i64 s.wd, .int .i64 s.ht, .int .i64 500, .slice (some ⟨g3, 0, none⟩) N k3]) (v27.heap.size) (wd.heap.size) g3 g4 #[.int .i64 s.wd, .int .i64 s.ht, .int .i64 500, .slice (some ⟨g3, 0, none⟩) N k3] gridZ o3 o4 := hG.setP
          generalize v31.setRow (v27.heap.size) #[.int .i64 s.wd, .int .i64 s.ht, .int .i64 500, .slice (some ⟨g3, 0, none⟩) N k3] = w8 at hG2 ⊢
          clear hG
          refine ot3N hG2.below (ot3One ?_)
          apply StI_eff rfl
          refine wpList_store_rowTo rfl 36 _ _ rfl rfl (wd.heap.size) #[.int .i64 s.wd, .int .i64 s.ht, .int .i64 500, .slice (some ⟨g4, 0, none⟩) N k4] (by kernel_rfl) (by kernel_rfl) _ _ hG2.hq (by kernel_rfl) rfl (by simp [Value.oneCell']) ?_
          apply wpList_nil
          refine ot3N hG2.setQ.below (ot3Fin (StI_nil ?_))
          go_wp2_with fail
          go_meet
          exact ⟨_, _, g3, k3, g4, k4, o3, o4, rfl, rfl, HR3.out, HR4.out, hG2.setQ, nkt, nwd⟩
      · (apply wpOp_eff rfl; go_wp2_with (first | fail))
        have hI32 : Below wd.heap.size wd (v26.alloc (.cells #[.int .i64 0, .int .i64 0, .int .i64 0, .slice none 0 0] 36)) := hI26.alloc hI26.size _
        have hp32 : (v26.alloc (.cells #[.int .i64 0, .int .i64 0, .int .i64 0, .slice none 0 0] 36)).heap[v26.heap.size]? = some (.cells gridZ 36 (0, 0)) := heap_alloc_at v26 (.cells #[.int .i64 0, .int .i64 0, .int .i64 0, .slice none 0 0] 36)
        have hq32 := heap_alloc_off hq26 (.cells #[.int .i64 0, .int .i64 0, .int .i64 0, .slice none 0 0] 36)
        have npq32 : v26.heap.size ≠ wd.heap.size := by have := lt_of_heap hq26; omega
        have nnp32 : wd.heap.size ≤ v26.heap.size := hI26.size
        generalize (v26.alloc (.cells #[.int .i64 0, .int .i64 0, .int .i64 0, .slice none 0 0] 36)) = v32 at hI32 hp32 hq32 ⊢
        refine ot3N hI32 ?_
        refine ot3One (StI_nil ?_)
        (apply wpOp_eff rfl; go_wp2_with (first | (go_at_call 6; refine (hKn _ hI32).mono ?_; rintro e v33 ⟨g3, k3, o3, rfl, hg3, hk33, hro3, hb33⟩)))
        have HR3 := Lib.hid hro3
        clear hro3
        have nkp : g3 ≠ v26.heap.size := by have := lt_of_heap hp32; omega
        have nkq : g3 ≠ wd.heap.size := by have := lt_of_heap hq32; omega
        have hp33 := heap_below hb33 hp32
        have hq33 := heap_below hb33 hq32
        have hI33 : Below wd.heap.size wd v33 := below_mid hI32 (Nat.le_refl _) hb33
        refine ot3N hI33 ?_
        refine ot3One (StI_nil ?_)
        (apply wpOp_eff rfl; go_wp2_with (first | (go_at_call 7; refine (hTr _ hI33).mono ?_; rintro e v34 ⟨g4, k4, o4, rfl, hg4, ht34, hro4, hb34⟩)))
        have HR4 := Lib.hid hro4
        clear hro4
        have ntp : g4 ≠ v26.heap.size := by have := lt_of_heap hp33; omega
        have ntq : g4 ≠ wd.heap.size := by have := lt_of_heap hq33; omega
        have nkt : g3 ≠ g4 := by have := lt_of_heap hk33; omega
        have nwd : wd.heap.size ≤ g4 := by have := hI33.size; omega
        have hp34 := heap_below hb34 hp33
        have hq34 := heap_below hb34 hq33
        have hk34 := heap_below hb34 hk33
        have hI34 : Below wd.heap.size wd v34 := below_mid hI33 (Nat.le_refl _) hb34
        refine ot3N hI34 ?_
        refine ot3One ?_
        have hG := (⟨hp34, hq34, hk34, ht34, npq32, nkp, nkq, ntp, ntq, nnp32, nnq26, hI34⟩ : GS wd v34 (v26.heap.size) (wd.heap.size) g3 g4 gridZ gridZ o3 o4)
        clear hI26 hq26 hI32 hp32 hq32 hp33 hq33 hk33 hI33 hb33 hp34 hq34 hk34 ht34 hI34 hb34
        apply StI_eff rfl
        refine wpList_store_rowTo rfl 36 _ _ rfl rfl (v26.heap.size) #[.int .i64 s.wd, .int .i64 s.ht, .int .i64 500, .slice (some ⟨g3, 0, none⟩) N k3] (by kernel_rfl) (by kernel_rfl) _ _ hG.hp (by kernel_rfl) rfl (by simp [Value.oneCell']) ?_
        apply wpList_nil
        have hG2 : GS wd (v34.setRow (v26.heap.size) #[.int .i64 s.wd, .int .i64 s.ht, .int .i64 500, .slice (some ⟨g3, 0, none⟩) N k3]) (v26.heap.size) (wd.heap.size) g3 g4 #[.int .i64 s.wd, .int .i64 s.ht, .int .i64 500, .slice (some ⟨g3, 0, none⟩) N k3] gridZ o3 o4 := hG.setP
        generalize v34.setRow (v26.heap.size) #[.int .i64 s.wd, .int .i64 s.ht, .int .i64 500, .slice (some ⟨g3, 0, none⟩) N k3] = w8 at hG2 ⊢
        clear hG
        refine ot3N hG2.below (ot3One ?_)
        apply StI_eff rfl
        refine wpList_store_rowTo rfl 36 _ _ rfl rfl (wd.heap.size) #[.int .i64 s.wd, .int .i64 s.ht, .int .i64 500, .slice (some ⟨g4, 0, none⟩) N k4] (by kernel_rfl) (by kernel_rfl) _ _ hG2.hq (by kernel_rfl) rfl (by simp [Value.oneCell']) ?_
        apply wpList_nil
        refine ot3N hG2.setQ.below (ot3Fin (StI_nil ?_))
        go_wp2_with fail
        go_meet
        exact ⟨_, _, g3, k3, g4, k4, o3, o4, rfl, rfl, HR3.out, HR4.out, hG2.setQ, nkt, nwd⟩
  case rest =>
    obtain ⟨p3, p4, g3, k3, g4, k4, o3, o4, rfl, rfl, hR3, hR4, hG, nkt, nwd⟩ := hcut
    obtain ⟨hR3, kc3, rfl⟩ := hR3
    obtain ⟨hR4, kc4, rfl⟩ := hR4
    have nw4 : w.heap.size ≤ g4 := by have := Hhbw.out.size; omega
    clear nwd
    have gbx := heap_below hG.below Hhbx.out
    have gbl := bl_step Hhbw.out hG.below
    have ghp := hG.hp
    have ghq := hG.hq
    have ghk := hG.hk
    have ght := hG.ht
    obtain ⟨w1, hw1⟩ : ∃ x, wc = x := ⟨_, rfl⟩
    rw [hw1] at gbx gbl ghp ghq ghk ght ⊢
    clear hKn hTr hbc hbl Hhbx Hhbw hG hw1
    have hszw : w.heap.size < w1.heap.size := lt_of_heap gbx
    have HhR3 := Lib.hid hR3; clear hR3; have HhR4 := Lib.hid hR4; clear hR4; have Hgbx := Lib.hid gbx; clear gbx; have Hgbl := Lib.hid gbl; clear gbl; have Hghp := Lib.hid ghp; clear ghp; have Hghq := Lib.hid ghq; clear ghq; have Hghk := Lib.hid ghk; clear ghk; have Hght := Lib.hid ght; clear ght
    go_wp2_with fail
    refine (tspan_any _ _ _).mono ?_
    rintro e w2 ⟨rfl, hb2⟩
    go_wp2_with fail
    refine (tspan_any _ _ _).mono ?_
    rintro e w3 ⟨rfl, hb3⟩
    obtain ⟨p5, hp5⟩ : ∃ q, w1.heap.size = q := ⟨_, rfl⟩
    have hb4 : Below w1.heap.size w1 w3 := bl_step (bl_step (bl_alloc (Below.refl _ _) _) hb2) hb3
    have hcn : w3.heap[p5]? = some (.cells #[.int .i64 0] 3 (0, 0)) := heap_below hb3 (heap_below hb2 (heap_alloc_at' _ _ hp5.symm))
    have hM : BM w #[.int .u8 s.wide, .int .u8 s.high, .slice al s.low.length cl, .slice am s.more.length cm, .slice aw s.where_.length cw, .int .u8 cell, .int .u8 cr, .int .u8 st, .int .u8 we, .slice a5 ws.length c5, .int .u8 sp, .slice ah wh.length ch] (gridV s g3 N k3) (gridV s g4 N k4) p3 p4 g3 g4 p5 kc3 kc4 0 w3 := ⟨heap_below hb4 Hgbx.out, heap_below hb4 Hghp.out, heap_below hb4 Hghq.out, heap_below hb4 Hghk.out, heap_below hb4 Hght.out, hcn, by omega, bl_step Hgbl.out hb4⟩
    rw [hp5]
    clear hb2 hb3 hb4 hcn Hgbx Hghp Hghq Hghk Hght Hgbl
    have HhM := Lib.hid hM; clear hM
    go_upto_region 7 with fail
    have hM := HhM.out.step (bl_alloc (Below.refl _ _) (.cells #[.int .i64 2000, .int .i64 3000, .int .i64 500, .int .i64 700] 63))
    have h7 := heap_alloc_at w3 (.cells #[.int .i64 2000, .int .i64 3000, .int .i64 500, .int .i64 700] 63)
    obtain ⟨p7, hp7⟩ : ∃ q, w3.heap.size = q := ⟨_, rfl⟩
    rw [hp7] at h7 ⊢
    generalize w3.alloc (.cells #[.int .i64 2000, .int .i64 3000, .int .i64 500, .int .i64 700] 63) = w4 at hM h7 ⊢
    clear HhM hp7 hp5 hszw
    have hCh := fun (V : World) (lo hi n : Int) (hM : BM w #[.int .u8 s.wide, .int .u8 s.high, .slice al s.low.length cl, .slice am s.more.length cm, .slice aw s.where_.length cw, .int .u8 cell, .int .u8 cr, .int .u8 st, .int .u8 we, .slice a5 ws.length c5, .int .u8 sp, .slice ah wh.length ch] (gridV s g3 N k3) (gridV s g4 N k4) p3 p4 g3 g4 p5 kc3 kc4 n V) (n0 : 0 ≤ n) (n1 : n ≤ 1000) (hlh : lo ≤ hi) (b0 : -1000000000 ≤ lo) (b1 : hi ≤ 1000000000) => choose_any B _ _ _ _ _ _ _ _ _ _ _ wh ah ch lo hi n p5 w.heap.size V hM.box hM.cn n0 n1 (HhH.out.below (hM.below.mono hB)) Hhwh.out (by have := hM.lt5; omega) hlh b0 b1
    have HhM := Lib.hid hM; clear hM; have Hh7 := Lib.hid h7; clear h7; have HhCh := Lib.hid hCh; clear hCh
    go_cut [8] from 63 to 73 (fun v wx => ∃ p8 dr lg, v = .pointer (some ⟨p8, 0, none⟩) ∧ 2000 ≤ dr ∧ dr ≤ 3000 ∧ 500 ≤ lg ∧ lg ≤ 700 ∧ BM w #[.int .u8 s.wide, .int .u8 s.high, .slice al s.low.length cl, .slice am s.more.length cm, .slice aw s.where_.length cw, .int .u8 cell, .int .u8 cr, .int .u8 st, .int .u8 we, .slice a5 ws.length c5, .int .u8 sp, .slice ah wh.length ch] (gridV s g3 N k3) (gridV s g4 N k4) p3 p4 g3 g4 p5 kc3 kc4 2 wx ∧ wx.heap[p7]? = some (.cells #[.int .i64 2000, .int .i64 3000, .int .i64 500, .int .i64 700] 63 (0, 0)) ∧ wx.heap[p8]? = some (.cells #[.int .i64 dr, .int .i64 3000, .int .i64 lg, .int .i64 700] 63 (0, 0)))
    case first =>
      as_aux_lemma =>
      have hI : w4.drew.heap[p7]? = some (.cells #[.int .i64 2000, .int .i64 3000, .int .i64 500, .int .i64 700] 63 (0, 0)) := Hh7.out
      have hMd := HhM.out.step (show Below w4.heap.size w4 w4.drew from (Below.refl _ _).drew)
      refine wp_region_ordT (fun V => V.heap[p7]? = some (.cells #[.int .i64 2000, .int .i64 3000, .int .i64 500, .int .i64 700] 63 (0, 0))) (.two [0, 1, 2, 5, 6, 7] 3 (.two [] 4 (.two [] 8 (.two [] 9 (.one [10] 11 (.fin [] (some 12))) 11 (.one [] 9 (.fin [10] (some 12)))) 11 (.one [] 8 (.one [] 9 (.fin [10] (some 12))))) 11 (.one [] 4 (.one [] 8 (.one [] 9 (.fin [10] (some 12)))))) 11 (.one [] 3 (.one [] 4 (.one [] 8 (.one [] 9 (.fin [10] (some 12))))))) (by kernel_rfl) (by kernel_rfl) hI ?_
      refine otTwo ?_
      (apply StI_plain (w0 := w4.drew) hI rfl rfl rfl rfl; (focus (intro W hW K hK; have := cells_of hW; have := lt_of_heap hW; go_step; exact hK)); (focus rfl)); (apply StI_plain (w0 := w4.drew) hI rfl rfl rfl rfl; (focus (intro W hW K hK; have := cells_of hW; have := lt_of_heap hW; go_step; exact hK)); (focus rfl)); (apply StI_plain (w0 := w4.drew) hI rfl rfl rfl rfl; (focus (intro W hW K hK; have := cells_of hW; have := lt_of_heap hW; go_step; exact hK)); (focus rfl)); (apply StI_plain (w0 := w4.drew) hI rfl rfl rfl rfl; (focus (intro W hW K hK; have := cells_of hW; have := lt_of_heap hW; go_step; exact hK)); (focus rfl)); (apply StI_plain (w0 := w4.drew) hI rfl rfl rfl rfl; (focus (intro W hW K hK; have := cells_of hW; have := lt_of_heap hW; go_step; exact hK)); (focus rfl)); (apply StI_plain (w0 := w4.drew) hI rfl rfl rfl rfl; (focus (intro W hW K hK; have := cells_of hW; have := lt_of_heap hW; go_step; exact hK)); (focus rfl))
      refine StI_nil ⟨?_, ?_⟩
      · (apply wpOp_eff rfl; go_wp2_with (first | (go_at_call 14; refine Calls.mono (HhCh.out _ (2000) (3000) (0) hMd (by omega) (by omega) (by omega) (by omega) (by omega)) ?_; rintro e va1 ⟨xa1, rfl, loa1, hia1, hcna1, hka1⟩)))
        have hIa1 := keeps_other hka1 hMd.cn hI (by decide)
        have hMa1 := hMd.keeps hka1 hcna1
        refine otN hIa1 ?_
        refine otTwo ?_
        refine StI_nil ⟨?_, ?_⟩
        · (apply wpOp_eff rfl; go_wp2_with (first | (go_at_call 8; refine (tspan_any _ _ _).mono ?_; rintro e va2 ⟨rfl, hba2⟩)))
          have hIa2 := heap_below hba2 hIa1
          have hMa2 := hMa1.step hba2
          refine otN hIa2 ?_
          refine otTwo ?_
          refine StI_nil ⟨?_, ?_⟩
          · (apply wpOp_eff rfl; go_wp2_with (first | (go_at_call 14; refine Calls.mono (HhCh.out _ (500) (700) (1) hMa2 (by omega) (by omega) (by omega) (by omega) (by omega)) ?_; rintro e va3 ⟨xa3, rfl, loa3, hia3, hcna3, hka3⟩)))
            have hIa3 := keeps_other hka3 hMa2.cn hIa2 (by decide)
            have hMa3 := hMa2.keeps hka3 hcna3
            refine otN hIa3 ?_
            refine otTwo ?_
            refine StI_nil ⟨?_, ?_⟩
            · (apply wpOp_eff rfl; go_wp2_with (first | (go_at_call 8; refine (tspan_any _ _ _).mono ?_; rintro e va4 ⟨rfl, hba4⟩)))
              have hIa4 := heap_below hba4 hIa3
              have hMa4 := hMa3.step hba4
              refine otN hIa4 ?_
              refine otOne ?_
              (apply StI_plain (w0 := va4) hIa4 rfl rfl rfl rfl; (focus (intro W hW K hK; skip; go_step; exact hK)); (focus rfl))
              refine StI_nil ?_
              (apply wpOp_eff rfl; go_wp2_with (first | fail))
              have hbAa5 : Below va4.heap.size va4 (va4.alloc (.cells #[.int .i64 0, .int .i64 0, .int .i64 0, .int .i64 0] 63)) := bl_alloc (Below.refl _ _) _
              have hIa5 := heap_below hbAa5 hIa4
              have hMa5 := hMa4.step hbAa5
              have hAa5 := heap_alloc_at va4 (.cells #[.int .i64 0, .int .i64 0, .int .i64 0, .int .i64 0] 63)
              have hgea5 := hMa4.below.size
              generalize (va4.alloc (.cells #[.int .i64 0, .int .i64 0, .int .i64 0, .int .i64 0] 63)) = va5 at hIa5 hMa5 hAa5 ⊢
              clear hbAa5
              refine otN hIa5 ?_
              refine otSnkI ?_
              apply StI_eff rfl
              refine wpList_store_rowTo rfl 63 _ _ rfl rfl (va4.heap.size) #[.int .i64 xa1, .int .i64 3000, .int .i64 xa3, .int .i64 700] (by kernel_rfl) (by kernel_rfl) _ _ hAa5 (by kernel_rfl) rfl (by simp [Value.oneCell']) ?_
              apply wpList_nil
              refine onNormal_last ?_
              go_wp2_with fail
              go_meet
              have hfin := setRow_heap va5 (va4.heap.size) _ #[.int .i64 xa1, .int .i64 3000, .int .i64 xa3, .int .i64 700] _ _ hAa5
              exact ⟨_, _, _, rfl, by assumption, by assumption, by assumption, by assumption, brow hMa5 hAa5 (by decide) hgea5 #[.int .i64 xa1, .int .i64 3000, .int .i64 xa3, .int .i64 700], (setRow_other _ _ _ _ (fun e => by have := hIa5; rw [e, hAa5] at this; cases this)).trans hIa5, hfin⟩
            · (apply wpOp_eff rfl; go_wp2_with (first | fail))
              have hbAa6 : Below va3.heap.size va3 (va3.alloc (.cells #[.int .i64 0, .int .i64 0, .int .i64 0, .int .i64 0] 63)) := bl_alloc (Below.refl _ _) _
              have hIa6 := heap_below hbAa6 hIa3
              have hMa6 := hMa3.step hbAa6
              have hAa6 := heap_alloc_at va3 (.cells #[.int .i64 0, .int .i64 0, .int .i64 0, .int .i64 0] 63)
              have hgea6 := hMa3.below.size
              generalize (va3.alloc (.cells #[.int .i64 0, .int .i64 0, .int .i64 0, .int .i64 0] 63)) = va6 at hIa6 hMa6 hAa6 ⊢
              clear hbAa6
              refine otN hIa6 ?_
              refine otOne ?_
              refine StI_nil ?_
              (apply wpOp_eff rfl; go_wp2_with (first | (go_at_call 8; refine (tspan_any _ _ _).mono ?_; rintro e va7 ⟨rfl, hba7⟩)))
              have hIa7 := heap_below hba7 hIa6
              have hMa7 := hMa6.step hba7
              have hAa7 := heap_below hba7 hAa6
              refine otN hIa7 ?_
              refine otSnkI ?_
              (apply StI_plain (w0 := va7) hIa7 rfl rfl rfl rfl; (focus (intro W hW K hK; skip; go_step; exact hK)); (focus rfl))
              apply StI_eff rfl
              refine wpList_store_rowTo rfl 63 _ _ rfl rfl (va3.heap.size) #[.int .i64 xa1, .int .i64 3000, .int .i64 xa3, .int .i64 700] (by kernel_rfl) (by kernel_rfl) _ _ hAa7 (by kernel_rfl) rfl (by simp [Value.oneCell']) ?_
              apply wpList_nil
              refine onNormal_last ?_
              go_wp2_with fail
              go_meet
              have hfin := setRow_heap va7 (va3.heap.size) _ #[.int .i64 xa1, .int .i64 3000, .int .i64 xa3, .int .i64 700] _ _ hAa7
              exact ⟨_, _, _, rfl, by assumption, by assumption, by assumption, by assumption, brow hMa7 hAa7 (by decide) hgea6 #[.int .i64 xa1, .int .i64 3000, .int .i64 xa3, .int .i64 700], (setRow_other _ _ _ _ (fun e => by have := hIa7; rw [e, hAa7] at this; cases this)).trans hIa7, hfin⟩
          · (apply wpOp_eff rfl; go_wp2_with (first | fail))
            have hbAa8 : Below va2.heap.size va2 (va2.alloc (.cells #[.int .i64 0, .int .i64 0, .int .i64 0, .int .i64 0] 63)) := bl_alloc (Below.refl _ _) _
            have hIa8 := heap_below hbAa8 hIa2
            have hMa8 := hMa2.step hbAa8
            have hAa8 := heap_alloc_at va2 (.cells #[.int .i64 0, .int .i64 0, .int .i64 0, .int .i64 0] 63)
            have hgea8 := hMa2.below.size
            generalize (va2.alloc (.cells #[.int .i64 0, .int .i64 0, .int .i64 0, .int .i64 0] 63)) = va8 at hIa8 hMa8 hAa8 ⊢
            clear hbAa8
            refine otN hIa8 ?_
            refine otOne ?_
            refine StI_nil ?_
            (apply wpOp_eff rfl; go_wp2_with (first | (go_at_call 14; refine Calls.mono (HhCh.out _ (500) (700) (1) hMa8 (by omega) (by omega) (by omega) (by omega) (by omega)) ?_; rintro e va9 ⟨xa9, rfl, loa9, hia9, hcna9, hka9⟩)))
            have hIa9 := keeps_other hka9 hMa8.cn hIa8 (by decide)
            have hMa9 := hMa8.keeps hka9 hcna9
            have hAa9 := keeps_other hka9 hMa8.cn hAa8 (by decide)
            refine otN hIa9 ?_
            refine otOne ?_
            refine StI_nil ?_
            (apply wpOp_eff rfl; go_wp2_with (first | (go_at_call 8; refine (tspan_any _ _ _).mono ?_; rintro e va10 ⟨rfl, hba10⟩)))
            have hIa10 := heap_below hba10 hIa9
            have hMa10 := hMa9.step hba10
            have hAa10 := heap_below hba10 hAa9
            refine otN hIa10 ?_
            refine otSnkI ?_
            (apply StI_plain (w0 := va10) hIa10 rfl rfl rfl rfl; (focus (intro W hW K hK; skip; go_step; exact hK)); (focus rfl))
            apply StI_eff rfl
            refine wpList_store_rowTo rfl 63 _ _ rfl rfl (va2.heap.size) #[.int .i64 xa1, .int .i64 3000, .int .i64 xa9, .int .i64 700] (by kernel_rfl) (by kernel_rfl) _ _ hAa10 (by kernel_rfl) rfl (by simp [Value.oneCell']) ?_
            apply wpList_nil
            refine onNormal_last ?_
            go_wp2_with fail
            go_meet
            have hfin := setRow_heap va10 (va2.heap.size) _ #[.int .i64 xa1, .int .i64 3000, .int .i64 xa9, .int .i64 700] _ _ hAa10
            exact ⟨_, _, _, rfl, by assumption, by assumption, by assumption, by assumption, brow hMa10 hAa10 (by decide) hgea8 #[.int .i64 xa1, .int .i64 3000, .int .i64 xa9, .int .i64 700], (setRow_other _ _ _ _ (fun e => by have := hIa10; rw [e, hAa10] at this; cases this)).trans hIa10, hfin⟩
        · (apply wpOp_eff rfl; go_wp2_with (first | fail))
          have hbAa11 : Below va1.heap.size va1 (va1.alloc (.cells #[.int .i64 0, .int .i64 0, .int .i64 0, .int .i64 0] 63)) := bl_alloc (Below.refl _ _) _
          have hIa11 := heap_below hbAa11 hIa1
          have hMa11 := hMa1.step hbAa11
          have hAa11 := heap_alloc_at va1 (.cells #[.int .i64 0, .int .i64 0, .int .i64 0, .int .i64 0] 63)
          have hgea11 := hMa1.below.size
          generalize (va1.alloc (.cells #[.int .i64 0, .int .i64 0, .int .i64 0, .int .i64 0] 63)) = va11 at hIa11 hMa11 hAa11 ⊢
          clear hbAa11
          refine otN hIa11 ?_
          refine otOne ?_
          refine StI_nil ?_
          (apply wpOp_eff rfl; go_wp2_with (first | (go_at_call 8; refine (tspan_any _ _ _).mono ?_; rintro e va12 ⟨rfl, hba12⟩)))
          have hIa12 := heap_below hba12 hIa11
          have hMa12 := hMa11.step hba12
          have hAa12 := heap_below hba12 hAa11
          refine otN hIa12 ?_
          refine otOne ?_
          refine StI_nil ?_
          (apply wpOp_eff rfl; go_wp2_with (first | (go_at_call 14; refine Calls.mono (HhCh.out _ (500) (700) (1) hMa12 (by omega) (by omega) (by omega) (by omega) (by omega)) ?_; rintro e va13 ⟨xa13, rfl, loa13, hia13, hcna13, hka13⟩)))
          have hIa13 := keeps_other hka13 hMa12.cn hIa12 (by decide)
          have hMa13 := hMa12.keeps hka13 hcna13
          have hAa13 := keeps_other hka13 hMa12.cn hAa12 (by decide)
          refine otN hIa13 ?_
          refine otOne ?_
          refine StI_nil ?_
          (apply wpOp_eff rfl; go_wp2_with (first | (go_at_call 8; refine (tspan_any _ _ _).mono ?_; rintro e va14 ⟨rfl, hba14⟩)))
          have hIa14 := heap_below hba14 hIa13
          have hMa14 := hMa13.step hba14
          have hAa14 := heap_below hba14 hAa13
          refine otN hIa14 ?_
          refine otSnkI ?_
          (apply StI_plain (w0 := va14) hIa14 rfl rfl rfl rfl; (focus (intro W hW K hK; skip; go_step; exact hK)); (focus rfl))
          apply StI_eff rfl
          refine wpList_store_rowTo rfl 63 _ _ rfl rfl (va1.heap.size) #[.int .i64 xa1, .int .i64 3000, .int .i64 xa13, .int .i64 700] (by kernel_rfl) (by kernel_rfl) _ _ hAa14 (by kernel_rfl) rfl (by simp [Value.oneCell']) ?_
          apply wpList_nil
          refine onNormal_last ?_
          go_wp2_with fail
          go_meet
          have hfin := setRow_heap va14 (va1.heap.size) _ #[.int .i64 xa1, .int .i64 3000, .int .i64 xa13, .int .i64 700] _ _ hAa14
          exact ⟨_, _, _, rfl, by assumption, by assumption, by assumption, by assumption, brow hMa14 hAa14 (by decide) hgea11 #[.int .i64 xa1, .int .i64 3000, .int .i64 xa13, .int .i64 700], (setRow_other _ _ _ _ (fun e => by have := hIa14; rw [e, hAa14] at this; cases this)).trans hIa14, hfin⟩
      · (apply wpOp_eff rfl; go_wp2_with (first | fail))
        have hbAa15 : Below w4.heap.size w4 (w4.alloc (.cells #[.int .i64 0, .int .i64 0, .int .i64 0, .int .i64 0] 63)).drew := ((Below.refl _ _).alloc (Nat.le_refl _) _).drew
        have hIa15 := heap_below hbAa15 Hh7.out
        have hMa15 := HhM.out.step hbAa15
        have hAa15 := heap_drew' (heap_alloc_at w4 (.cells #[.int .i64 0, .int .i64 0, .int .i64 0, .int .i64 0] 63))
        have hgea15 := HhM.out.below.size
        generalize (w4.alloc (.cells #[.int .i64 0, .int .i64 0, .int .i64 0, .int .i64 0] 63)).drew = va15 at hIa15 hMa15 hAa15 ⊢
        clear hbAa15
        refine otN hIa15 ?_
        refine otOne ?_
        refine StI_nil ?_
        (apply wpOp_eff rfl; go_wp2_with (first | (go_at_call 14; refine Calls.mono (HhCh.out _ (2000) (3000) (0) hMa15 (by omega) (by omega) (by omega) (by omega) (by omega)) ?_; rintro e va16 ⟨xa16, rfl, loa16, hia16, hcna16, hka16⟩)))
        have hIa16 := keeps_other hka16 hMa15.cn hIa15 (by decide)
        have hMa16 := hMa15.keeps hka16 hcna16
        have hAa16 := keeps_other hka16 hMa15.cn hAa15 (by decide)
        refine otN hIa16 ?_
        refine otOne ?_
        refine StI_nil ?_
        (apply wpOp_eff rfl; go_wp2_with (first | (go_at_call 8; refine (tspan_any _ _ _).mono ?_; rintro e va17 ⟨rfl, hba17⟩)))
        have hIa17 := heap_below hba17 hIa16
        have hMa17 := hMa16.step hba17
        have hAa17 := heap_below hba17 hAa16
        refine otN hIa17 ?_
        refine otOne ?_
        refine StI_nil ?_
        (apply wpOp_eff rfl; go_wp2_with (first | (go_at_call 14; refine Calls.mono (HhCh.out _ (500) (700) (1) hMa17 (by omega) (by omega) (by omega) (by omega) (by omega)) ?_; rintro e va18 ⟨xa18, rfl, loa18, hia18, hcna18, hka18⟩)))
        have hIa18 := keeps_other hka18 hMa17.cn hIa17 (by decide)
        have hMa18 := hMa17.keeps hka18 hcna18
        have hAa18 := keeps_other hka18 hMa17.cn hAa17 (by decide)
        refine otN hIa18 ?_
        refine otOne ?_
        refine StI_nil ?_
        (apply wpOp_eff rfl; go_wp2_with (first | (go_at_call 8; refine (tspan_any _ _ _).mono ?_; rintro e va19 ⟨rfl, hba19⟩)))
        have hIa19 := heap_below hba19 hIa18
        have hMa19 := hMa18.step hba19
        have hAa19 := heap_below hba19 hAa18
        refine otN hIa19 ?_
        refine otSnkI ?_
        (apply StI_plain (w0 := va19) hIa19 rfl rfl rfl rfl; (focus (intro W hW K hK; skip; go_step; exact hK)); (focus rfl))
        apply StI_eff rfl
        refine wpList_store_rowTo rfl 63 _ _ rfl rfl (w4.heap.size) #[.int .i64 xa16, .int .i64 3000, .int .i64 xa18, .int .i64 700] (by kernel_rfl) (by kernel_rfl) _ _ hAa19 (by kernel_rfl) rfl (by simp [Value.oneCell']) ?_
        apply wpList_nil
        refine onNormal_last ?_
        go_wp2_with fail
        go_meet
        have hfin := setRow_heap va19 (w4.heap.size) _ #[.int .i64 xa16, .int .i64 3000, .int .i64 xa18, .int .i64 700] _ _ hAa19
        exact ⟨_, _, _, rfl, by assumption, by assumption, by assumption, by assumption, brow hMa19 hAa19 (by decide) hgea15 #[.int .i64 xa16, .int .i64 3000, .int .i64 xa18, .int .i64 700], (setRow_other _ _ _ _ (fun e => by have := hIa19; rw [e, hAa19] at this; cases this)).trans hIa19, hfin⟩
    case rest =>
    obtain ⟨p8, dr, lg, rfl, dr0, dr1, lg0, lg1, hM, h7, h8⟩ := hcut
    obtain ⟨w5, hw5⟩ : ∃ x, wc = x := ⟨_, rfl⟩
    rw [hw5] at hM h7 h8 ⊢
    clear hw5 HhM Hh7
    have hbc := cells_of hM.box
    have hbl := lt_of_heap hM.box
    have l7 := lt_of_heap h7
    have l8 := lt_of_heap h8
    have HhM := Lib.hid hM; clear hM; have Hh7 := Lib.hid h7; clear h7; have Hh8 := Lib.hid h8; clear h8
    go_wp2_with fail
    go_loopw [9, 10, 77] (fun a b i wr => WindI w w5 #[.int .u8 s.wide, .int .u8 s.high, .slice al s.low.length cl, .slice am s.more.length cm, .slice aw s.where_.length cw, .int .u8 cell, .int .u8 cr, .int .u8 st, .int .u8 we, .slice a5 ws.length c5, .int .u8 sp, .slice ah wh.length ch] (gridV s g3 N k3) (gridV s g4 N k4) p3 p4 g3 g4 p5 kc3 kc4 p7 p8 #[.int .i64 2000, .int .i64 3000, .int .i64 500, .int .i64 700] #[.int .i64 dr, .int .i64 3000, .int .i64 lg, .int .i64 700] ws a b i wr) (fun _ _ i _ => ws.length - (intOf i).toNat)
    case atStart => exact ⟨0, _, _, 2, [], Nat.zero_le _, rfl, rfl, rfl, by omega, by omega, HhM.out, Hh7.out, Hh8.out, World.ownsRow_nil _ _ _ _, World.ownsRow_nil _ _ _ _, (fun g hg => by cases hg), rfl, by simp, .nil, Nat.le_refl _⟩
    case round =>
      obtain ⟨k, v1, v2, cnt, tl, hk, rfl, rfl, rfl, cnt0, cnt1, hM, h7, h8, r1, r2, sep, htl, hok, htw, hsz⟩ := hrel
      by_cases hlt : k < ws.length
      · as_aux_lemma =>
        obtain ⟨b, off, rfl, hbB, he⟩ := (HhW.out.below (ek_u8 B) (hM.below.mono hB)).2 k hlt
        have hx := Hhws.out _ (List.getElem_mem hlt)
        have htk : (ws.take (k + 1)).map windOf = (ws.take k).map windOf ++ [windOf ws[k]] := by rw [List.take_succ_eq_append_getElem hlt, List.map_append]; rfl
        have hwok := windOf_ok hx
        obtain ⟨x, hxx⟩ : ∃ x, ws[k] = x := ⟨_, rfl⟩
        rw [hxx] at he hx htk hwok
        have hwind : windOf x = ⟨(x.a * 20, x.a * 20 + x.b * 8), max 1 x.c, (0, x.b * 10)⟩ := rfl
        obtain ⟨xa, xb, xc⟩ := x
        obtain ⟨e0, e1, e2⟩ := he
        obtain ⟨x0, x1, x2, x3, x4, x5⟩ := hx
        simp only at e0 e1 e2 x0 x1 x2 x3 x4 x5 hwind
        have hbw5 : b < wr.heap.size := World.block_lt_of_cell? wr _ e0
        obtain ⟨A0, hA0⟩ : ∃ z, xa * 20 = z := ⟨_, rfl⟩
        obtain ⟨A2, hA2⟩ : ∃ z, xb * 8 = z := ⟨_, rfl⟩
        obtain ⟨A1, hA1⟩ : ∃ z, A0 + A2 = z := ⟨_, rfl⟩
        obtain ⟨D, hD⟩ : ∃ z, max 1 xc = z := ⟨_, rfl⟩
        obtain ⟨L, hL⟩ : ∃ z, xb * 10 = z := ⟨_, rfl⟩
        rw [hA0, hA2, hA1, hD, hL] at hwind
        rw [hwind] at htk hwok
        clear hwind hxx
        have Hhok := Lib.hid hok; clear hok; have Hhtw := Lib.hid htw; clear htw; have Hhtk := Lib.hid htk; clear htk; have Hhwok := Lib.hid hwok; clear hwok
        go_upto_region 12 with fail
        have hM6 := hM.step (bl_alloc (Below.refl _ _) (.cells #[.int .u8 xa, .int .u8 xb, .int .u8 xc] 65))
        have h76 := heap_alloc_off h7 (.cells #[.int .u8 xa, .int .u8 xb, .int .u8 xc] 65)
        have h86 := heap_alloc_off h8 (.cells #[.int .u8 xa, .int .u8 xb, .int .u8 xc] 65)
        have r16 := r1.alloc (.cells #[.int .u8 xa, .int .u8 xb, .int .u8 xc] 65)
        have r26 := r2.alloc (.cells #[.int .u8 xa, .int .u8 xb, .int .u8 xc] 65)
        have z12 := heap_alloc_at wr (.cells #[.int .u8 xa, .int .u8 xb, .int .u8 xc] 65)
        have hsz6 : w5.heap.size ≤ (wr.alloc (.cells #[.int .u8 xa, .int .u8 xb, .int .u8 xc] 65)).heap.size := by simp; omega
        obtain ⟨q12, hq12⟩ : ∃ q, wr.heap.size = q := ⟨_, rfl⟩
        rw [hq12] at z12 ⊢
        generalize wr.alloc (.cells #[.int .u8 xa, .int .u8 xb, .int .u8 xc] 65) = w6 at hM6 h76 h86 r16 r26 z12 hsz6 ⊢
        clear hM h7 h8 r1 r2 hq12
        have z12c := cells_of z12
        have z12l := lt_of_heap z12
        have HhM6 := Lib.hid hM6; clear hM6; have Hh76 := Lib.hid h76; clear h76; have Hh86 := Lib.hid h86; clear h86; have Hr16 := Lib.hid r16; clear r16; have Hr26 := Lib.hid r26; clear r26; have Hsep := Lib.hid sep; clear sep; have Hz12 := Lib.hid z12; clear z12
        go_cut [13] from 81 to 104 (fun v wx => ∃ q, v = .pointer (some ⟨q, 0, none⟩) ∧ w6.heap.size ≤ q ∧ wx.heap[q]? = some (.cells #[.int .i64 A0, .int .i64 A1, .int .i64 D, .int .i64 0, .int .i64 L] 67 (0, 0)) ∧ Below w6.heap.size w6 wx)
        case first =>
          have hI : Below w6.heap.size w6 w6.drew := (Below.refl _ _).drew
          refine wp_region_ordT (fun V => Below w6.heap.size w6 V) (.two [0, 1, 2, 3, 4, 5, 6, 7, 8, 9, 10, 11, 12, 14, 15, 16, 17, 18, 19, 20, 21] 13 (.two [] 22 (.one [23] 24 (.fin [] (some 25))) 24 (.one [] 22 (.fin [23] (some 25)))) 24 (.one [] 13 (.one [] 22 (.fin [23] (some 25))))) (by kernel_rfl) (by kernel_rfl) hI ?_
          refine otTwo ?_
          (apply StI_plain (w0 := w6.drew) hI rfl rfl rfl rfl; (focus (intro W hW K hK; obtain ⟨_, _⟩ := bk q12 hW z12l; go_step; exact hK)); (focus rfl)); (apply StI_plain (w0 := w6.drew) hI rfl rfl rfl rfl; (focus (intro W hW K hK; obtain ⟨_, _⟩ := bk q12 hW z12l; go_step; exact hK)); (focus rfl)); (apply StI_plain (w0 := w6.drew) hI rfl rfl rfl rfl; (focus (intro W hW K hK; obtain ⟨_, _⟩ := bk q12 hW z12l; go_step; exact hK)); (focus rfl)); (apply StI_plain (w0 := w6.drew) hI rfl rfl rfl rfl; (focus (intro W hW K hK; obtain ⟨_, _⟩ := bk q12 hW z12l; go_step; exact hK)); (focus rfl)); (apply StI_plain (w0 := w6.drew) hI rfl rfl rfl rfl; (focus (intro W hW K hK; obtain ⟨_, _⟩ := bk q12 hW z12l; go_step; exact hK)); (focus rfl)); (apply StI_plain (w0 := w6.drew) hI rfl rfl rfl rfl; (focus (intro W hW K hK; obtain ⟨_, _⟩ := bk q12 hW z12l; go_step; exact hK)); (focus rfl)); (apply StI_plain (w0 := w6.drew) hI rfl rfl rfl rfl; (focus (intro W hW K hK; obtain ⟨_, _⟩ := bk q12 hW z12l; go_step; exact hK)); (focus rfl)); (apply StI_plain (w0 := w6.drew) hI rfl rfl rfl rfl; (focus (intro W hW K hK; obtain ⟨_, _⟩ := bk q12 hW z12l; go_step; exact hK)); (focus rfl)); (apply StI_plain (w0 := w6.drew) hI rfl rfl rfl rfl; (focus (intro W hW K hK; obtain ⟨_, _⟩ := bk q12 hW z12l; go_step; exact hK)); (focus rfl)); (apply StI_plain (w0 := w6.drew) hI rfl rfl rfl rfl; (focus (intro W hW K hK; obtain ⟨_, _⟩ := bk q12 hW z12l; go_step; exact hK)); (focus rfl)); (apply StI_plain (w0 := w6.drew) hI rfl rfl rfl rfl; (focus (intro W hW K hK; obtain ⟨_, _⟩ := bk q12 hW z12l; go_step; exact hK)); (focus rfl)); (apply StI_plain (w0 := w6.drew) hI rfl rfl rfl rfl; (focus (intro W hW K hK; obtain ⟨_, _⟩ := bk q12 hW z12l; go_step; exact hK)); (focus rfl)); (apply StI_plain (w0 := w6.drew) hI rfl rfl rfl rfl; (focus (intro W hW K hK; obtain ⟨_, _⟩ := bk q12 hW z12l; go_step; exact hK)); (focus rfl)); (apply StI_plain (w0 := w6.drew) hI rfl rfl rfl rfl; (focus (intro W hW K hK; obtain ⟨_, _⟩ := bk q12 hW z12l; go_step; exact hK)); (focus rfl)); (apply StI_plain (w0 := w6.drew) hI rfl rfl rfl rfl; (focus (intro W hW K hK; obtain ⟨_, _⟩ := bk q12 hW z12l; go_step; exact hK)); (focus rfl)); (apply StI_plain (w0 := w6.drew) hI rfl rfl rfl rfl; (focus (intro W hW K hK; obtain ⟨_, _⟩ := bk q12 hW z12l; go_step; exact hK)); (focus rfl)); (apply StI_plain (w0 := w6.drew) hI rfl rfl rfl rfl; (focus (intro W hW K hK; obtain ⟨_, _⟩ := bk q12 hW z12l; go_step; exact hK)); (focus rfl)); (apply StI_plain (w0 := w6.drew) hI rfl rfl rfl rfl; (focus (intro W hW K hK; obtain ⟨_, _⟩ := bk q12 hW z12l; go_step; exact hK)); (focus rfl)); (apply StI_plain (w0 := w6.drew) hI rfl rfl rfl rfl; (focus (intro W hW K hK; obtain ⟨_, _⟩ := bk q12 hW z12l; go_step; exact hK)); (focus rfl)); (apply StI_plain (w0 := w6.drew) hI rfl rfl rfl rfl; (focus (intro W hW K hK; obtain ⟨_, _⟩ := bk q12 hW z12l; go_step; exact hK)); (focus rfl)); (apply StI_plain (w0 := w6.drew) hI rfl rfl rfl rfl; (focus (intro W hW K hK; obtain ⟨_, _⟩ := bk q12 hW z12l; go_step; exact hK)); (focus rfl))
          refine StI_nil ⟨?_, ?_⟩
          · (apply wpOp_eff rfl; go_wp2_with (first | (go_at_call 8; refine (tspan_any _ _ _).mono ?_; rintro e vb1 ⟨rfl, hbb1⟩)))
            have hIb1 := below_mid hI (Nat.le_refl _) hbb1
            refine otN hIb1 ?_
            refine otTwo ?_
            refine StI_nil ⟨?_, ?_⟩
            · (apply wpOp_eff rfl; go_wp2_with (first | (go_at_call 8; refine (tspan_any _ _ _).mono ?_; rintro e vb2 ⟨rfl, hbb2⟩)))
              have hIb2 := below_mid hIb1 (Nat.le_refl _) hbb2
              refine otN hIb2 ?_
              refine otOne ?_
              (apply StI_plain (w0 := vb2) hIb2 rfl rfl rfl rfl; (focus (intro W hW K hK; skip; go_step; exact hK)); (focus rfl))
              refine StI_nil ?_
              (apply wpOp_eff rfl; go_wp2_with (first | fail))
              have hbAb3 : Below vb2.heap.size vb2 (vb2.alloc (.cells #[.int .i64 0, .int .i64 0, .int .i64 0, .int .i64 0, .int .i64 0] 67)) := bl_alloc (Below.refl _ _) _
              have hIb3 := hIb2.trans (hbAb3.mono hIb2.size)
              have hAb3 := heap_alloc_at vb2 (.cells #[.int .i64 0, .int .i64 0, .int .i64 0, .int .i64 0, .int .i64 0] 67)
              have hgeb3 := hIb2.size
              generalize (vb2.alloc (.cells #[.int .i64 0, .int .i64 0, .int .i64 0, .int .i64 0, .int .i64 0] 67)) = vb3 at hIb3 hAb3 ⊢
              clear hbAb3
              refine otN hIb3 ?_
              refine otSnkI ?_
              apply StI_eff rfl
              refine wpList_store_rowTo rfl 67 _ _ rfl rfl (vb2.heap.size) #[.int .i64 A0, .int .i64 A1, .int .i64 D, .int .i64 0, .int .i64 L] (by kernel_rfl) (by kernel_rfl) _ _ hAb3 (by kernel_rfl) rfl (by simp [Value.oneCell']) ?_
              apply wpList_nil
              refine onNormal_last ?_
              go_wp2_with fail
              go_meet
              exact ⟨_, rfl, hgeb3, setRow_heap vb3 (vb2.heap.size) _ #[.int .i64 A0, .int .i64 A1, .int .i64 D, .int .i64 0, .int .i64 L] _ _ hAb3, below_setRow hIb3 hgeb3 #[.int .i64 A0, .int .i64 A1, .int .i64 D, .int .i64 0, .int .i64 L]⟩
            · (apply wpOp_eff rfl; go_wp2_with (first | fail))
              have hbAb4 : Below vb1.heap.size vb1 (vb1.alloc (.cells #[.int .i64 0, .int .i64 0, .int .i64 0, .int .i64 0, .int .i64 0] 67)) := bl_alloc (Below.refl _ _) _
              have hIb4 := hIb1.trans (hbAb4.mono hIb1.size)
              have hAb4 := heap_alloc_at vb1 (.cells #[.int .i64 0, .int .i64 0, .int .i64 0, .int .i64 0, .int .i64 0] 67)
              have hgeb4 := hIb1.size
              generalize (vb1.alloc (.cells #[.int .i64 0, .int .i64 0, .int .i64 0, .int .i64 0, .int .i64 0] 67)) = vb4 at hIb4 hAb4 ⊢
              clear hbAb4
              refine otN hIb4 ?_
              refine otOne ?_
              refine StI_nil ?_
              (apply wpOp_eff rfl; go_wp2_with (first | (go_at_call 8; refine (tspan_any _ _ _).mono ?_; rintro e vb5 ⟨rfl, hbb5⟩)))
              have hIb5 := below_mid hIb4 (Nat.le_refl _) hbb5
              have hAb5 := heap_below hbb5 hAb4
              refine otN hIb5 ?_
              refine otSnkI ?_
              (apply StI_plain (w0 := vb5) hIb5 rfl rfl rfl rfl; (focus (intro W hW K hK; skip; go_step; exact hK)); (focus rfl))
              apply StI_eff rfl
              refine wpList_store_rowTo rfl 67 _ _ rfl rfl (vb1.heap.size) #[.int .i64 A0, .int .i64 A1, .int .i64 D, .int .i64 0, .int .i64 L] (by kernel_rfl) (by kernel_rfl) _ _ hAb5 (by kernel_rfl) rfl (by simp [Value.oneCell']) ?_
              apply wpList_nil
              refine onNormal_last ?_
              go_wp2_with fail
              go_meet
              exact ⟨_, rfl, hgeb4, setRow_heap vb5 (vb1.heap.size) _ #[.int .i64 A0, .int .i64 A1, .int .i64 D, .int .i64 0, .int .i64 L] _ _ hAb5, below_setRow hIb5 hgeb4 #[.int .i64 A0, .int .i64 A1, .int .i64 D, .int .i64 0, .int .i64 L]⟩
          · (apply wpOp_eff rfl; go_wp2_with (first | fail))
            have hbAb6 : Below w6.heap.size w6 (w6.alloc (.cells #[.int .i64 0, .int .i64 0, .int .i64 0, .int .i64 0, .int .i64 0] 67)).drew := ((Below.refl _ _).alloc (Nat.le_refl _) _).drew
            have hIb6 := (Below.refl w6.heap.size w6).trans (hbAb6.mono (Below.refl w6.heap.size w6).size)
            have hAb6 := heap_drew' (heap_alloc_at w6 (.cells #[.int .i64 0, .int .i64 0, .int .i64 0, .int .i64 0, .int .i64 0] 67))
            have hgeb6 := Nat.le_refl w6.heap.size
            generalize (w6.alloc (.cells #[.int .i64 0, .int .i64 0, .int .i64 0, .int .i64 0, .int .i64 0] 67)).drew = vb6 at hIb6 hAb6 ⊢
            clear hbAb6
            refine otN hIb6 ?_
            refine otOne ?_
            refine StI_nil ?_
            (apply wpOp_eff rfl; go_wp2_with (first | (go_at_call 8; refine (tspan_any _ _ _).mono ?_; rintro e vb7 ⟨rfl, hbb7⟩)))
            have hIb7 := below_mid hIb6 (Nat.le_refl _) hbb7
            have hAb7 := heap_below hbb7 hAb6
            refine otN hIb7 ?_
            refine otOne ?_
            refine StI_nil ?_
            (apply wpOp_eff rfl; go_wp2_with (first | (go_at_call 8; refine (tspan_any _ _ _).mono ?_; rintro e vb8 ⟨rfl, hbb8⟩)))
            have hIb8 := below_mid hIb7 (Nat.le_refl _) hbb8
            have hAb8 := heap_below hbb8 hAb7
            refine otN hIb8 ?_
            refine otSnkI ?_
            (apply StI_plain (w0 := vb8) hIb8 rfl rfl rfl rfl; (focus (intro W hW K hK; skip; go_step; exact hK)); (focus rfl))
            apply StI_eff rfl
            refine wpList_store_rowTo rfl 67 _ _ rfl rfl (w6.heap.size) #[.int .i64 A0, .int .i64 A1, .int .i64 D, .int .i64 0, .int .i64 L] (by kernel_rfl) (by kernel_rfl) _ _ hAb8 (by kernel_rfl) rfl (by simp [Value.oneCell']) ?_
            apply wpList_nil
            refine onNormal_last ?_
            go_wp2_with fail
            go_meet
            exact ⟨_, rfl, hgeb6, setRow_heap vb8 (w6.heap.size) _ #[.int .i64 A0, .int .i64 A1, .int .i64 D, .int .i64 0, .int .i64 L] _ _ hAb8, below_setRow hIb8 hgeb6 #[.int .i64 A0, .int .i64 A1, .int .i64 D, .int .i64 0, .int .i64 L]⟩
        case rest =>
          obtain ⟨q13, rfl, hq13, hx13, hb13⟩ := hcut
          have hM7 := HhM6.out.step hb13
          have h77 := heap_below hb13 Hh76.out
          have h87 := heap_below hb13 Hh86.out
          have r17 := Hr16.out.kept (below_grown hb13) (by cases v1.ownBlock <;> simp)
          have r27 := Hr26.out.kept (below_grown hb13) (by cases v2.ownBlock <;> simp)
          have t13a : ∀ g, v1.ownBlock = some g → g ≠ q13 := fun g hg => by have := (Hr16.out.lt g hg).2; omega
          have t13b : ∀ g, v2.ownBlock = some g → g ≠ q13 := fun g hg => by have := (Hr26.out.lt g hg).2; omega
          have hsz7 : w5.heap.size ≤ wc.heap.size := by have := hb13.size; omega
          obtain ⟨w7, hw7⟩ : ∃ x, wc = x := ⟨_, rfl⟩
          rw [hw7] at hx13 hM7 h77 h87 r17 r27 hsz7 ⊢
          clear hw7 hb13 HhM6 Hh76 Hh86 Hr16 Hr26 Hz12 z12c z12l
          have x13c := cells_of hx13
          have x13l := lt_of_heap hx13
          have HhM7 := Lib.hid hM7; clear hM7; have Hh77 := Lib.hid h77; clear h77; have Hh87 := Lib.hid h87; clear h87; have Hr17 := Lib.hid r17; clear r17; have Hr27 := Lib.hid r27; clear r27; have Hhx13 := Lib.hid hx13; clear hx13; have Ht13a := Lib.hid t13a; clear t13a; have Ht13b := Lib.hid t13b; clear t13b
          go_upto_region 14 with fail
          have hM8 := HhM7.out.step (bl_alloc (Below.refl _ _) (.cells #[.int .i64 A0, .int .i64 A1, .int .i64 D, .int .i64 0, .int .i64 L] 67))
          have h78 := heap_alloc_off Hh77.out (.cells #[.int .i64 A0, .int .i64 A1, .int .i64 D, .int .i64 0, .int .i64 L] 67)
          have h88 := heap_alloc_off Hh87.out (.cells #[.int .i64 A0, .int .i64 A1, .int .i64 D, .int .i64 0, .int .i64 L] 67)
          have r18 := Hr17.out.alloc (.cells #[.int .i64 A0, .int .i64 A1, .int .i64 D, .int .i64 0, .int .i64 L] 67)
          have r28 := Hr27.out.alloc (.cells #[.int .i64 A0, .int .i64 A1, .int .i64 D, .int .i64 0, .int .i64 L] 67)
          have y13 := heap_alloc_off Hhx13.out (.cells #[.int .i64 A0, .int .i64 A1, .int .i64 D, .int .i64 0, .int .i64 L] 67)
          have y14 := heap_alloc_at w7 (.cells #[.int .i64 A0, .int .i64 A1, .int .i64 D, .int .i64 0, .int .i64 L] 67)
          have t14a : ∀ g, v1.ownBlock = some g → g ≠ w7.heap.size := fun g hg => by have := (Hr17.out.lt g hg).2; omega
          have t14b : ∀ g, v2.ownBlock = some g → g ≠ w7.heap.size := fun g hg => by have := (Hr27.out.lt g hg).2; omega
          have hne : q13 ≠ w7.heap.size := by omega
          have hsz8 : w5.heap.size ≤ (w7.alloc (.cells #[.int .i64 A0, .int .i64 A1, .int .i64 D, .int .i64 0, .int .i64 L] 67)).heap.size := by simp; omega
          obtain ⟨q14, hq14⟩ : ∃ q, w7.heap.size = q := ⟨_, rfl⟩
          have hwq : w.heap.size ≤ q14 := by have := HhM7.out.below.size; omega
          rw [hq14] at y14 t14a t14b hne ⊢
          generalize w7.alloc (.cells #[.int .i64 A0, .int .i64 A1, .int .i64 D, .int .i64 0, .int .i64 L] 67) = w8 at hM8 h78 h88 r18 r28 y13 y14 hsz8 ⊢
          clear HhM7 Hh77 Hh87 Hr17 Hr27 Hhx13 x13c x13l hq14
          have y13c := cells_of y13
          have y13l := lt_of_heap y13
          have hch := HhCh.out w8 A0 A1 cnt hM8 cnt0 (by omega) (by omega) (by omega) (by omega)
          have HhM8 := Lib.hid hM8; clear hM8; have Hh78 := Lib.hid h78; clear h78; have Hh88 := Lib.hid h88; clear h88; have Hr18 := Lib.hid r18; clear r18; have Hr28 := Lib.hid r28; clear r28; have Hy13 := Lib.hid y13; clear y13; have Hy14 := Lib.hid y14; clear y14; have Ht14a := Lib.hid t14a; clear t14a; have Ht14b := Lib.hid t14b; clear t14b; have Hhch := Lib.hid hch; clear hch
          go_wp2_with fail
          refine Calls.mono Hhch.out ?_
          rintro e w9 ⟨vv, rfl, vlo, vhi, hcn9, hk9⟩
          have hM9 := HhM8.out.keeps hk9 hcn9
          have h79 := keeps_other hk9 HhM8.out.cn Hh78.out (by decide)
          have h89 := keeps_other hk9 HhM8.out.cn Hh88.out (by decide)
          have z13 := keeps_other hk9 HhM8.out.cn Hy13.out (by decide)
          have z14 := keeps_other hk9 HhM8.out.cn Hy14.out (by decide)
          have r19 := HhM8.out.row hk9 Hr18.out (by decide)
          have r29 := HhM8.out.row hk9 Hr28.out (by decide)
          have hsz9 : w5.heap.size ≤ w9.heap.size := by have := hk9.size; omega
          clear HhM8 Hh78 Hh88 Hr18 Hr28 Hy13 Hy14 hcn9 hk9 y13c y13l Hhch
          have HhM9 := Lib.hid hM9; clear hM9; have Hh79 := Lib.hid h79; clear h79; have Hh89 := Lib.hid h89; clear h89; have Hz13 := Lib.hid z13; clear z13; have Hz14 := Lib.hid z14; clear z14; have Hr19 := Lib.hid r19; clear r19; have Hr29 := Lib.hid r29; clear r29
          go_wp2_with fail
          refine (tspan_any _ _ _).mono ?_
          rintro e w10 ⟨rfl, hb10⟩
          have hM10 := HhM9.out.step hb10
          have h710 := heap_below hb10 Hh79.out
          have h810 := heap_below hb10 Hh89.out
          have u13 := heap_below hb10 Hz13.out
          have u14 := heap_below hb10 Hz14.out
          have r110 := Hr19.out.kept (below_grown hb10) (by cases v1.ownBlock <;> simp)
          have r210 := Hr29.out.kept (below_grown hb10) (by cases v2.ownBlock <;> simp)
          have hsz10 : w5.heap.size ≤ w10.heap.size := by have := hb10.size; omega
          clear HhM9 Hh79 Hh89 Hz13 Hz14 Hr19 Hr29 hb10
          have u14c := cells_of u14
          have u14f := frozen_of u14
          have u14l := lt_of_heap u14
          have HhM10 := Lib.hid hM10; clear hM10; have Hh710 := Lib.hid h710; clear h710; have Hh810 := Lib.hid h810; clear h810; have Hu13 := Lib.hid u13; clear u13; have Hu14 := Lib.hid u14; clear u14; have Hr110 := Lib.hid r110; clear r110; have Hr210 := Lib.hid r210; clear r210
          go_upto_region 16 with fail
          have HA : AppM w w5 #[.int .u8 s.wide, .int .u8 s.high, .slice al s.low.length cl, .slice am s.more.length cm, .slice aw s.where_.length cw, .int .u8 cell, .int .u8 cr, .int .u8 st, .int .u8 we, .slice (some ⟨b, off, none⟩) ws.length c5, .int .u8 sp, .slice ah wh.length ch] (gridV s g3 N k3) (gridV s g4 N k4) p3 p4 g3 g4 p5 kc3 kc4 p7 p8 #[.int .i64 2000, .int .i64 3000, .int .i64 500, .int .i64 700] #[.int .i64 dr, .int .i64 3000, .int .i64 lg, .int .i64 700] q13 q14 #[.int .i64 A0, .int .i64 A1, .int .i64 D, .int .i64 0, .int .i64 L] #[.int .i64 vv, .int .i64 vv, .int .i64 D, .int .i64 0, .int .i64 L] v1 v2 k k (vcells ((ws.take k).map windOf)) (vcells tl) (cnt + 1) ((w10.setCell ⟨q14, 0, none⟩ (.int .i64 vv)).setCell ⟨q14, 1, none⟩ (.int .i64 vv)) := by
            have s14 := heap_setCell_at (o := 0) Hu14.out (.int .i64 vv)
            have n7 : q14 ≠ p7 := fun e => by have := Hh710.out; rw [← e, Hu14.out] at this; cases this
            have n8 : q14 ≠ p8 := fun e => by have := Hh810.out; rw [← e, Hu14.out] at this; cases this
            exact ⟨bmset (bmset HhM10.out Hu14.out (by decide) hwq 0 _) s14 (by decide) hwq 1 _, heap_setCell_off (heap_setCell_off Hh710.out _ n7) _ n7, heap_setCell_off (heap_setCell_off Hh810.out _ n8) _ n8,
              heap_setCell_off (heap_setCell_off Hu13.out _ (Ne.symm hne)) _ (Ne.symm hne), (heap_setCell_at s14 _).trans rfl, row_off (row_off Hr110.out Ht14a.out 0 _) Ht14a.out 1 _, row_off (row_off Hr210.out Ht14b.out 0 _) Ht14b.out 1 _, Hsep.out,
              fun g hg => ⟨Ht13a.out g hg, Ht14a.out g hg⟩, fun g hg => ⟨Ht13b.out g hg, Ht14b.out g hg⟩, by simpa using hsz10⟩
          generalize ((w10.setCell ⟨q14, 0, none⟩ (.int .i64 vv)).setCell ⟨q14, 1, none⟩ (.int .i64 vv)) = w11 at HA ⊢
          clear HhM10 Hh710 Hh810 Hu13 Hu14 Hr110 Hr210 u14c u14f u14l hsz10 hsz9 hsz8 hsz7 hsz6
          have HHA := Lib.hid HA; clear HA
          have hmax : k + 1 ≤ maxLen := by unfold maxLen; omega
          obtain ⟨i0, hinf, hz0, hz1, hz2⟩ := info_parts info67
          have hI : WBox q13 q14 #[.int .i64 A0, .int .i64 A1, .int .i64 D, .int .i64 0, .int .i64 L] #[.int .i64 vv, .int .i64 vv, .int .i64 D, .int .i64 0, .int .i64 L] w11.drew := ⟨HHA.out.ha, HHA.out.hb⟩
          refine wp_region_ordT (WBox q13 q14 #[.int .i64 A0, .int .i64 A1, .int .i64 D, .int .i64 0, .int .i64 L] #[.int .i64 vv, .int .i64 vv, .int .i64 D, .int .i64 0, .int .i64 L]) (.two [0, 1, 4, 5] 2 (.two [] 3 (.one [] 6 (.one [] 7 (.fin [8, 9] none))) 6 (.one [] 3 (.one [] 7 (.fin [8, 9] none)))) 6 (.one [] 2 (.one [] 3 (.one [] 7 (.fin [8, 9] none))))) (by kernel_rfl) (by kernel_rfl) hI ?_
          refine otTwo ?_
          (apply StI_plain (w0 := w11.drew) hI rfl rfl rfl rfl; (focus (intro W hW K hK; obtain ⟨ha, hb⟩ := hW; have := cells_of ha; have := lt_of_heap ha; have := cells_of hb; have := lt_of_heap hb; go_step; exact hK)); (focus rfl)); (apply StI_plain (w0 := w11.drew) hI rfl rfl rfl rfl; (focus (intro W hW K hK; obtain ⟨ha, hb⟩ := hW; have := cells_of ha; have := lt_of_heap ha; have := cells_of hb; have := lt_of_heap hb; go_step; exact hK)); (focus rfl)); (apply StI_plain (w0 := w11.drew) hI rfl rfl rfl rfl; (focus (intro W hW K hK; obtain ⟨ha, hb⟩ := hW; have := cells_of ha; have := lt_of_heap ha; have := cells_of hb; have := lt_of_heap hb; go_step; exact hK)); (focus rfl)); (apply StI_plain (w0 := w11.drew) hI rfl rfl rfl rfl; (focus (intro W hW K hK; obtain ⟨ha, hb⟩ := hW; have := cells_of ha; have := lt_of_heap ha; have := cells_of hb; have := lt_of_heap hb; go_step; exact hK)); (focus rfl))
          refine StI_nil ⟨?_, ?_⟩
          · refine wind_build rfl rfl _ rfl _ rfl (A0) (A1) (D) (0) (L) rfl (by first | (simp only [Act.put, List.setIfInBounds_toArray]; exact rfl) | exact rfl) ?_
            have Hc1 := HHA.out.drew.alloc (.cells #[.int .i64 A0, .int .i64 A1, .int .i64 D, .int .i64 0, .int .i64 L] 67)
            have Bc1 := heap_alloc_at (w11.drew) (.cells #[.int .i64 A0, .int .i64 A1, .int .i64 D, .int .i64 0, .int .i64 L] 67)
            have Nc1 : ∀ g, v1.ownBlock = some g → g ≠ w11.drew.heap.size := fun g hg => by have := (HHA.out.drew.r1.lt g hg).2; omega
            obtain ⟨qc1, hqc1⟩ : ∃ q, w11.drew.heap.size = q := ⟨_, rfl⟩
            rw [hqc1] at Bc1 Nc1 ⊢
            generalize (w11.drew.alloc (.cells #[.int .i64 A0, .int .i64 A1, .int .i64 D, .int .i64 0, .int .i64 L] 67)) = vc1 at Hc1 Bc1 ⊢
            refine otN ⟨Hc1.ha, Hc1.hb⟩ ?_
            refine otTwo ?_
            refine StI_nil ⟨?_, ?_⟩
            · refine wind_append rfl rfl _ _ rfl _ rfl _ _ k _ rfl Hc1.r1 _ _ rfl _ _ _ _ _ Bc1 (by omega) Hc1.sz (fun u => (by first | (simp only [Act.put]; exact rfl) | exact rfl)) ?_
              intro gc2 cc2 vc2 hown hgrow hloc
              have Hc2 := Hc1.app1 HhM.out l7 l8 hgrow hown hloc
              clear hown hgrow hloc
              refine otN ⟨Hc2.ha, Hc2.hb⟩ ?_
              refine otOne ?_
              refine StI_nil ?_
              refine wind_build rfl rfl _ rfl _ rfl (vv) (vv) (D) (0) (L) rfl (by first | (simp only [Act.put]; exact rfl) | exact rfl) ?_
              have Hc3 := Hc2.alloc (.cells #[.int .i64 vv, .int .i64 vv, .int .i64 D, .int .i64 0, .int .i64 L] 67)
              have Bc3 := heap_alloc_at (vc2) (.cells #[.int .i64 vv, .int .i64 vv, .int .i64 D, .int .i64 0, .int .i64 L] 67)
              have Nc3 : ∀ g, (Value.slice (some ⟨gc2, 0, none⟩) (k + 1) cc2).ownBlock = some g → g ≠ vc2.heap.size := fun g hg => by have := (Hc2.r1.lt g hg).2; omega
              have b2c3 := heap_alloc_off Bc1 (.cells #[.int .i64 vv, .int .i64 vv, .int .i64 D, .int .i64 0, .int .i64 L] 67)
              obtain ⟨qc3, hqc3⟩ : ∃ q, vc2.heap.size = q := ⟨_, rfl⟩
              rw [hqc3] at Bc3 Nc3 ⊢
              generalize (vc2.alloc (.cells #[.int .i64 vv, .int .i64 vv, .int .i64 D, .int .i64 0, .int .i64 L] 67)) = vc3 at Hc3 Bc3 b2c3 ⊢
              refine otN ⟨Hc3.ha, Hc3.hb⟩ ?_
              refine otOne ?_
              refine StI_nil ?_
              refine wind_append rfl rfl _ _ rfl _ rfl _ _ k _ rfl Hc3.r2 _ _ rfl _ _ _ _ _ Bc3 (by omega) Hc3.sz (fun u => (by first | (simp only [Act.put]; exact rfl) | exact rfl)) ?_
              intro gc4 cc4 vc4 hown hgrow hloc
              have Hc4 := Hc3.app2 HhM.out l7 l8 hgrow hown hloc
              clear hown hgrow hloc
              refine otN ⟨Hc4.ha, Hc4.hb⟩ ?_
              refine otFin ?_
              (apply StI_plain (w0 := vc4) ⟨Hc4.ha, Hc4.hb⟩ rfl rfl rfl rfl; (focus (intro W hW K hK; skip; go_step; exact hK)); (focus rfl)); (apply StI_plain (w0 := vc4) ⟨Hc4.ha, Hc4.hb⟩ rfl rfl rfl rfl; (focus (intro W hW K hK; skip; go_step; exact hK)); (focus rfl))
              refine StI_nil ?_
              have HHB := Hc4
              go_wp2_with fail
              refine ⟨⟨k + 1, _, _, cnt + 1, tl ++ [⟨(vv, vv), D, (0, L)⟩], by omega, rfl, rfl, by go_num, by omega, by omega, HHB.bm, HHB.h7, HHB.h8, ?_, ?_, HHB.sep, by simp [htl], ?_, ?_, HHB.sz⟩, by simp [intOf]; omega⟩
              · rw [Hhtk.out, vcells_snoc]; exact HHB.r1
              · rw [vcells_snoc]; exact HHB.r2
              · exact wind_all Hhok.out Hhwok.out vlo vhi
              · rw [Hhtk.out]
                exact two_snoc Hhtw.out ⟨⟨vlo, vhi, Int.le_refl _⟩, Hhwok.out.v0, rfl, rfl, Hhwok.out.p⟩
            · refine wind_build rfl rfl _ rfl _ rfl (vv) (vv) (D) (0) (L) rfl (by first | (simp only [Act.put]; exact rfl) | exact rfl) ?_
              have Hc5 := Hc1.alloc (.cells #[.int .i64 vv, .int .i64 vv, .int .i64 D, .int .i64 0, .int .i64 L] 67)
              have Bc5 := heap_alloc_at (vc1) (.cells #[.int .i64 vv, .int .i64 vv, .int .i64 D, .int .i64 0, .int .i64 L] 67)
              have Nc5 : ∀ g, v1.ownBlock = some g → g ≠ vc1.heap.size := fun g hg => by have := (Hc1.r1.lt g hg).2; omega
              have b2c5 := heap_alloc_off Bc1 (.cells #[.int .i64 vv, .int .i64 vv, .int .i64 D, .int .i64 0, .int .i64 L] 67)
              obtain ⟨qc5, hqc5⟩ : ∃ q, vc1.heap.size = q := ⟨_, rfl⟩
              rw [hqc5] at Bc5 Nc5 ⊢
              generalize (vc1.alloc (.cells #[.int .i64 vv, .int .i64 vv, .int .i64 D, .int .i64 0, .int .i64 L] 67)) = vc5 at Hc5 Bc5 b2c5 ⊢
              refine otN ⟨Hc5.ha, Hc5.hb⟩ ?_
              refine otOne ?_
              refine StI_nil ?_
              refine wind_append rfl rfl _ _ rfl _ rfl _ _ k _ rfl Hc5.r1 _ _ rfl _ _ _ _ _ b2c5 (by omega) Hc5.sz (fun u => (by first | (simp only [Act.put]; exact rfl) | exact rfl)) ?_
              intro gc6 cc6 vc6 hown hgrow hloc
              have Hc6 := Hc5.app1 HhM.out l7 l8 hgrow hown hloc
              have b6c6 := (hgrow.block qc5 (lt_of_heap Bc5) (fun e => Nc5 _ e.symm rfl)).trans Bc5
              clear hown hgrow hloc
              refine otN ⟨Hc6.ha, Hc6.hb⟩ ?_
              refine otOne ?_
              refine StI_nil ?_
              refine wind_append rfl rfl _ _ rfl _ rfl _ _ k _ rfl Hc6.r2 _ _ rfl _ _ _ _ _ b6c6 (by omega) Hc6.sz (fun u => (by first | (simp only [Act.put]; exact rfl) | exact rfl)) ?_
              intro gc7 cc7 vc7 hown hgrow hloc
              have Hc7 := Hc6.app2 HhM.out l7 l8 hgrow hown hloc
              clear hown hgrow hloc
              refine otN ⟨Hc7.ha, Hc7.hb⟩ ?_
              refine otFin ?_
              (apply StI_plain (w0 := vc7) ⟨Hc7.ha, Hc7.hb⟩ rfl rfl rfl rfl; (focus (intro W hW K hK; skip; go_step; exact hK)); (focus rfl)); (apply StI_plain (w0 := vc7) ⟨Hc7.ha, Hc7.hb⟩ rfl rfl rfl rfl; (focus (intro W hW K hK; skip; go_step; exact hK)); (focus rfl))
              refine StI_nil ?_
              have HHB := Hc7
              go_wp2_with fail
              refine ⟨⟨k + 1, _, _, cnt + 1, tl ++ [⟨(vv, vv), D, (0, L)⟩], by omega, rfl, rfl, by go_num, by omega, by omega, HHB.bm, HHB.h7, HHB.h8, ?_, ?_, HHB.sep, by simp [htl], ?_, ?_, HHB.sz⟩, by simp [intOf]; omega⟩
              · rw [Hhtk.out, vcells_snoc]; exact HHB.r1
              · rw [vcells_snoc]; exact HHB.r2
              · exact wind_all Hhok.out Hhwok.out vlo vhi
              · rw [Hhtk.out]
                exact two_snoc Hhtw.out ⟨⟨vlo, vhi, Int.le_refl _⟩, Hhwok.out.v0, rfl, rfl, Hhwok.out.p⟩
          · refine wind_build rfl rfl _ rfl _ rfl (vv) (vv) (D) (0) (L) rfl (by first | (simp only [Act.put, List.setIfInBounds_toArray]; exact rfl) | exact rfl) ?_
            have Hc8 := HHA.out.drew.alloc (.cells #[.int .i64 vv, .int .i64 vv, .int .i64 D, .int .i64 0, .int .i64 L] 67)
            have Bc8 := heap_alloc_at (w11.drew) (.cells #[.int .i64 vv, .int .i64 vv, .int .i64 D, .int .i64 0, .int .i64 L] 67)
            have Nc8 : ∀ g, v1.ownBlock = some g → g ≠ w11.drew.heap.size := fun g hg => by have := (HHA.out.drew.r1.lt g hg).2; omega
            obtain ⟨qc8, hqc8⟩ : ∃ q, w11.drew.heap.size = q := ⟨_, rfl⟩
            rw [hqc8] at Bc8 Nc8 ⊢
            generalize (w11.drew.alloc (.cells #[.int .i64 vv, .int .i64 vv, .int .i64 D, .int .i64 0, .int .i64 L] 67)) = vc8 at Hc8 Bc8 ⊢
            refine otN ⟨Hc8.ha, Hc8.hb⟩ ?_
            refine otOne ?_
            refine StI_nil ?_
            refine wind_build rfl rfl _ rfl _ rfl (A0) (A1) (D) (0) (L) rfl (by first | (simp only [Act.put]; exact rfl) | exact rfl) ?_
            have Hc9 := Hc8.alloc (.cells #[.int .i64 A0, .int .i64 A1, .int .i64 D, .int .i64 0, .int .i64 L] 67)
            have Bc9 := heap_alloc_at (vc8) (.cells #[.int .i64 A0, .int .i64 A1, .int .i64 D, .int .i64 0, .int .i64 L] 67)
            have Nc9 : ∀ g, v1.ownBlock = some g → g ≠ vc8.heap.size := fun g hg => by have := (Hc8.r1.lt g hg).2; omega
            have b6c9 := heap_alloc_off Bc8 (.cells #[.int .i64 A0, .int .i64 A1, .int .i64 D, .int .i64 0, .int .i64 L] 67)
            obtain ⟨qc9, hqc9⟩ : ∃ q, vc8.heap.size = q := ⟨_, rfl⟩
            rw [hqc9] at Bc9 Nc9 ⊢
            generalize (vc8.alloc (.cells #[.int .i64 A0, .int .i64 A1, .int .i64 D, .int .i64 0, .int .i64 L] 67)) = vc9 at Hc9 Bc9 b6c9 ⊢
            refine otN ⟨Hc9.ha, Hc9.hb⟩ ?_
            refine otOne ?_
            refine StI_nil ?_
            refine wind_append rfl rfl _ _ rfl _ rfl _ _ k _ rfl Hc9.r1 _ _ rfl _ _ _ _ _ Bc9 (by omega) Hc9.sz (fun u => (by first | (simp only [Act.put]; exact rfl) | exact rfl)) ?_
            intro gc10 cc10 vc10 hown hgrow hloc
            have Hc10 := Hc9.app1 HhM.out l7 l8 hgrow hown hloc
            have b6c10 := (hgrow.block qc8 (lt_of_heap b6c9) (fun e => Nc8 _ e.symm rfl)).trans b6c9
            clear hown hgrow hloc
            refine otN ⟨Hc10.ha, Hc10.hb⟩ ?_
            refine otOne ?_
            refine StI_nil ?_
            refine wind_append rfl rfl _ _ rfl _ rfl _ _ k _ rfl Hc10.r2 _ _ rfl _ _ _ _ _ b6c10 (by omega) Hc10.sz (fun u => (by first | (simp only [Act.put]; exact rfl) | exact rfl)) ?_
            intro gc11 cc11 vc11 hown hgrow hloc
            have Hc11 := Hc10.app2 HhM.out l7 l8 hgrow hown hloc
            clear hown hgrow hloc
            refine otN ⟨Hc11.ha, Hc11.hb⟩ ?_
            refine otFin ?_
            (apply StI_plain (w0 := vc11) ⟨Hc11.ha, Hc11.hb⟩ rfl rfl rfl rfl; (focus (intro W hW K hK; skip; go_step; exact hK)); (focus rfl)); (apply StI_plain (w0 := vc11) ⟨Hc11.ha, Hc11.hb⟩ rfl rfl rfl rfl; (focus (intro W hW K hK; skip; go_step; exact hK)); (focus rfl))
            refine StI_nil ?_
            have HHB := Hc11
            go_wp2_with fail
            refine ⟨⟨k + 1, _, _, cnt + 1, tl ++ [⟨(vv, vv), D, (0, L)⟩], by omega, rfl, rfl, by go_num, by omega, by omega, HHB.bm, HHB.h7, HHB.h8, ?_, ?_, HHB.sep, by simp [htl], ?_, ?_, HHB.sz⟩, by simp [intOf]; omega⟩
            · rw [Hhtk.out, vcells_snoc]; exact HHB.r1
            · rw [vcells_snoc]; exact HHB.r2
            · exact wind_all Hhok.out Hhwok.out vlo vhi
            · rw [Hhtk.out]
              exact two_snoc Hhtw.out ⟨⟨vlo, vhi, Int.le_refl _⟩, Hhwok.out.v0, rfl, rfl, Hhwok.out.p⟩
      · obtain rfl : k = ws.length := by omega
        rw [List.take_length] at r1 htw
        have hK : (ws.map windOf).length = ws.length := by simp
        have r1' : wr.ownsRow w5.heap.size 67 5 v1 (ws.map windOf).length (vcells (ws.map windOf)) := by rw [hK]; exact r1
        have r2' : wr.ownsRow w5.heap.size 67 5 v2 tl.length (vcells tl) := by rw [htl]; exact r2
        obtain ⟨a1, c1, hv1, S1⟩ := sl_winds r1' (by omega)
        obtain ⟨a2, c2, hv2, S2⟩ := sl_winds r2' (by omega)
        rw [hK] at hv1
        rw [htl] at hv2
        subst hv1 hv2
        have hokK : ∀ x ∈ ws.map windOf, x.ok := fun x hx => by
          obtain ⟨y, hy, rfl⟩ := List.mem_map.1 hx
          exact windOf_ok (Hhws.out y hy)
        have hIn := shore_in Hhs.out dr0 dr1 lg0 lg1
        have P3 := shore_plc Hhs.out (s.gok_known Hhs.out) s.known_len (d0 := 2000) (l0 := 500) (by omega) (by omega) HhR3.out
        have P4 := shore_plc Hhs.out (s.gok_truth Hhs.out) s.truth_len (d0 := dr) (l0 := lg) (by omega) (by omega) HhR4.out
        have hTS := two_map (R := sub) (S := sub) (f := cmS) (g := cmS) (fun _ _ h => cm_in h) (run_in hIn 0 tl (ws.map windOf) (z := (0, 0)) (z' := (0, 0)) ⟨Int.le_refl _, Int.le_refl _, Int.le_refl _⟩ htw)
        obtain ⟨xs, hxs⟩ : ∃ l, ((surOf s.wd s.ht 500 (-50) 50 2000 3000 500 700 s.known).run 0 (0, 0) (ws.map windOf)).map cmS = l := ⟨_, rfl⟩
        obtain ⟨ys, hys⟩ : ∃ l, ((surOf s.wd s.ht 500 (-50) 50 dr 3000 lg 700 s.truth).run 0 (0, 0) tl).map cmS = l := ⟨_, rfl⟩
        have hxl : xs.length = ws.length := by rw [← hxs, List.length_map, run_length, hK]
        have hyl : ys.length = ws.length := by rw [← hys, List.length_map, run_length, htl]
        rw [hxs, hys] at hTS
        have hkl : s.known.length = N := s.known_len.trans HhN.out
        have htl' : s.truth.length = N := s.truth_len.trans HhN.out
        have hBL1 := fun V (hV : Below wr.heap.size wr V) => blevels_ok P3 k3 (ws.map windOf) a1 c1 wr.heap.size V (S1.below (ek_wind _) hV) hV.size hokK (by rw [hK]; omega) (by decide) (by decide) (heap_below hV hM.hk) xs hxs
        have hBL2 := fun V (hV : Below wr.heap.size wr V) => blevels_ok P4 k4 tl a2 c2 wr.heap.size V (S2.below (ek_wind _) hV) hV.size hok (by rw [htl]; omega) (by simp [vldB]; omega) (by simp [vldB]; omega) (heap_below hV hM.ht) ys hys
        rw [hK, hkl] at hBL1
        rw [htl, htl'] at hBL2
        obtain ⟨bX, hbX⟩ : ∃ b, xs.all levB = b := ⟨_, rfl⟩
        obtain ⟨bY, hbY⟩ : ∃ b, ys.all levB = b := ⟨_, rfl⟩
        rw [hbX] at hBL1
        rw [hbY] at hBL2
        have hXY : bX = true → bY = true := fun h => by rw [← hbY]; exact two_lev hTS (by rw [hbX]; exact h)
        have hg4l := lt_of_heap hM.ht
        have hpc := cells_of hM.hp
        have hpl := lt_of_heap hM.hp
        have h7c := cells_of h7
        have h7l := lt_of_heap h7
        clear r1 r2 r1' r2' S1 S2 hK P3 P4 hIn hokK hxs hys hbY sep hok htw htl hsz hbc hbl l7 l8 hlt hk
        have HhM := Lib.hid hM; clear hM; have Hh7 := Lib.hid h7; clear h7; have Hh8 := Lib.hid h8; clear h8; have HhTS := Lib.hid hTS; clear hTS; have Hhxl := Lib.hid hxl; clear hxl; have Hhyl := Lib.hid hyl; clear hyl; have Hhkl := Lib.hid hkl; clear hkl; have Hhtl' := Lib.hid htl'; clear htl'; have HhBL1 := Lib.hid hBL1; clear hBL1; have HhBL2 := Lib.hid hBL2; clear hBL2; have HhXY := Lib.hid hXY; clear hXY; have HhbX := Lib.hid hbX; clear hbX
        go_wp2_with fail
        refine Calls.mono (HhBL1.out _ (Below.refl _ _)) ?_
        rintro e w6 ⟨vx, rfl, hrx, hb6⟩
        have hM6 := HhM.out.step hb6
        have h86 := heap_below hb6 Hh8.out
        have hqc := cells_of hM6.hq
        have hql := lt_of_heap hM6.hq
        have h8c := cells_of h86
        have h8l := lt_of_heap h86
        clear hpc hpl h7c h7l
        have HhM6 := Lib.hid hM6; clear hM6; have Hh86 := Lib.hid h86; clear h86; have Hhrx := Lib.hid hrx; clear hrx; have Hhb6 := Lib.hid hb6; clear hb6
        go_wp2_with fail
        refine Calls.mono (HhBL2.out _ Hhb6.out) ?_
        rintro e w7 ⟨vy, rfl, hry, hb7⟩
        have hM7 := HhM6.out.step hb7
        clear hqc hql h8c h8l Hh86 HhM6 Hh7 Hh8
        have HhM7 := Lib.hid hM7; clear hM7; have Hhry := Lib.hid hry; clear hry; have Hhb7 := Lib.hid hb7; clear hb7
        cases bX with
        | false =>
          go_wp2_with fail
          refine (bworks_ok _).mono ?_
          rintro e w99 ⟨rfl, hb99⟩
          go_wp2_with fail
          go_ret
          exact ⟨rfl, bl_step HhM7.out.below hb99⟩
        | true =>
          obtain rfl := HhXY.out rfl
          obtain ⟨gx, cx, kx, rfl, hgx, lx6, Rx, _⟩ := span_rowC Hhxl.out (by omega) (by omega) (Hhrx.out rfl)
          obtain ⟨gy, cy, ky, rfl, hgy, ly7, Ry, hcy⟩ := span_rowC Hhyl.out (by omega) (by omega) (Hhry.out rfl)
          have lx7 := heap_below Hhb7.out lx6
          have ngx : gx ≠ g4 := by omega
          have ngy : gy ≠ g4 := by have := Hhb6.out.size; omega
          clear hg4l
          obtain ⟨NI, hNI⟩ : ∃ z : Int, (N : Int) = z := ⟨_, rfl⟩
          have NI0 : 0 < NI := by omega
          have NI1 : ¬ NI = 0 := by omega
          have NI2 : NI ≤ 16 := by omega
          obtain ⟨J, hJ⟩ : ∃ z : Int, cell % NI = z := ⟨_, rfl⟩
          have J0 : 0 ≤ J := by rw [← hJ]; exact Int.emod_nonneg _ NI1
          have J1 : J < NI := by rw [← hJ]; exact Int.emod_lt_of_pos _ NI0
          obtain ⟨CA, hCA⟩ : ∃ z : Int, cr * 2 = z := ⟨_, rfl⟩
          obtain ⟨SB, hSB⟩ : ∃ z : Int, st * 2 = z := ⟨_, rfl⟩
          have hbc := cells_of HhM7.out.box
          have hbl := lt_of_heap HhM7.out.box
          have hpc := cells_of HhM7.out.hp
          have hpl := lt_of_heap HhM7.out.hp
          clear Hhrx Hhry Hhb6 Hhb7 HhXY lx6 HhBL1 HhBL2
          have Hlx7 := Lib.hid lx7; clear lx7; have Hly7 := Lib.hid ly7; clear ly7; have HRx := Lib.hid Rx; clear Rx; have HRy := Lib.hid Ry; clear Ry
          go_upto_region 25 with fail
          have hI : Below w7.heap.size w7 w7.drew := (Below.refl _ _).drew
          refine wp_region_ord (fun W => Below w7.heap.size w7 W) [] [0, 1, 2, 3, 4, 5, 6, 7, 8, 9] none (by kernel_rfl) (by kernel_rfl) hI ?_
          refine OrdI_fin ?_
          (apply StI_plain (w0 := w7.drew) hI rfl rfl rfl rfl; (focus (intro W hW K hK; obtain ⟨_, _⟩ := bk w.heap.size hW hbl; go_step; exact hK)); (focus rfl)); (apply StI_plain (w0 := w7.drew) hI rfl rfl rfl rfl; (focus (intro W hW K hK; obtain ⟨_, _⟩ := bk w.heap.size hW hbl; go_step; exact hK)); (focus rfl)); (apply StI_plain (w0 := w7.drew) hI rfl rfl rfl rfl; (focus (intro W hW K hK; obtain ⟨_, _⟩ := bk w.heap.size hW hbl; go_step; exact hK)); (focus rfl)); (apply StI_plain (w0 := w7.drew) hI rfl rfl rfl rfl; (focus (intro W hW K hK; obtain ⟨_, _⟩ := bk w.heap.size hW hbl; go_step; exact hK)); (focus rfl)); (apply StI_plain (w0 := w7.drew) hI rfl rfl rfl rfl; (focus (intro W hW K hK; obtain ⟨_, _⟩ := bk w.heap.size hW hbl; go_step; exact hK)); (focus rfl)); (apply StI_plain (w0 := w7.drew) hI rfl rfl rfl rfl; (focus (intro W hW K hK; obtain ⟨_, _⟩ := bk w.heap.size hW hbl; go_step; exact hK)); (focus rfl)); (apply StI_plain (w0 := w7.drew) hI rfl rfl rfl rfl; (focus (intro W hW K hK; obtain ⟨_, _⟩ := bk w.heap.size hW hbl; go_step; exact hK)); (focus rfl)); (apply StI_plain (w0 := w7.drew) hI rfl rfl rfl rfl; (focus (intro W hW K hK; obtain ⟨_, _⟩ := bk w.heap.size hW hbl; go_step; exact hK)); (focus rfl)); (apply StI_plain (w0 := w7.drew) hI rfl rfl rfl rfl; (focus (intro W hW K hK; obtain ⟨_, _⟩ := bk w.heap.size hW hbl; go_step; exact hK)); (focus rfl)); (apply StI_plain (w0 := w7.drew) hI rfl rfl rfl rfl; (focus (intro W hW K hK; obtain ⟨_, _⟩ := bk w.heap.size hW hbl; go_step; exact hK)); (focus rfl))
          refine StI_nil ?_
          have hM8 := HhM7.out.step hI
          have lx8 : w7.drew.heap[gx]? = _ := Hlx7.out
          have ly8 : w7.drew.heap[gy]? = _ := Hly7.out
          generalize w7.drew = w8 at hM8 lx8 ly8 ⊢
          clear hI hbc hbl hpc hpl HhM7 Hlx7 Hly7
          have hbc := cells_of hM8.box
          have hbl := lt_of_heap hM8.box
          obtain ⟨W4, hW4⟩ : ∃ z : Int, we % 40 = z := ⟨_, rfl⟩
          obtain ⟨W6, hW6⟩ : ∃ z : Int, we % 60 = z := ⟨_, rfl⟩
          obtain ⟨W3, hW3⟩ : ∃ z : Int, we % 30 = z := ⟨_, rfl⟩
          obtain ⟨C1, hC1⟩ : ∃ z : Int, CA + W4 = z := ⟨_, rfl⟩
          obtain ⟨S1, hS1⟩ : ∃ z : Int, SB + W6 = z := ⟨_, rfl⟩
          have CA0 : 0 ≤ CA ∧ CA ≤ 510 := by omega
          have SB0 : 0 ≤ SB ∧ SB ≤ 510 := by omega
          have C10 : CA ≤ C1 ∧ C1 ≤ 549 := by omega
          have S10 : SB ≤ S1 ∧ S1 ≤ 569 := by omega
          have W30 : 0 ≤ W3 ∧ W3 < 30 := by omega
          have HhM8 := Lib.hid hM8; clear hM8; have Hlx8 := Lib.hid lx8; clear lx8; have Hly8 := Lib.hid ly8; clear ly8
          go_upto_region 26 with fail
          go_cut [23] from 171 to 193 (fun v wx => ∃ q, v = .pointer (some ⟨q, 0, none⟩) ∧ w8.heap.size ≤ q ∧ wx.heap[q]? = some (.cells #[.int .i64 J, .int .i64 CA, .int .i64 C1, .int .i64 SB, .int .i64 S1, .int .i64 20, .int .i64 0, .int .i64 W3] 71 (0, 0)) ∧ Below w8.heap.size w8 wx)
          case first =>
            have hI : Below w8.heap.size w8 w8.drew := (Below.refl _ _).drew
            refine wp_region_ordT (fun V => Below w8.heap.size w8 V) (.two [0, 1, 2, 3, 4, 5, 6, 7, 9, 10, 11, 12, 13, 14, 15, 17, 18, 19, 20] 8 (.two [] 16 (.two [] 21 (.one [22] 23 (.fin [] (some 24))) 23 (.one [] 21 (.fin [22] (some 24)))) 23 (.one [] 16 (.one [] 21 (.fin [22] (some 24))))) 23 (.one [] 8 (.one [] 16 (.one [] 21 (.fin [22] (some 24)))))) (by kernel_rfl) (by kernel_rfl) hI ?_
            refine otTwo ?_
            (apply StI_plain (w0 := w8.drew) hI rfl rfl rfl rfl; (focus (intro W hW K hK; obtain ⟨_, _⟩ := bk w.heap.size hW hbl; go_step; exact hK)); (focus rfl)); (apply StI_plain (w0 := w8.drew) hI rfl rfl rfl rfl; (focus (intro W hW K hK; obtain ⟨_, _⟩ := bk w.heap.size hW hbl; go_step; exact hK)); (focus rfl)); (apply StI_plain (w0 := w8.drew) hI rfl rfl rfl rfl; (focus (intro W hW K hK; obtain ⟨_, _⟩ := bk w.heap.size hW hbl; go_step; exact hK)); (focus rfl)); (apply StI_plain (w0 := w8.drew) hI rfl rfl rfl rfl; (focus (intro W hW K hK; obtain ⟨_, _⟩ := bk w.heap.size hW hbl; go_step; exact hK)); (focus rfl)); (apply StI_plain (w0 := w8.drew) hI rfl rfl rfl rfl; (focus (intro W hW K hK; obtain ⟨_, _⟩ := bk w.heap.size hW hbl; go_step; exact hK)); (focus rfl)); (apply StI_plain (w0 := w8.drew) hI rfl rfl rfl rfl; (focus (intro W hW K hK; obtain ⟨_, _⟩ := bk w.heap.size hW hbl; go_step; exact hK)); (focus rfl)); (apply StI_plain (w0 := w8.drew) hI rfl rfl rfl rfl; (focus (intro W hW K hK; obtain ⟨_, _⟩ := bk w.heap.size hW hbl; go_step; exact hK)); (focus rfl)); (apply StI_plain (w0 := w8.drew) hI rfl rfl rfl rfl; (focus (intro W hW K hK; obtain ⟨_, _⟩ := bk w.heap.size hW hbl; go_step; exact hK)); (focus rfl)); (apply StI_plain (w0 := w8.drew) hI rfl rfl rfl rfl; (focus (intro W hW K hK; obtain ⟨_, _⟩ := bk w.heap.size hW hbl; go_step; exact hK)); (focus rfl)); (apply StI_plain (w0 := w8.drew) hI rfl rfl rfl rfl; (focus (intro W hW K hK; obtain ⟨_, _⟩ := bk w.heap.size hW hbl; go_step; exact hK)); (focus rfl)); (apply StI_plain (w0 := w8.drew) hI rfl rfl rfl rfl; (focus (intro W hW K hK; obtain ⟨_, _⟩ := bk w.heap.size hW hbl; go_step; exact hK)); (focus rfl)); (apply StI_plain (w0 := w8.drew) hI rfl rfl rfl rfl; (focus (intro W hW K hK; obtain ⟨_, _⟩ := bk w.heap.size hW hbl; go_step; exact hK)); (focus rfl)); (apply StI_plain (w0 := w8.drew) hI rfl rfl rfl rfl; (focus (intro W hW K hK; obtain ⟨_, _⟩ := bk w.heap.size hW hbl; go_step; exact hK)); (focus rfl)); (apply StI_plain (w0 := w8.drew) hI rfl rfl rfl rfl; (focus (intro W hW K hK; obtain ⟨_, _⟩ := bk w.heap.size hW hbl; go_step; exact hK)); (focus rfl)); (apply StI_plain (w0 := w8.drew) hI rfl rfl rfl rfl; (focus (intro W hW K hK; obtain ⟨_, _⟩ := bk w.heap.size hW hbl; go_step; exact hK)); (focus rfl)); (apply StI_plain (w0 := w8.drew) hI rfl rfl rfl rfl; (focus (intro W hW K hK; obtain ⟨_, _⟩ := bk w.heap.size hW hbl; go_step; exact hK)); (focus rfl)); (apply StI_plain (w0 := w8.drew) hI rfl rfl rfl rfl; (focus (intro W hW K hK; obtain ⟨_, _⟩ := bk w.heap.size hW hbl; go_step; exact hK)); (focus rfl)); (apply StI_plain (w0 := w8.drew) hI rfl rfl rfl rfl; (focus (intro W hW K hK; obtain ⟨_, _⟩ := bk w.heap.size hW hbl; go_step; exact hK)); (focus rfl)); (apply StI_plain (w0 := w8.drew) hI rfl rfl rfl rfl; (focus (intro W hW K hK; obtain ⟨_, _⟩ := bk w.heap.size hW hbl; go_step; exact hK)); (focus rfl))
            refine StI_nil ⟨?_, ?_⟩
            · (apply wpOp_eff rfl; go_wp2_with (first | (go_at_call 8; refine (tspan_any _ _ _).mono ?_; rintro e vd1 ⟨rfl, hbd1⟩)))
              have hId1 := below_mid hI (Nat.le_refl _) hbd1
              refine otN hId1 ?_
              refine otTwo ?_
              refine StI_nil ⟨?_, ?_⟩
              · (apply wpOp_eff rfl; go_wp2_with (first | (go_at_call 8; refine (tspan_any _ _ _).mono ?_; rintro e vd2 ⟨rfl, hbd2⟩)))
                have hId2 := below_mid hId1 (Nat.le_refl _) hbd2
                refine otN hId2 ?_
                refine otTwo ?_
                refine StI_nil ⟨?_, ?_⟩
                · (apply wpOp_eff rfl; go_wp2_with (first | (go_at_call 8; refine (tspan_any _ _ _).mono ?_; rintro e vd3 ⟨rfl, hbd3⟩)))
                  have hId3 := below_mid hId2 (Nat.le_refl _) hbd3
                  refine otN hId3 ?_
                  refine otOne ?_
                  (apply StI_plain (w0 := vd3) hId3 rfl rfl rfl rfl; (focus (intro W hW K hK; skip; go_step; exact hK)); (focus rfl))
                  refine StI_nil ?_
                  (apply wpOp_eff rfl; go_wp2_with (first | fail))
                  have hbAd4 : Below vd3.heap.size vd3 (vd3.alloc (.cells #[.int .i64 0, .int .i64 0, .int .i64 0, .int .i64 0, .int .i64 0, .int .i64 0, .int .i64 0, .int .i64 0] 71)) := bl_alloc (Below.refl _ _) _
                  have hId4 := hId3.trans (hbAd4.mono hId3.size)
                  have hAd4 := heap_alloc_at vd3 (.cells #[.int .i64 0, .int .i64 0, .int .i64 0, .int .i64 0, .int .i64 0, .int .i64 0, .int .i64 0, .int .i64 0] 71)
                  have hged4 := hId3.size
                  generalize (vd3.alloc (.cells #[.int .i64 0, .int .i64 0, .int .i64 0, .int .i64 0, .int .i64 0, .int .i64 0, .int .i64 0, .int .i64 0] 71)) = vd4 at hId4 hAd4 ⊢
                  clear hbAd4
                  refine otN hId4 ?_
                  refine otSnkI ?_
                  apply StI_eff rfl
                  refine wpList_store_rowTo rfl 71 _ _ rfl rfl (vd3.heap.size) #[.int .i64 J, .int .i64 CA, .int .i64 C1, .int .i64 SB, .int .i64 S1, .int .i64 20, .int .i64 0, .int .i64 W3] (by kernel_rfl) (by kernel_rfl) _ _ hAd4 (by kernel_rfl) rfl (by simp [Value.oneCell']) ?_
                  apply wpList_nil
                  refine onNormal_last ?_
                  go_wp2_with fail
                  go_meet
                  exact ⟨_, rfl, hged4, setRow_heap vd4 (vd3.heap.size) _ #[.int .i64 J, .int .i64 CA, .int .i64 C1, .int .i64 SB, .int .i64 S1, .int .i64 20, .int .i64 0, .int .i64 W3] _ _ hAd4, below_setRow hId4 hged4 #[.int .i64 J, .int .i64 CA, .int .i64 C1, .int .i64 SB, .int .i64 S1, .int .i64 20, .int .i64 0, .int .i64 W3]⟩
                · (apply wpOp_eff rfl; go_wp2_with (first | fail))
                  have hbAd5 : Below vd2.heap.size vd2 (vd2.alloc (.cells #[.int .i64 0, .int .i64 0, .int .i64 0, .int .i64 0, .int .i64 0, .int .i64 0, .int .i64 0, .int .i64 0] 71)) := bl_alloc (Below.refl _ _) _
                  have hId5 := hId2.trans (hbAd5.mono hId2.size)
                  have hAd5 := heap_alloc_at vd2 (.cells #[.int .i64 0, .int .i64 0, .int .i64 0, .int .i64 0, .int .i64 0, .int .i64 0, .int .i64 0, .int .i64 0] 71)
                  have hged5 := hId2.size
                  generalize (vd2.alloc (.cells #[.int .i64 0, .int .i64 0, .int .i64 0, .int .i64 0, .int .i64 0, .int .i64 0, .int .i64 0, .int .i64 0] 71)) = vd5 at hId5 hAd5 ⊢
                  clear hbAd5
                  refine otN hId5 ?_
                  refine otOne ?_
                  refine StI_nil ?_
                  (apply wpOp_eff rfl; go_wp2_with (first | (go_at_call 8; refine (tspan_any _ _ _).mono ?_; rintro e vd6 ⟨rfl, hbd6⟩)))
                  have hId6 := below_mid hId5 (Nat.le_refl _) hbd6
                  have hAd6 := heap_below hbd6 hAd5
                  refine otN hId6 ?_
                  refine otSnkI ?_
                  (apply StI_plain (w0 := vd6) hId6 rfl rfl rfl rfl; (focus (intro W hW K hK; skip; go_step; exact hK)); (focus rfl))
                  apply StI_eff rfl
                  refine wpList_store_rowTo rfl 71 _ _ rfl rfl (vd2.heap.size) #[.int .i64 J, .int .i64 CA, .int .i64 C1, .int .i64 SB, .int .i64 S1, .int .i64 20, .int .i64 0, .int .i64 W3] (by kernel_rfl) (by kernel_rfl) _ _ hAd6 (by kernel_rfl) rfl (by simp [Value.oneCell']) ?_
                  apply wpList_nil
                  refine onNormal_last ?_
                  go_wp2_with fail
                  go_meet
                  exact ⟨_, rfl, hged5, setRow_heap vd6 (vd2.heap.size) _ #[.int .i64 J, .int .i64 CA, .int .i64 C1, .int .i64 SB, .int .i64 S1, .int .i64 20, .int .i64 0, .int .i64 W3] _ _ hAd6, below_setRow hId6 hged5 #[.int .i64 J, .int .i64 CA, .int .i64 C1, .int .i64 SB, .int .i64 S1, .int .i64 20, .int .i64 0, .int .i64 W3]⟩
              · (apply wpOp_eff rfl; go_wp2_with (first | fail))
                have hbAd7 : Below vd1.heap.size vd1 (vd1.alloc (.cells #[.int .i64 0, .int .i64 0, .int .i64 0, .int .i64 0, .int .i64 0, .int .i64 0, .int .i64 0, .int .i64 0] 71)) := bl_alloc (Below.refl _ _) _
                have hId7 := hId1.trans (hbAd7.mono hId1.size)
                have hAd7 := heap_alloc_at vd1 (.cells #[.int .i64 0, .int .i64 0, .int .i64 0, .int .i64 0, .int .i64 0, .int .i64 0, .int .i64 0, .int .i64 0] 71)
                have hged7 := hId1.size
                generalize (vd1.alloc (.cells #[.int .i64 0, .int .i64 0, .int .i64 0, .int .i64 0, .int .i64 0, .int .i64 0, .int .i64 0, .int .i64 0] 71)) = vd7 at hId7 hAd7 ⊢
                clear hbAd7
                refine otN hId7 ?_
                refine otOne ?_
                refine StI_nil ?_
                (apply wpOp_eff rfl; go_wp2_with (first | (go_at_call 8; refine (tspan_any _ _ _).mono ?_; rintro e vd8 ⟨rfl, hbd8⟩)))
                have hId8 := below_mid hId7 (Nat.le_refl _) hbd8
                have hAd8 := heap_below hbd8 hAd7
                refine otN hId8 ?_
                refine otOne ?_
                refine StI_nil ?_
                (apply wpOp_eff rfl; go_wp2_with (first | (go_at_call 8; refine (tspan_any _ _ _).mono ?_; rintro e vd9 ⟨rfl, hbd9⟩)))
                have hId9 := below_mid hId8 (Nat.le_refl _) hbd9
                have hAd9 := heap_below hbd9 hAd8
                refine otN hId9 ?_
                refine otSnkI ?_
                (apply StI_plain (w0 := vd9) hId9 rfl rfl rfl rfl; (focus (intro W hW K hK; skip; go_step; exact hK)); (focus rfl))
                apply StI_eff rfl
                refine wpList_store_rowTo rfl 71 _ _ rfl rfl (vd1.heap.size) #[.int .i64 J, .int .i64 CA, .int .i64 C1, .int .i64 SB, .int .i64 S1, .int .i64 20, .int .i64 0, .int .i64 W3] (by kernel_rfl) (by kernel_rfl) _ _ hAd9 (by kernel_rfl) rfl (by simp [Value.oneCell']) ?_
                apply wpList_nil
                refine onNormal_last ?_
                go_wp2_with fail
                go_meet
                exact ⟨_, rfl, hged7, setRow_heap vd9 (vd1.heap.size) _ #[.int .i64 J, .int .i64 CA, .int .i64 C1, .int .i64 SB, .int .i64 S1, .int .i64 20, .int .i64 0, .int .i64 W3] _ _ hAd9, below_setRow hId9 hged7 #[.int .i64 J, .int .i64 CA, .int .i64 C1, .int .i64 SB, .int .i64 S1, .int .i64 20, .int .i64 0, .int .i64 W3]⟩
            · (apply wpOp_eff rfl; go_wp2_with (first | fail))
              have hbAd10 : Below w8.heap.size w8 (w8.alloc (.cells #[.int .i64 0, .int .i64 0, .int .i64 0, .int .i64 0, .int .i64 0, .int .i64 0, .int .i64 0, .int .i64 0] 71)).drew := ((Below.refl _ _).alloc (Nat.le_refl _) _).drew
              have hId10 := (Below.refl w8.heap.size w8).trans (hbAd10.mono (Below.refl w8.heap.size w8).size)
              have hAd10 := heap_drew' (heap_alloc_at w8 (.cells #[.int .i64 0, .int .i64 0, .int .i64 0, .int .i64 0, .int .i64 0, .int .i64 0, .int .i64 0, .int .i64 0] 71))
              have hged10 := Nat.le_refl w8.heap.size
              generalize (w8.alloc (.cells #[.int .i64 0, .int .i64 0, .int .i64 0, .int .i64 0, .int .i64 0, .int .i64 0, .int .i64 0, .int .i64 0] 71)).drew = vd10 at hId10 hAd10 ⊢
              clear hbAd10
              refine otN hId10 ?_
              refine otOne ?_
              refine StI_nil ?_
              (apply wpOp_eff rfl; go_wp2_with (first | (go_at_call 8; refine (tspan_any _ _ _).mono ?_; rintro e vd11 ⟨rfl, hbd11⟩)))
              have hId11 := below_mid hId10 (Nat.le_refl _) hbd11
              have hAd11 := heap_below hbd11 hAd10
              refine otN hId11 ?_
              refine otOne ?_
              refine StI_nil ?_
              (apply wpOp_eff rfl; go_wp2_with (first | (go_at_call 8; refine (tspan_any _ _ _).mono ?_; rintro e vd12 ⟨rfl, hbd12⟩)))
              have hId12 := below_mid hId11 (Nat.le_refl _) hbd12
              have hAd12 := heap_below hbd12 hAd11
              refine otN hId12 ?_
              refine otOne ?_
              refine StI_nil ?_
              (apply wpOp_eff rfl; go_wp2_with (first | (go_at_call 8; refine (tspan_any _ _ _).mono ?_; rintro e vd13 ⟨rfl, hbd13⟩)))
              have hId13 := below_mid hId12 (Nat.le_refl _) hbd13
              have hAd13 := heap_below hbd13 hAd12
              refine otN hId13 ?_
              refine otSnkI ?_
              (apply StI_plain (w0 := vd13) hId13 rfl rfl rfl rfl; (focus (intro W hW K hK; skip; go_step; exact hK)); (focus rfl))
              apply StI_eff rfl
              refine wpList_store_rowTo rfl 71 _ _ rfl rfl (w8.heap.size) #[.int .i64 J, .int .i64 CA, .int .i64 C1, .int .i64 SB, .int .i64 S1, .int .i64 20, .int .i64 0, .int .i64 W3] (by kernel_rfl) (by kernel_rfl) _ _ hAd13 (by kernel_rfl) rfl (by simp [Value.oneCell']) ?_
              apply wpList_nil
              refine onNormal_last ?_
              go_wp2_with fail
              go_meet
              exact ⟨_, rfl, hged10, setRow_heap vd13 (w8.heap.size) _ #[.int .i64 J, .int .i64 CA, .int .i64 C1, .int .i64 SB, .int .i64 S1, .int .i64 20, .int .i64 0, .int .i64 W3] _ _ hAd13, below_setRow hId13 hged10 #[.int .i64 J, .int .i64 CA, .int .i64 C1, .int .i64 SB, .int .i64 S1, .int .i64 20, .int .i64 0, .int .i64 W3]⟩
          case rest =>
            obtain ⟨p23, rfl, hq23, hx23, hb23⟩ := hcut
            have hM9 := HhM8.out.step hb23
            have lx9 := heap_below hb23 Hlx8.out
            have ly9 := heap_below hb23 Hly8.out
            obtain ⟨w9, hw9⟩ : ∃ x, wc = x := ⟨_, rfl⟩
            rw [hw9] at hx23 hM9 lx9 ly9 ⊢
            clear hw9 HhM8 Hlx8 Hly8 hb23 hbc hbl hq23
            obtain ⟨S, hSd⟩ : ∃ S : SecS, (⟨(CA, C1), (SB, S1), 20, (0, W3)⟩ : SecS) = S := ⟨_, rfl⟩
            have hSok : S.ok := by rw [← hSd]; constructor <;> simp only <;> omega
            have hSC : secC J S = #[.int .i64 J, .int .i64 CA, .int .i64 C1, .int .i64 SB, .int .i64 S1, .int .i64 20, .int .i64 0, .int .i64 W3] := by rw [← hSd]
            have hspo := spans_ok HhTS.out HhbX.out
            have hho := hold_ok S hSok J xs (some ⟨gx, 0, none⟩) cx (gx + 1) w9 (HRx.out w9 lx9) (by have := lt_of_heap lx9; omega) hspo (by rw [Hhxl.out]; omega)
            rw [hSC, Hhxl.out] at hho
            obtain ⟨may, hmay⟩ : ∃ z, (holdAt S xs ws.length).may = z := ⟨_, rfl⟩
            obtain ⟨must, hmust⟩ : ∃ z, (holdAt S xs ws.length).must = z := ⟨_, rfl⟩
            simp only [hmay, hmust] at hho
            have hx23c := cells_of hx23
            have hx23l := lt_of_heap hx23
            have HhM9 := Lib.hid hM9; clear hM9; have Hlx9 := Lib.hid lx9; clear lx9; have Hly9 := Lib.hid ly9; clear ly9; have Hhx23 := Lib.hid hx23; clear hx23; have HhSok := Lib.hid hSok; clear hSok; have Hhspo := Lib.hid hspo; clear hspo; have Hhho := Lib.hid hho; clear hho; have Hhmay := Lib.hid hmay; clear hmay; have Hhmust := Lib.hid hmust; clear hmust; have HhSd := Lib.hid hSd; clear hSd; have HhSC := Lib.hid hSC; clear hSC
            go_wp2_with fail
            refine Calls.mono Hhho.out ?_
            rintro e w10 ⟨vc, vs, rfl, hr1, hr2, hb10⟩
            obtain ⟨gc, cc, kc, rfl, hgc, lc10, Rc, _⟩ := span_rowC (crests_len S xs (ws.length + 1)) (by omega) (by omega) hr1
            obtain ⟨as5, cs5, rfl⟩ := row_len hr2
            have hM10 := HhM9.out.step hb10
            have lx10 := heap_below hb10 Hlx9.out
            have ly10 := heap_below hb10 Hly9.out
            have hs10 := heap_below hb10 Hhx23.out
            clear HhM9 Hlx9 Hly9 Hhx23 hx23c hx23l hr1 hr2 hb10 Hhho hgc
            have hbc := cells_of hM10.box
            have hbl := lt_of_heap hM10.box
            obtain ⟨nI, hnI⟩ : ∃ z : Int, (ws.length : Int) = z := ⟨_, rfl⟩
            have nI0 : 0 < nI := by omega
            have nI1 : ¬ nI = 0 := by omega
            have nI2 : nI ≤ 8 := by omega
            obtain ⟨AT, hAT⟩ : ∃ z : Int, sp % nI = z := ⟨_, rfl⟩
            have AT0 : 0 ≤ AT := by rw [← hAT]; exact Int.emod_nonneg _ nI1
            have AT1 : AT < nI := by rw [← hAT]; exact Int.emod_lt_of_pos _ nI0
            have HhM10 := Lib.hid hM10; clear hM10; have Hlx10 := Lib.hid lx10; clear lx10; have Hly10 := Lib.hid ly10; clear ly10; have Hhs10 := Lib.hid hs10; clear hs10; have Hlc10 := Lib.hid lc10; clear lc10; have HRc := Lib.hid Rc; clear Rc
            go_upto_region 29 with fail
            have hbF : Below w10.heap.size w10 (w10.alloc (.cells #[.slice (some ⟨gc, 0, none⟩) (ws.length + 1) cc, .slice as5 (ws.length + 1) cs5, .int .i64 may, .int .i64 must] 73)) := bl_alloc (Below.refl _ _) _
            have hM11 := HhM10.out.step hbF
            have lx11 := heap_below hbF Hlx10.out
            have ly11 := heap_below hbF Hly10.out
            have hs11 := heap_below hbF Hhs10.out
            have lc11 := heap_below hbF Hlc10.out
            have f11 := heap_alloc_at w10 (.cells #[.slice (some ⟨gc, 0, none⟩) (ws.length + 1) cc, .slice as5 (ws.length + 1) cs5, .int .i64 may, .int .i64 must] 73)
            obtain ⟨p24, hp24⟩ : ∃ q, w10.heap.size = q := ⟨_, rfl⟩
            rw [hp24] at f11 ⊢
            generalize w10.alloc (.cells #[.slice (some ⟨gc, 0, none⟩) (ws.length + 1) cc, .slice as5 (ws.length + 1) cs5, .int .i64 may, .int .i64 must] 73) = w11 at hM11 lx11 ly11 hs11 lc11 f11 ⊢
            clear hbF HhM10 Hlx10 Hly10 Hhs10 Hlc10 hbc hbl hp24
            have hpc := cells_of hM11.hp
            have hpl := lt_of_heap hM11.hp
            have hsc := cells_of hs11
            have hsl := lt_of_heap hs11
            have hfc := cells_of f11
            have hfl := lt_of_heap f11
            have HhM11 := Lib.hid hM11; clear hM11; have Hlx11 := Lib.hid lx11; clear lx11; have Hly11 := Lib.hid ly11; clear ly11; have Hhs11 := Lib.hid hs11; clear hs11; have Hlc11 := Lib.hid lc11; clear lc11; have Hf11 := Lib.hid f11; clear f11
            have hra : ∀ V, Below w11.heap.size w11 V → ∀ q, V.heap[q]? = some (.cells #[.int .i64 J, .int .i64 CA, .int .i64 C1, .int .i64 SB, .int .i64 S1, .int .i64 20, .int .i64 0, .int .i64 W3] 71 (0, 0)) → ∀ r, V.heap[r]? = some (.cells #[.slice (some ⟨gc, 0, none⟩) (ws.length + 1) cc, .slice as5 (ws.length + 1) cs5, .int .i64 may, .int .i64 must] 73 (0, 0)) → Calls Try.prog 17 #[.agg #[.int .i64 s.wd, .int .i64 s.ht, .int .i64 500, .slice (some ⟨g3, 0, none⟩) N k3], .slice (some ⟨q, 0, none⟩) 1 1, .slice (some ⟨r, 0, none⟩) 1 1, .int .i64 AT] V fun e w' =>
              ∃ g' cap', e = .returned (.tuple #[.agg #[.int .i64 s.wd, .int .i64 s.ht, .int .i64 500, .slice (some ⟨g', 0, none⟩) N cap'], .int .i64 0]) ∧
                w'.ownsRow V.heap.size 46 2 (.slice (some ⟨g', 0, none⟩) N cap') N (wcells (raisedG s S xs AT J may must)) ∧ Below V.heap.size V w' := fun V hV q hq r hr =>
              brc_raise s Hhs.out N ws.length HhN.out S HhSok.out xs Hhspo.out J AT J0 (by omega) AT0 (by omega) (by omega) g3 k3 gc cc (ws.length + 1) cs5 kc3 kc as5 HhR3.out HRc.out may must q r V (heap_below hV HhM11.out.hk) (heap_below hV Hlc11.out) (by rw [HhSC.out]; exact hq) hr
            have hrx := hra _ (bl_alloc (bl_alloc (Below.refl w11.heap.size w11) (.cells #[.int .i64 J, .int .i64 CA, .int .i64 C1, .int .i64 SB, .int .i64 S1, .int .i64 20, .int .i64 0, .int .i64 W3] 71)) (.cells #[.slice (some ⟨gc, 0, none⟩) (ws.length + 1) cc, .slice as5 (ws.length + 1) cs5, .int .i64 may, .int .i64 must] 73)) w11.heap.size (heap_alloc_off (heap_alloc_at _ _) _) (w11.heap.size + 1) (heap_alloc_at' _ _ (by simp))
            clear hra
            have Hhrx := Lib.hid hrx; clear hrx
            go_wp2_with fail
            refine Calls.mono Hhrx.out ?_
            rintro e w12 ⟨g5, c5', rfl, hr5, hb12⟩
            have hB12 : Below w11.heap.size w11 w12 := bl_step (bl_alloc (bl_alloc (Below.refl _ _) _) _) hb12
            obtain ⟨g5', c5x, k5, hv5, hg5, l5, R5, _⟩ := span_rowC ((raisedG_len s S xs AT J may must).trans HhN.out) (by omega) (by omega) hr5
            simp only [Value.slice.injEq, Option.some.injEq, Addr.mk.injEq, and_true, true_and] at hv5
            obtain ⟨rfl, rfl⟩ := hv5
            have ng5 : g5 ≠ g4 := by have := lt_of_heap HhM11.out.ht; simp at hg5; omega
            clear hg5
            have hM12 := HhM11.out.step hB12
            have lx12 := heap_below hB12 Hlx11.out
            have ly12 := heap_below hB12 Hly11.out
            have hs12 := heap_below hB12 Hhs11.out
            clear hr5 hb12 hB12 HhM11 Hlx11 Hly11 Hhs11 Hlc11 Hf11 hpc hpl hsc hsl hfc hfl Hhrx
            have HhM12 := Lib.hid hM12; clear hM12; have Hlx12 := Lib.hid lx12; clear lx12; have Hly12 := Lib.hid ly12; clear ly12; have Hhs12 := Lib.hid hs12; clear hs12; have Hl5 := Lib.hid l5; clear l5; have HR5 := Lib.hid R5; clear R5
            go_upto_region 32 with fail
            have hL : LM w #[.int .u8 s.wide, .int .u8 s.high, .slice al s.low.length cl, .slice am s.more.length cm, .slice aw s.where_.length cw, .int .u8 cell, .int .u8 cr, .int .u8 st, .int .u8 we, .slice a5 ws.length c5, .int .u8 sp, .slice ah wh.length ch] (gridV s g3 N k3) (gridV s g4 N k4) p3 p4 g3 g4 p5 kc3 kc4 p23 w12.heap.size g5 gx gy #[.int .i64 J, .int .i64 CA, .int .i64 C1, .int .i64 SB, .int .i64 S1, .int .i64 20, .int .i64 0, .int .i64 W3] #[.int .i64 s.wd, .int .i64 s.ht, .int .i64 500, .slice (some ⟨g5, 0, none⟩) N c5'] k5 kx ky cnt (w12.alloc (.cells #[.int .i64 s.wd, .int .i64 s.ht, .int .i64 500, .slice (some ⟨g5, 0, none⟩) N c5'] 36)) :=
              ⟨HhM12.out.step (bl_alloc (Below.refl _ _) _), heap_alloc_off Hhs12.out _, heap_alloc_at _ _, heap_alloc_off Hl5.out _, heap_alloc_off Hlx12.out _, heap_alloc_off Hly12.out _⟩
            obtain ⟨p27, hp27⟩ : ∃ q, w12.heap.size = q := ⟨_, rfl⟩
            rw [hp27] at hL ⊢
            generalize w12.alloc (.cells #[.int .i64 s.wd, .int .i64 s.ht, .int .i64 500, .slice (some ⟨g5, 0, none⟩) N c5'] 36) = w13 at hL ⊢
            clear HhM12 Hlx12 Hly12 Hhs12 Hl5 hp27
            have hI : w13.drew.heap[p23]? = some (.cells #[.int .i64 J, .int .i64 CA, .int .i64 C1, .int .i64 SB, .int .i64 S1, .int .i64 20, .int .i64 0, .int .i64 W3] 71 (0, 0)) := hL.sec
            have hLd := hL.step (show Below w13.heap.size w13 w13.drew from (Below.refl _ _).drew)
            clear hL
            have HhLd := Lib.hid hLd; clear hLd
            refine wp_region_ord (fun V => V.heap[p23]? = some (.cells #[.int .i64 J, .int .i64 CA, .int .i64 C1, .int .i64 SB, .int .i64 S1, .int .i64 20, .int .i64 0, .int .i64 W3] 71 (0, 0))) [([0, 1, 2, 4, 5, 6], 3), ([], 7)] [8, 9, 10] none (by kernel_rfl) (by kernel_rfl) hI ?_
            refine OrdI_cons ?_
            (apply StI_plain (w0 := w13.drew) hI rfl rfl rfl rfl; (focus (intro W hW K hK; have := cells_of hW; have := lt_of_heap hW; go_step; exact hK)); (focus rfl)); (apply StI_plain (w0 := w13.drew) hI rfl rfl rfl rfl; (focus (intro W hW K hK; have := cells_of hW; have := lt_of_heap hW; go_step; exact hK)); (focus rfl)); (apply StI_plain (w0 := w13.drew) hI rfl rfl rfl rfl; (focus (intro W hW K hK; have := cells_of hW; have := lt_of_heap hW; go_step; exact hK)); (focus rfl)); (apply StI_plain (w0 := w13.drew) hI rfl rfl rfl rfl; (focus (intro W hW K hK; have := cells_of hW; have := lt_of_heap hW; go_step; exact hK)); (focus rfl)); (apply StI_plain (w0 := w13.drew) hI rfl rfl rfl rfl; (focus (intro W hW K hK; have := cells_of hW; have := lt_of_heap hW; go_step; exact hK)); (focus rfl)); (apply StI_plain (w0 := w13.drew) hI rfl rfl rfl rfl; (focus (intro W hW K hK; have := cells_of hW; have := lt_of_heap hW; go_step; exact hK)); (focus rfl))
            (apply StI_eff rfl; go_wp2_with (first | (go_at_call 14; refine Calls.mono (HhCh.out _ CA C1 cnt HhLd.out.bm cnt0 (by omega) (by omega) (by omega) (by omega)) ?_; rintro e w14 ⟨cv, rfl, clo, chi, hcn14, hk14⟩)))
            have hL14 := HhLd.out.keeps hk14 hcn14
            refine onNormal_mk hL14.sec (OrdI_cons ?_)
            (apply StI_eff rfl; go_wp2_with (first | (go_at_call 14; refine Calls.mono (HhCh.out _ SB S1 (cnt + 1) hL14.bm (by omega) (by omega) (by omega) (by omega) (by omega)) ?_; rintro e w15 ⟨tv, rfl, tlo, thi, hcn15, hk15⟩)))
            have hL15 := hL14.keeps hk15 hcn15
            refine onNormal_mk hL15.sec (OrdI_fin ?_)
            (apply StI_plain (w0 := w15) hL15.sec rfl rfl rfl rfl; (focus (intro W hW K hK; skip; go_step; exact hK)); (focus rfl)); (apply StI_plain (w0 := w15) hL15.sec rfl rfl rfl rfl; (focus (intro W hW K hK; skip; go_step; exact hK)); (focus rfl)); (apply StI_plain (w0 := w15) hL15.sec rfl rfl rfl rfl; (focus (intro W hW K hK; skip; go_step; exact hK)); (focus rfl))
            refine StI_nil ?_
            clear hI hL14 hcn14 hk14 hcn15 hk15 HhLd
            have hWI : WallI S xs 0 cv tv false := WallI.start (by rw [← HhSd.out]; exact clo) (by rw [← HhSd.out]; exact chi) (by rw [← HhSd.out]; exact tlo) (by rw [← HhSd.out]; exact thi)
            have hAc : AT ≤ (cy : Int) := by omega
            obtain ⟨an, han⟩ : ∃ a : Nat, (a : Int) = AT := ⟨AT.toNat, by omega⟩
            have hatn : AT.toNat = an := by omega
            have hbp := lt_of_heap hL15.bm.cn
            have HhL15 := Lib.hid hL15; clear hL15; have HhWI := Lib.hid hWI; clear hWI
            go_wp2_with fail
            go_loopw [29, 30, 31, 234] (fun a b c i wr => TruI w #[.int .u8 s.wide, .int .u8 s.high, .slice al s.low.length cl, .slice am s.more.length cm, .slice aw s.where_.length cw, .int .u8 cell, .int .u8 cr, .int .u8 st, .int .u8 we, .slice a5 ws.length c5, .int .u8 sp, .slice ah wh.length ch] (gridV s g3 N k3) (gridV s g4 N k4) p3 p4 g3 g4 p5 kc3 kc4 p23 p27 g5 gx gy #[.int .i64 J, .int .i64 CA, .int .i64 C1, .int .i64 SB, .int .i64 S1, .int .i64 20, .int .i64 0, .int .i64 W3] #[.int .i64 s.wd, .int .i64 s.ht, .int .i64 500, .slice (some ⟨g5, 0, none⟩) N c5'] k5 kx ky S xs an a b c i wr) (fun _ _ _ i _ => an - (intOf i).toNat)
            case atStart => exact ⟨0, cv, tv, cnt + 1 + 1, false, Nat.zero_le _, rfl, rfl, rfl, rfl, by omega, by omega, HhWI.out, HhL15.out⟩
            case round =>
              obtain ⟨k, cw1, tw1, cn, fv, hk, rfl, rfl, rfl, rfl, cn0, cn1, hWI, hL⟩ := hrel
              by_cases hlt : k < an
              · as_aux_lemma =>
                obtain ⟨b, off, hba, hbB, e0, e1⟩ := (HRy.out wr hL.ly).2 k (by rw [Hhyl.out]; omega)
                simp only [Option.some.injEq, Addr.mk.injEq, and_true] at hba
                obtain ⟨rfl, rfl⟩ := hba
                have hsub := two_at HhTS.out k (by rw [Hhxl.out]; omega)
                have hyk : ys[k]'(by rw [Hhyl.out]; omega) = ys.getD k (0, 0) := by rw [List.getD_eq_getElem?_getD, List.getElem?_eq_getElem]; rfl
                have hxv := Hhspo.out (xs.getD k (0, 0)) (by rw [List.getD_eq_getElem?_getD, List.getElem?_eq_getElem (by rw [Hhxl.out]; omega)]; exact List.getElem_mem _)
                rw [hyk] at e0 e1
                obtain ⟨⟨t0, t1⟩, hty⟩ : ∃ z, ys.getD k (0, 0) = z := ⟨_, rfl⟩
                obtain ⟨⟨L0, L1⟩, htx⟩ : ∃ z, xs.getD k (0, 0) = z := ⟨_, rfl⟩
                rw [hty] at e0 e1 hsub
                rw [htx] at hsub hxv
                obtain ⟨s1, s2, s3⟩ := hsub
                simp only [vldB, Bool.and_eq_true, decide_eq_true_eq] at e0 e1 s1 s2 s3 hxv
                obtain ⟨⟨xv1, xv2⟩, xv3⟩ := hxv
                have hhb := holdAt_bd HhSok.out (spans_ord Hhspo.out) k
                have cb : -40000 ≤ cw1 ∧ cw1 ≤ 40000 ∧ -40000 ≤ tw1 ∧ tw1 ≤ 40000 := by
                  have := hWI.c0
                  have := hWI.c1
                  have := hWI.t0
                  have := hWI.t1
                  omega
                obtain ⟨cb0, cb1, cb2, cb3⟩ := cb
                have hyes := fun (y v : Int) (y0 : t0 ≤ y) (y1 : y ≤ t1) (hy : 20 < y) (v0 : 0 ≤ v) (v1 : v ≤ W3) => wall_yes HhSok.out (T := 20) (by rw [← HhSd.out]) (W3 := W3) (by rw [← HhSd.out]) hWI (y := y) (v := v) (by rw [htx]; simp only; omega) (by rw [htx]; simp only; omega) hy v0 v1
                have hnot := fun (y : Int) (y0 : t0 ≤ y) (y1 : y ≤ t1) (hy : ¬ 20 < y) => wall_no HhSok.out (T := 20) (by rw [← HhSd.out]) hWI (y := y) (by rw [htx]; simp only; omega) (by rw [htx]; simp only; omega) hy
                have hlG := lt_of_heap hL.ly
                clear hWI hhb hyk hty htx hbB
                rw [Nat.zero_add] at e0 e1
                have HhL := Lib.hid hL; clear hL; have Hhyes := Lib.hid hyes; clear hyes; have Hhnot := Lib.hid hnot; clear hnot
                go_wp2_with fail
                have hL1 := HhL.out.step (bl_alloc (Below.refl _ _) (.cells #[.int .i64 t0, .int .i64 t1] 46))
                refine Calls.mono (HhCh.out _ t0 t1 cn hL1.bm cn0 (by omega) s3 (by omega) (by omega)) ?_
                rintro e w16 ⟨y, rfl, y0, y1, hcn16, hk16⟩
                have hL2 := hL1.keeps hk16 hcn16
                have hsc := cells_of hL2.sec
                have hsl := lt_of_heap hL2.sec
                clear hL1 HhL hcn16 hk16 e0 e1
                have HhL2 := Lib.hid hL2; clear hL2
                go_upto_region 37 with fail
                go_cut [31] from 241 to 251 (fun v wx => v = .bool (fv || decide (cw1 < y) || decide (tw1 < y)) ∧ wx = w16)
                case first =>
                  cases fv
                  · by_cases z1 : cw1 < y
                    · go_wp2_with fail
                      go_meet
                      exact ⟨by simp [z1], rfl⟩
                    · by_cases z2 : tw1 < y
                      · go_wp2_with fail
                        go_meet
                        exact ⟨by simp [z2], rfl⟩
                      · go_wp2_with fail
                        go_meet
                        have z3 : decide (cw1 < y) = false := decide_eq_false (by omega)
                        have z4 : decide (tw1 < y) = false := decide_eq_false (by omega)
                        exact ⟨by rw [z3, z4]; rfl, rfl⟩
                  · go_wp2_with fail
                    go_meet
                    exact ⟨by simp, rfl⟩
                case rest =>
                obtain ⟨rfl, hwx⟩ := hcut
                rw [hwx]
                clear hwx
                have hyes := Hhyes.out y
                have hnot := Hhnot.out y
                obtain ⟨f2, hf2⟩ : ∃ z, (fv || decide (cw1 < y) || decide (tw1 < y)) = z := ⟨_, rfl⟩
                simp only [hf2] at hyes hnot
                rw [hf2]
                clear hf2 Hhyes Hhnot
                by_cases hty : 20 < y
                · have Hhyes := Lib.hid hyes; clear hyes; have Hhnot := Lib.hid hnot; clear hnot
                  go_wp2_with fail
                  refine Calls.mono (HhCh.out _ 0 W3 (cn + 1) HhL2.out.bm (by omega) (by omega) (by omega) (by omega) (by omega)) ?_
                  rintro e w17 ⟨v, rfl, u0, u1, hcn17, hk17⟩
                  have hL3 := HhL2.out.keeps hk17 hcn17
                  clear hcn17 hk17 hsc hsl
                  have HhL3 := Lib.hid hL3; clear hL3
                  go_wp2_with fail
                  exact ⟨⟨k + 1, cw1 - v, tw1 - v, cn + 1 + 1, f2, by omega, rfl, rfl, rfl, by go_num, by omega, by omega, Hhyes.out v y0 y1 hty u0 u1, HhL3.out⟩, by simp [intOf]; omega⟩
                · have Hhyes := Lib.hid hyes; clear hyes; have Hhnot := Lib.hid hnot; clear hnot
                  go_wp2_with fail
                  exact ⟨⟨k + 1, cw1, tw1, cn + 1, f2, by omega, rfl, rfl, rfl, by go_num, by omega, by omega, Hhnot.out y0 y1 (by omega), HhL2.out⟩, by simp [intOf]; omega⟩
              · have hka : k = an := by omega
                rw [hka, ← hatn] at hWI
                clear hka
                have hrl : J.toNat < s.truth.length := by rw [Hhtl'.out]; omega
                obtain ⟨b, off, hba, hbB, e0, e1⟩ := (HhR4.out wr hL.bm.ht).2 J.toNat hrl
                simp only [Option.some.injEq, Addr.mk.injEq, and_true] at hba
                obtain ⟨rfl, rfl⟩ := hba
                have hr0 : s.truth[J.toNat] = s.truth.getD J.toNat (0, 0) := by rw [List.getD_eq_getElem?_getD, List.getElem?_eq_getElem hrl]; rfl
                have hrt := (s.of_truth (c := J.toNat) (by rw [← s.truth_len]; exact hrl)).1
                have hrp := s.pick_bd Hhs.out J.toNat
                have hrq := s.lo_bd J.toNat
                have hra := s.add_bd Hhs.out J.toNat
                unfold loOf at hrt
                rw [hr0] at e0 e1
                obtain ⟨r1, hr1⟩ : ∃ z, (s.truth.getD J.toNat (0, 0)).2 = z := ⟨_, rfl⟩
                rw [hr1] at e1
                rw [Nat.zero_add] at e1
                clear hr1
                obtain ⟨r0, hr⟩ : ∃ z, (s.truth.getD J.toNat (0, 0)).1 = z := ⟨_, rfl⟩
                rw [hr] at e0 hrt
                rw [Nat.zero_add] at e0
                have hrb : -10000 ≤ r0 ∧ r0 ≤ 10000 := by omega
                have hhb := holdAt_bd HhSok.out (spans_ord Hhspo.out) AT.toNat
                have cb : -40000 ≤ cw1 ∧ cw1 ≤ 40000 := by
                  have := hWI.c0
                  have := hWI.c1
                  omega
                obtain ⟨cb0, cb1⟩ := cb
                obtain ⟨rb0, rb1⟩ := hrb
                obtain ⟨ym, hym⟩ : ∃ z : Int, max r0 cw1 = z := ⟨_, rfl⟩
                have hqc := cells_of hL.bm.hq
                have hql := lt_of_heap hL.bm.hq
                have hg4 := lt_of_heap hL.bm.ht
                clear hhb hbB hr0 hrt hrp hrq hra
                have HhL := Lib.hid hL; clear hL; have HhWI := Lib.hid hWI; clear hWI; have Hhr := Lib.hid hr; clear hr
                go_upto_if 268 with fail
                go_cut [36] from 269 to 283 (fun _ wx => ∃ kq, LM w #[.int .u8 s.wide, .int .u8 s.high, .slice al s.low.length cl, .slice am s.more.length cm, .slice aw s.where_.length cw, .int .u8 cell, .int .u8 cr, .int .u8 st, .int .u8 we, .slice a5 ws.length c5, .int .u8 sp, .slice ah wh.length ch] (gridV s g3 N k3) (gridV s g4 N k4) p3 p4 g3 g4 p5 kc3 kq p23 p27 g5 gx gy #[.int .i64 J, .int .i64 CA, .int .i64 C1, .int .i64 SB, .int .i64 S1, .int .i64 20, .int .i64 0, .int .i64 W3] #[.int .i64 s.wd, .int .i64 s.ht, .int .i64 500, .slice (some ⟨g5, 0, none⟩) N c5'] k5 kx ky cn wx ∧ RowAt g4 (.cells kq 46 (0, 0)) (trueG s J cw1 fv))
                case first =>
                  clear hqc hql hg4
                  have Hhym := Lib.hid hym; clear hym
                  cases fv with
                  | true =>
                    go_wp2_with fail
                    go_meet
                    exact ⟨kc4, HhL.out, by unfold trueG; rw [if_pos rfl]; exact HhR4.out⟩
                  | false =>
                    have hqc := cells_of HhL.out.bm.hq
                    have hql := lt_of_heap HhL.out.bm.hq
                    have hg4 := lt_of_heap HhL.out.bm.ht
                    go_upto_region 44 with fail
                    have hI : Below wr.heap.size wr wr.drew := (Below.refl _ _).drew
                    refine wp_region_ord (fun V => Below wr.heap.size wr V) [([0, 1, 2, 3, 4], 5)] [6] (some 7) (by kernel_rfl) (by kernel_rfl) hI ?_
                    refine OrdI_cons ?_
                    (apply StI_plain (w0 := wr.drew) hI rfl rfl rfl rfl; (focus (intro W hW K hK; obtain ⟨_, _⟩ := bk p4 hW hql; go_step; exact hK)); (focus rfl)); (apply StI_plain (w0 := wr.drew) hI rfl rfl rfl rfl; (focus (intro W hW K hK; obtain ⟨_, _⟩ := bk p4 hW hql; go_step; exact hK)); (focus rfl)); (apply StI_plain (w0 := wr.drew) hI rfl rfl rfl rfl; (focus (intro W hW K hK; obtain ⟨_, _⟩ := bk p4 hW hql; go_step; exact hK)); (focus rfl)); (apply StI_plain (w0 := wr.drew) hI rfl rfl rfl rfl; (focus (intro W hW K hK; obtain ⟨_, _⟩ := bk p4 hW hql; go_step; exact hK)); (focus rfl)); (apply StI_plain (w0 := wr.drew) hI rfl rfl rfl rfl; (focus (intro W hW K hK; obtain ⟨_, _⟩ := bk p4 hW hql; go_step; exact hK)); (focus rfl))
                    (apply StI_eff rfl; go_wp2_with (first | (go_at_call 8; refine (tspan_any _ _ _).mono ?_; rintro e x1 ⟨rfl, hy1⟩)))
                    have hI1 : Below wr.heap.size wr x1 := below_mid hI (Nat.le_refl _) hy1
                    refine onNormal_mk hI1 (OrdI_snk ?_)
                    (apply StI_plain (w0 := x1) hI1 rfl rfl rfl rfl; (focus (intro W hW K hK; skip; go_step; exact hK)); (focus rfl))
                    have hL1 := HhL.out.step hI1
                    have hgf := frozen_of hL1.bm.ht
                    have hgl := lt_of_heap hL1.bm.ht
                    have f0 := (hI1.cell (p := ⟨g4, J.toNat * 2, none⟩) hg4).trans e0
                    have f1 := (hI1.cell (p := ⟨g4, J.toNat * 2 + 1, none⟩) hg4).trans e1
                    clear hI hI1 hy1 hqc hql hg4 e0 e1
                    have HhL1 := Lib.hid hL1; clear hL1
                    (apply StI_eff rfl; go_wp2_with (first | fail))
                    refine onNormal_last ?_
                    go_wp2_with fail
                    go_meet
                    refine ⟨_, (HhL1.out.set4 nkt ng5 ngx ngy nw4 _ _).set4 nkt ng5 ngx ngy nw4 _ _, ?_⟩
                    have hset := rowAt_set HhR4.out HhL1.out.bm.ht hrl ym ym
                    unfold trueG
                    rw [if_neg (by simp), Hhr.out, Hhym.out]
                    exact hset
                case rest =>
                  obtain ⟨kq, hL, hR9⟩ := hcut
                  obtain ⟨w18, hw18⟩ : ∃ x, wc = x := ⟨_, rfl⟩
                  rw [hw18] at hL ⊢
                  clear hw18 HhL e0 e1 hqc hql hg4
                  have hJn : J.toNat < s.wd * s.ht := by rw [HhN.out]; omega
                  have hgr := fun d hd => ground_at Hhs.out HhSok.out Hhspo.out (n := ws.length) hJn AT0 (by omega) (by omega) HhWI.out (d := d) hd
                  rw [Hhmay.out, Hhmust.out] at hgr
                  have gkR := gok_of (raisedG_len s S xs AT J may must) (fun d hd => by have := hgr d hd; omega)
                  have gkT := gok_of (trueG_len s J cw1 fv) (fun d hd => by have := hgr d hd; omega)
                  have lnR := (raisedG_len s S xs AT J may must).trans HhN.out
                  have lnT := (trueG_len s J cw1 fv).trans HhN.out
                  have hR5 := HR5.out
                  obtain ⟨GR, hGR⟩ : ∃ l, raisedG s S xs AT J may must = l := ⟨_, rfl⟩
                  obtain ⟨GT, hGT⟩ : ∃ l, trueG s J cw1 fv = l := ⟨_, rfl⟩
                  rw [hGR] at gkR lnR hR5
                  rw [hGT] at gkT lnT hR9
                  rw [hGR, hGT] at hgr
                  have hat1 : AT.toNat < xs.length := by rw [Hhxl.out]; omega
                  have hat2 : AT.toNat < ys.length := by rw [Hhyl.out]; omega
                  obtain ⟨b1, o1, hb1, hbB1, e0, e1⟩ := (HRx.out w18 hL.lx).2 AT.toNat hat1
                  simp only [Option.some.injEq, Addr.mk.injEq, and_true] at hb1
                  obtain ⟨rfl, rfl⟩ := hb1
                  obtain ⟨b2, o2, hb2, hbB2, f0, f1⟩ := (HRy.out w18 hL.ly).2 AT.toNat hat2
                  simp only [Option.some.injEq, Addr.mk.injEq, and_true] at hb2
                  obtain ⟨rfl, rfl⟩ := hb2
                  have hsub := two_at HhTS.out AT.toNat hat1
                  have hxv := Hhspo.out _ (List.getElem_mem hat1)
                  rw [List.getD_eq_getElem?_getD, List.getD_eq_getElem?_getD, List.getElem?_eq_getElem hat1, List.getElem?_eq_getElem hat2] at hsub
                  obtain ⟨⟨L0, L1⟩, hLL⟩ : ∃ z, xs[AT.toNat] = z := ⟨_, rfl⟩
                  obtain ⟨⟨T0, T1⟩, hTT⟩ : ∃ z, ys[AT.toNat] = z := ⟨_, rfl⟩
                  rw [hLL] at hsub hxv e0 e1
                  rw [hTT] at hsub f0 f1
                  simp only [Option.getD_some] at hsub
                  simp only [vldB, Bool.and_eq_true, decide_eq_true_eq] at hxv e0 e1 f0 f1
                  rw [Nat.zero_add] at e0 e1 f0 f1
                  rw [hatn] at e0 e1 f0 f1
                  obtain ⟨⟨xv1, xv2⟩, xv3⟩ := hxv
                  have hsubc := hsub
                  obtain ⟨sb1, sb2, sb3⟩ := hsubc
                  simp only at sb1 sb2 sb3
                  have hF1 := fun W q (hg : W.heap[g5]? = some (.cells k5 46 (0, 0))) hq => flood_zero Hhs.out HhN.out lnR gkR hR5 c5' q L0 L1 xv1 xv2 xv3 W hg hq
                  have hF2 := fun W q (hg : W.heap[g4]? = some (.cells kq 46 (0, 0))) hq => flood_zero Hhs.out HhN.out lnT gkT hR9 k4 q T0 T1 sb3 (by omega) (by omega) W hg hq
                  have hrc := cells_of hL.rg
                  have hrl2 := lt_of_heap hL.rg
                  have hlxl := lt_of_heap hL.lx
                  have hlyl := lt_of_heap hL.ly
                  clear hLL hTT hbB1 hbB2
                  have HhL := Lib.hid hL; clear hL; have HhR9 := Lib.hid hR9; clear hR9; have HhR5 := Lib.hid hR5; clear hR5; have HhF1 := Lib.hid hF1; clear hF1; have HhF2 := Lib.hid hF2; clear hF2; have Hhgr := Lib.hid hgr; clear hgr; have Hhsub := Lib.hid hsub; clear hsub; have HgkR := Lib.hid gkR; clear gkR; have HgkT := Lib.hid gkT; clear gkT; have HlnR := Lib.hid lnR; clear lnR; have HlnT := Lib.hid lnT; clear lnT; have HhGR := Lib.hid hGR; clear hGR; have HhGT := Lib.hid hGT; clear hGT; have Hf0 := Lib.hid f0; clear f0; have Hf1 := Lib.hid f1; clear f1
                  go_upto_region 45 with fail
                  have hI : Below w18.heap.size w18 w18.drew := (Below.refl _ _).drew
                  refine wp_region_ord (fun V => Below w18.heap.size w18 V) [([0, 2, 3, 4, 5], 1), ([], 6)] [7, 8, 9, 10, 11, 12, 13] none (by kernel_rfl) (by kernel_rfl) hI ?_
                  refine OrdI_cons ?_
                  (apply StI_plain (w0 := w18.drew) hI rfl rfl rfl rfl; (focus (intro W hW K hK; obtain ⟨_, _⟩ := bk p27 hW hrl2; obtain ⟨_, _⟩ := bk gx hW hlxl; go_step; exact hK)); (focus rfl)); (apply StI_plain (w0 := w18.drew) hI rfl rfl rfl rfl; (focus (intro W hW K hK; obtain ⟨_, _⟩ := bk p27 hW hrl2; obtain ⟨_, _⟩ := bk gx hW hlxl; go_step; exact hK)); (focus rfl)); (apply StI_plain (w0 := w18.drew) hI rfl rfl rfl rfl; (focus (intro W hW K hK; obtain ⟨_, _⟩ := bk p27 hW hrl2; obtain ⟨_, _⟩ := bk gx hW hlxl; go_step; exact hK)); (focus rfl)); (apply StI_plain (w0 := w18.drew) hI rfl rfl rfl rfl; (focus (intro W hW K hK; obtain ⟨_, _⟩ := bk p27 hW hrl2; obtain ⟨_, _⟩ := bk gx hW hlxl; go_step; exact hK)); (focus rfl)); (apply StI_plain (w0 := w18.drew) hI rfl rfl rfl rfl; (focus (intro W hW K hK; obtain ⟨_, _⟩ := bk p27 hW hrl2; obtain ⟨_, _⟩ := bk gx hW hlxl; go_step; exact hK)); (focus rfl))
                  (apply StI_eff rfl; go_wp2_with (first | fail))
                  have hI1 : Below w18.heap.size w18 (w18.alloc (.cells #[.int .i64 0] 3)).drew := ((Below.refl _ _).alloc (Nat.le_refl _) _).drew
                  have hq1 := heap_drew' (heap_alloc_at w18 (.cells #[.int .i64 0] 3))
                  generalize (w18.alloc (.cells #[.int .i64 0] 3)).drew = x1 at hI1 hq1 ⊢
                  refine onNormal_mk hI1 (OrdI_cons ?_)
                  (apply StI_eff rfl; go_wp2_with (first | (go_at_call 10; refine (HhF1.out x1 _ (heap_below hI1 HhL.out.r5) hq1).mono ?_; rintro e x2 ⟨loR, hiR, aS, aM, cS, cM, rfl, hR1, hR2, hS1, hS2, hy2⟩)))
                  have hI2 : Below w18.heap.size w18 x2 := below_mid hI1 (Nat.le_refl _) hy2
                  refine onNormal_mk hI2 (OrdI_fin ?_)
                  (apply StI_plain (w0 := x2) hI2 rfl rfl rfl rfl; (focus (intro W hW K hK; skip; go_step; exact hK)); (focus rfl)); (apply StI_plain (w0 := x2) hI2 rfl rfl rfl rfl; (focus (intro W hW K hK; skip; go_step; exact hK)); (focus rfl)); (apply StI_plain (w0 := x2) hI2 rfl rfl rfl rfl; (focus (intro W hW K hK; skip; go_step; exact hK)); (focus rfl)); (apply StI_plain (w0 := x2) hI2 rfl rfl rfl rfl; (focus (intro W hW K hK; skip; go_step; exact hK)); (focus rfl)); (apply StI_plain (w0 := x2) hI2 rfl rfl rfl rfl; (focus (intro W hW K hK; skip; go_step; exact hK)); (focus rfl)); (apply StI_plain (w0 := x2) hI2 rfl rfl rfl rfl; (focus (intro W hW K hK; skip; go_step; exact hK)); (focus rfl)); (apply StI_plain (w0 := x2) hI2 rfl rfl rfl rfl; (focus (intro W hW K hK; skip; go_step; exact hK)); (focus rfl))
                  refine StI_nil ?_
                  have hL2 := HhL.out.step hI2
                  have f02 := (hI2.cell (p := ⟨gy, an * 2, none⟩) hlyl).trans Hf0.out
                  have f12 := (hI2.cell (p := ⟨gy, an * 2 + 1, none⟩) hlyl).trans Hf1.out
                  clear hI hI1 hI2 hq1 hy2 hrc hrl2 hlxl hlyl e0 e1 HhL Hf0 Hf1
                  have hqc := cells_of hL2.bm.hq
                  have hql := lt_of_heap hL2.bm.hq
                  have hlyl := lt_of_heap hL2.ly
                  have HhL2 := Lib.hid hL2; clear hL2; have HhR1 := Lib.hid hR1; clear hR1; have HhR2 := Lib.hid hR2; clear hR2; have HhS1 := Lib.hid hS1; clear hS1; have HhS2 := Lib.hid hS2; clear hS2
                  go_upto_region 46 with fail
                  have hI : Below x2.heap.size x2 x2.drew := (Below.refl _ _).drew
                  refine wp_region_ord (fun V => Below x2.heap.size x2 V) [([0, 2, 3, 4, 5], 1), ([], 6)] [7, 8, 9, 10, 11, 12, 13] none (by kernel_rfl) (by kernel_rfl) hI ?_
                  refine OrdI_cons ?_
                  (apply StI_plain (w0 := x2.drew) hI rfl rfl rfl rfl; (focus (intro W hW K hK; obtain ⟨_, _⟩ := bk p4 hW hql; obtain ⟨_, _⟩ := bk gy hW hlyl; go_step; exact hK)); (focus rfl)); (apply StI_plain (w0 := x2.drew) hI rfl rfl rfl rfl; (focus (intro W hW K hK; obtain ⟨_, _⟩ := bk p4 hW hql; obtain ⟨_, _⟩ := bk gy hW hlyl; go_step; exact hK)); (focus rfl)); (apply StI_plain (w0 := x2.drew) hI rfl rfl rfl rfl; (focus (intro W hW K hK; obtain ⟨_, _⟩ := bk p4 hW hql; obtain ⟨_, _⟩ := bk gy hW hlyl; go_step; exact hK)); (focus rfl)); (apply StI_plain (w0 := x2.drew) hI rfl rfl rfl rfl; (focus (intro W hW K hK; obtain ⟨_, _⟩ := bk p4 hW hql; obtain ⟨_, _⟩ := bk gy hW hlyl; go_step; exact hK)); (focus rfl)); (apply StI_plain (w0 := x2.drew) hI rfl rfl rfl rfl; (focus (intro W hW K hK; obtain ⟨_, _⟩ := bk p4 hW hql; obtain ⟨_, _⟩ := bk gy hW hlyl; go_step; exact hK)); (focus rfl))
                  (apply StI_eff rfl; go_wp2_with (first | fail))
                  have hI1 : Below x2.heap.size x2 (x2.alloc (.cells #[.int .i64 0] 3)).drew := ((Below.refl _ _).alloc (Nat.le_refl _) _).drew
                  have hq1 := heap_drew' (heap_alloc_at x2 (.cells #[.int .i64 0] 3))
                  generalize (x2.alloc (.cells #[.int .i64 0] 3)).drew = x3 at hI1 hq1 ⊢
                  refine onNormal_mk hI1 (OrdI_cons ?_)
                  (apply StI_eff rfl; go_wp2_with (first | (go_at_call 10; refine (HhF2.out x3 _ (heap_below hI1 HhL2.out.bm.ht) hq1).mono ?_; rintro e x4 ⟨loT, hiT, aD, aC, cD, cC, rfl, hT1, hT2, hD1, hD2, hy4⟩)))
                  have hI2 : Below x2.heap.size x2 x4 := below_mid hI1 (Nat.le_refl _) hy4
                  refine onNormal_mk hI2 (OrdI_fin ?_)
                  (apply StI_plain (w0 := x4) hI2 rfl rfl rfl rfl; (focus (intro W hW K hK; skip; go_step; exact hK)); (focus rfl)); (apply StI_plain (w0 := x4) hI2 rfl rfl rfl rfl; (focus (intro W hW K hK; skip; go_step; exact hK)); (focus rfl)); (apply StI_plain (w0 := x4) hI2 rfl rfl rfl rfl; (focus (intro W hW K hK; skip; go_step; exact hK)); (focus rfl)); (apply StI_plain (w0 := x4) hI2 rfl rfl rfl rfl; (focus (intro W hW K hK; skip; go_step; exact hK)); (focus rfl)); (apply StI_plain (w0 := x4) hI2 rfl rfl rfl rfl; (focus (intro W hW K hK; skip; go_step; exact hK)); (focus rfl)); (apply StI_plain (w0 := x4) hI2 rfl rfl rfl rfl; (focus (intro W hW K hK; skip; go_step; exact hK)); (focus rfl)); (apply StI_plain (w0 := x4) hI2 rfl rfl rfl rfl; (focus (intro W hW K hK; skip; go_step; exact hK)); (focus rfl))
                  refine StI_nil ?_
                  have hL4 := HhL2.out.step hI2
                  have hS3 := (HhS1.out.below (ek_bool _) hI2).mono hI2.size
                  have hS4 := (HhS2.out.below (ek_bool _) hI2).mono hI2.size
                  clear hI hI1 hI2 hq1 hy4 hqc hql hlyl f02 f12 HhL2 HhS1 HhS2 HhF1 HhF2
                  have hfl := fun (c : Nat) (hc : c < N) => breach_floods (sea := [0]) (fun d hd => by have e : d = 0 := (by simpa using hd); rw [e, HhN.out]; exact hN0) (fun d hd => by have := Hhgr.out d hd; unfold loOf hiOf; omega) HhR1.out HhR2.out hT1 hT2 Hhsub.out (c := c) (by rw [HhN.out]; exact hc)
                  have lnS : hiR.length = N := HhR2.out.len.trans HhN.out
                  have lnM : loR.length = N := HhR1.out.len.trans HhN.out
                  have lnD : hiT.length = N := hT2.len.trans HhN.out
                  have lnC : loT.length = N := hT1.len.trans HhN.out
                  have hpc := cells_of hL4.bm.hp
                  have hpl := lt_of_heap hL4.bm.hp
                  have HhL4 := Lib.hid hL4; clear hL4; have HhS3 := Lib.hid hS3; clear hS3; have HhS4 := Lib.hid hS4; clear hS4; have HhD1 := Lib.hid hD1; clear hD1; have HhD2 := Lib.hid hD2; clear hD2; have Hhfl := Lib.hid hfl; clear hfl; have HlnS := Lib.hid lnS; clear lnS; have HlnM := Lib.hid lnM; clear lnM; have HlnD := Lib.hid lnD; clear lnD; have HlnC := Lib.hid lnC; clear lnC; have HhT1 := Lib.hid hT1; clear hT1; have HhT2 := Lib.hid hT2; clear hT2
                  go_wp2_with fail
                  go_loopw [343] (fun i wr => LoopB N x4 i wr) (fun i _ => N - (intOf i).toNat)
                  case atStart => exact ⟨0, Nat.zero_le _, rfl, Below.refl _ _⟩
                  case round =>
                    obtain ⟨c, hc, rfl, hb⟩ := hrel
                    by_cases hcl : c < N
                    · as_aux_lemma =>
                      obtain ⟨bS, oS, rfl, hbS, eS⟩ := bool_at (HhS3.out.below (ek_bool _) hb) HlnS.out hcl
                      obtain ⟨bD, oD, rfl, hbD, eD⟩ := bool_at (HhD1.out.below (ek_bool _) hb) HlnD.out hcl
                      obtain ⟨bC, oC, rfl, hbC, eC⟩ := bool_at (HhD2.out.below (ek_bool _) hb) HlnC.out hcl
                      obtain ⟨bM, oM, rfl, hbM, eM⟩ := bool_at (HhS4.out.below (ek_bool _) hb) HlnM.out hcl
                      obtain ⟨i1, i2, i3⟩ := Hhfl.out c hcl
                      have hLc := HhL4.out.step hb
                      have hqc := cells_of hLc.bm.hq
                      have hql := lt_of_heap hLc.bm.hq
                      have hrc := cells_of hLc.rg
                      have hrl := lt_of_heap hLc.rg
                      have hg4 := lt_of_heap hLc.bm.ht
                      have hg5 := lt_of_heap hLc.r5
                      have hcT : c < GT.length := by rw [HlnT.out]; exact hcl
                      have hcR : c < GR.length := by rw [HlnR.out]; exact hcl
                      obtain ⟨bG, oG, hbG, hG1, e0, e1⟩ := (HhR9.out wr hLc.bm.ht).2 c hcT
                      simp only [Option.some.injEq, Addr.mk.injEq, and_true] at hbG
                      obtain ⟨rfl, rfl⟩ := hbG
                      obtain ⟨bR, oR, hbR, hR1', f0, f1⟩ := (HhR5.out wr hLc.r5).2 c hcR
                      simp only [Option.some.injEq, Addr.mk.injEq, and_true] at hbR
                      obtain ⟨rfl, rfl⟩ := hbR
                      have hgc := Hhgr.out c (by rw [HhN.out]; exact hcl)
                      simp only [List.getD_eq_getElem?_getD, List.getElem?_eq_getElem hcT, List.getElem?_eq_getElem hcR, Option.getD_some] at hgc
                      obtain ⟨⟨G0, G1⟩, hGt⟩ : ∃ z, GT[c] = z := ⟨_, rfl⟩
                      obtain ⟨⟨U0, U1⟩, hGr⟩ : ∃ z, GR[c] = z := ⟨_, rfl⟩
                      rw [hGt] at e0 e1 hgc
                      rw [hGr] at f0 f1 hgc
                      rw [Nat.zero_add] at e0 e1 f0 f1
                      obtain ⟨g1, g2, g3', _, _⟩ := hgc
                      simp only at g1 g2 g3'
                      have hwi := fun W => within_yes (a := G0) (b := G1) (c := U0) (d := U1) g1 g3' (by omega) W
                      clear g1 g2 g3' hGt hGr hG1 hR1' hcT hcR hLc
                      have hszc := hb.size
                      have l1 : bS < wr.heap.size := by omega
                      have l2 : bD < wr.heap.size := by omega
                      have l3 : bC < wr.heap.size := by omega
                      have l4 : bM < wr.heap.size := by omega
                      obtain ⟨ci, hci⟩ : ∃ z : Int, (c : Int) = z := ⟨_, rfl⟩
                      have ci0 : 0 ≤ ci := by omega
                      have ci1 : ci < (N : Int) := by omega
                      have hct : c = ci.toNat := by omega
                      have q1 : decide (hiR.getD c 0 < L0) = true → decide (hiT.getD c 0 < T0) = true := by simp only [decide_eq_true_eq]; exact i1
                      have q2 : decide (hiT.getD c 0 < T0) = true → decide (loT.getD c 0 < T1) = true := by simp only [decide_eq_true_eq]; exact i2
                      have q3 : decide (loT.getD c 0 < T1) = true → decide (loR.getD c 0 < L1) = true := by simp only [decide_eq_true_eq]; exact i3
                      obtain ⟨vS, hvS⟩ : ∃ z, decide (hiR.getD c 0 < L0) = z := ⟨_, rfl⟩
                      obtain ⟨vD, hvD⟩ : ∃ z, decide (hiT.getD c 0 < T0) = z := ⟨_, rfl⟩
                      obtain ⟨vC, hvC⟩ : ∃ z, decide (loT.getD c 0 < T1) = z := ⟨_, rfl⟩
                      obtain ⟨vM, hvM⟩ : ∃ z, decide (loR.getD c 0 < L1) = z := ⟨_, rfl⟩
                      rw [hvS] at q1 eS
                      rw [hvD] at q1 q2 eD
                      rw [hvC] at q2 q3 eC
                      rw [hvM] at q3 eM
                      clear hvS hvD hvC hvM i1 i2 i3
                      rw [hct] at eS eD eC eM e0 e1 f0 f1
                      have hcase : (vS = true ∧ vD = true ∧ vC = true ∧ vM = true) ∨ (vS = false ∧ vD = true ∧ vC = true ∧ vM = true) ∨ (vS = false ∧ vD = false ∧ vC = true ∧ vM = true) ∨ (vS = false ∧ vD = false ∧ vC = false) := by
                        clear eS eD eC eM
                        cases vS <;> cases vD <;> cases vC <;> cases vM <;> simp at q1 q2 q3 ⊢
                      clear q1 q2 q3
                      have Hhb := Lib.hid hb; clear hb; have Hhct := Lib.hid hct; clear hct; have Hhwi := Lib.hid hwi; clear hwi; have Hhcase := Lib.hid hcase; clear hcase
                      rw [hci]
                      go_upto_region 52 with fail
                      have hI : Below wr.heap.size wr wr.drew := (Below.refl _ _).drew
                      refine wp_region_ord (fun V => Below wr.heap.size wr V) [([0, 1, 2, 3, 4, 5, 6, 7, 8, 9], 10)] [11, 12, 13, 14, 15, 16, 17, 18, 19, 20, 21, 22, 23, 24, 25, 26, 27, 28, 29, 30, 31, 32, 33, 34, 35, 36, 37, 38, 39, 40, 41, 42, 43, 44, 45, 46, 47, 48, 49, 50] none (by kernel_rfl) (by kernel_rfl) hI ?_
                      refine OrdI_cons ?_
                      (apply StI_plain (w0 := wr.drew) hI rfl rfl rfl rfl; (focus (intro W hW K hK; obtain ⟨_, _⟩ := bk p4 hW hql; obtain ⟨_, _⟩ := bk p27 hW hrl; obtain ⟨_, _⟩ := bk g4 hW hg4; obtain ⟨_, _⟩ := bk g5 hW hg5; go_step; exact hK)); (focus rfl)); (apply StI_plain (w0 := wr.drew) hI rfl rfl rfl rfl; (focus (intro W hW K hK; obtain ⟨_, _⟩ := bk p4 hW hql; obtain ⟨_, _⟩ := bk p27 hW hrl; obtain ⟨_, _⟩ := bk g4 hW hg4; obtain ⟨_, _⟩ := bk g5 hW hg5; go_step; exact hK)); (focus rfl)); (apply StI_plain (w0 := wr.drew) hI rfl rfl rfl rfl; (focus (intro W hW K hK; obtain ⟨_, _⟩ := bk p4 hW hql; obtain ⟨_, _⟩ := bk p27 hW hrl; obtain ⟨_, _⟩ := bk g4 hW hg4; obtain ⟨_, _⟩ := bk g5 hW hg5; go_step; exact hK)); (focus rfl)); (apply StI_plain (w0 := wr.drew) hI rfl rfl rfl rfl; (focus (intro W hW K hK; obtain ⟨_, _⟩ := bk p4 hW hql; obtain ⟨_, _⟩ := bk p27 hW hrl; obtain ⟨_, _⟩ := bk g4 hW hg4; obtain ⟨_, _⟩ := bk g5 hW hg5; go_step; exact hK)); (focus rfl)); (apply StI_plain (w0 := wr.drew) hI rfl rfl rfl rfl; (focus (intro W hW K hK; obtain ⟨_, _⟩ := bk p4 hW hql; obtain ⟨_, _⟩ := bk p27 hW hrl; obtain ⟨_, _⟩ := bk g4 hW hg4; obtain ⟨_, _⟩ := bk g5 hW hg5; go_step; exact hK)); (focus rfl)); (apply StI_plain (w0 := wr.drew) hI rfl rfl rfl rfl; (focus (intro W hW K hK; obtain ⟨_, _⟩ := bk p4 hW hql; obtain ⟨_, _⟩ := bk p27 hW hrl; obtain ⟨_, _⟩ := bk g4 hW hg4; obtain ⟨_, _⟩ := bk g5 hW hg5; go_step; exact hK)); (focus rfl)); (apply StI_plain (w0 := wr.drew) hI rfl rfl rfl rfl; (focus (intro W hW K hK; obtain ⟨_, _⟩ := bk p4 hW hql; obtain ⟨_, _⟩ := bk p27 hW hrl; obtain ⟨_, _⟩ := bk g4 hW hg4; obtain ⟨_, _⟩ := bk g5 hW hg5; go_step; exact hK)); (focus rfl)); (apply StI_plain (w0 := wr.drew) hI rfl rfl rfl rfl; (focus (intro W hW K hK; obtain ⟨_, _⟩ := bk p4 hW hql; obtain ⟨_, _⟩ := bk p27 hW hrl; obtain ⟨_, _⟩ := bk g4 hW hg4; obtain ⟨_, _⟩ := bk g5 hW hg5; go_step; exact hK)); (focus rfl)); (apply StI_plain (w0 := wr.drew) hI rfl rfl rfl rfl; (focus (intro W hW K hK; obtain ⟨_, _⟩ := bk p4 hW hql; obtain ⟨_, _⟩ := bk p27 hW hrl; obtain ⟨_, _⟩ := bk g4 hW hg4; obtain ⟨_, _⟩ := bk g5 hW hg5; go_step; exact hK)); (focus rfl)); (apply StI_plain (w0 := wr.drew) hI rfl rfl rfl rfl; (focus (intro W hW K hK; obtain ⟨_, _⟩ := bk p4 hW hql; obtain ⟨_, _⟩ := bk p27 hW hrl; obtain ⟨_, _⟩ := bk g4 hW hg4; obtain ⟨_, _⟩ := bk g5 hW hg5; go_step; exact hK)); (focus rfl))
                      (apply StI_eff rfl; go_wp2_with (first | (go_at_call 12; refine (Hhwi.out _).mono ?_; rintro e xA ⟨rfl, hbA⟩)))
                      have hI1 : Below wr.heap.size wr xA := below_mid hI (Nat.le_refl _) hbA
                      refine onNormal_mk hI1 (OrdI_fin ?_)
                      have hcase := Hhcase.out
                      clear hI hbA Hhwi Hhcase hqc hql hrc hrl hg4 hg5 e0 e1 f0 f1
                      rcases hcase with ⟨rfl, rfl, rfl, rfl⟩ | ⟨rfl, rfl, rfl, rfl⟩ | ⟨rfl, rfl, rfl, rfl⟩ | ⟨rfl, rfl, rfl⟩
                      · as_aux_lemma =>
                          (apply StI_plain (w0 := xA) hI1 rfl rfl rfl rfl; (focus (intro W hW K hK; skip; go_step; exact hK)); (focus rfl)); (apply StI_plain (w0 := xA) hI1 rfl rfl rfl rfl; (focus (intro W hW K hK; skip; go_step; exact hK)); (focus rfl))
                          (apply StI_yes (w0 := xA) hI1; (focus rfl); (focus rfl); (focus rfl); (focus rfl); (focus rfl); (focus rfl); (focus rfl); (focus (intro W hW K hK; skip; go_step; exact hK)); (focus rfl)); (apply StI_yes (w0 := xA) hI1; (focus rfl); (focus rfl); (focus rfl); (focus rfl); (focus rfl); (focus rfl); (focus rfl); (focus (intro W hW K hK; skip; go_step; exact hK)); (focus rfl)); (apply StI_yes (w0 := xA) hI1; (focus rfl); (focus rfl); (focus rfl); (focus rfl); (focus rfl); (focus rfl); (focus rfl); (focus (intro W hW K hK; skip; go_step; exact hK)); (focus rfl))
                          (apply StI_yes (w0 := xA) hI1; (focus rfl); (focus rfl); (focus rfl); (focus rfl); (focus rfl); (focus rfl); (focus rfl); (focus (intro W hW K hK; obtain ⟨_, _⟩ := bk bS hW l1; go_step; exact hK)); (focus rfl))
                          (apply StI_yes (w0 := xA) hI1; (focus rfl); (focus rfl); (focus rfl); (focus rfl); (focus rfl); (focus rfl); (focus rfl); (focus (intro W hW K hK; skip; go_step; exact hK)); (focus rfl))
                          (apply StI_yes (w0 := xA) hI1; (focus rfl); (focus rfl); (focus rfl); (focus rfl); (focus rfl); (focus rfl); (focus rfl); (focus (intro W hW K hK; skip; go_step; exact hK)); (focus rfl)); (apply StI_yes (w0 := xA) hI1; (focus rfl); (focus rfl); (focus rfl); (focus rfl); (focus rfl); (focus rfl); (focus rfl); (focus (intro W hW K hK; skip; go_step; exact hK)); (focus rfl)); (apply StI_yes (w0 := xA) hI1; (focus rfl); (focus rfl); (focus rfl); (focus rfl); (focus rfl); (focus rfl); (focus rfl); (focus (intro W hW K hK; skip; go_step; exact hK)); (focus rfl))
                          (apply StI_yes (w0 := xA) hI1; (focus rfl); (focus rfl); (focus rfl); (focus rfl); (focus rfl); (focus rfl); (focus rfl); (focus (intro W hW K hK; obtain ⟨_, _⟩ := bk bD hW l2; go_step; exact hK)); (focus rfl))
                          (apply StI_yes (w0 := xA) hI1; (focus rfl); (focus rfl); (focus rfl); (focus rfl); (focus rfl); (focus rfl); (focus rfl); (focus (intro W hW K hK; skip; go_step; exact hK)); (focus rfl))
                          (apply StI_yes (w0 := xA) hI1; (focus rfl); (focus rfl); (focus rfl); (focus rfl); (focus rfl); (focus rfl); (focus rfl); (focus (intro W hW K hK; skip; go_step; exact hK)); (focus rfl))
                          (apply StI_plain (w0 := xA) hI1 rfl rfl rfl rfl; (focus (intro W hW K hK; skip; go_step; exact hK)); (focus rfl)); (apply StI_plain (w0 := xA) hI1 rfl rfl rfl rfl; (focus (intro W hW K hK; skip; go_step; exact hK)); (focus rfl))
                          (apply StI_yes (w0 := xA) hI1; (focus rfl); (focus rfl); (focus rfl); (focus rfl); (focus rfl); (focus rfl); (focus rfl); (focus (intro W hW K hK; skip; go_step; exact hK)); (focus rfl)); (apply StI_yes (w0 := xA) hI1; (focus rfl); (focus rfl); (focus rfl); (focus rfl); (focus rfl); (focus rfl); (focus rfl); (focus (intro W hW K hK; skip; go_step; exact hK)); (focus rfl)); (apply StI_yes (w0 := xA) hI1; (focus rfl); (focus rfl); (focus rfl); (focus rfl); (focus rfl); (focus rfl); (focus rfl); (focus (intro W hW K hK; skip; go_step; exact hK)); (focus rfl))
                          (apply StI_yes (w0 := xA) hI1; (focus rfl); (focus rfl); (focus rfl); (focus rfl); (focus rfl); (focus rfl); (focus rfl); (focus (intro W hW K hK; obtain ⟨_, _⟩ := bk bD hW l2; go_step; exact hK)); (focus rfl))
                          (apply StI_yes (w0 := xA) hI1; (focus rfl); (focus rfl); (focus rfl); (focus rfl); (focus rfl); (focus rfl); (focus rfl); (focus (intro W hW K hK; skip; go_step; exact hK)); (focus rfl))
                          (apply StI_yes (w0 := xA) hI1; (focus rfl); (focus rfl); (focus rfl); (focus rfl); (focus rfl); (focus rfl); (focus rfl); (focus (intro W hW K hK; skip; go_step; exact hK)); (focus rfl)); (apply StI_yes (w0 := xA) hI1; (focus rfl); (focus rfl); (focus rfl); (focus rfl); (focus rfl); (focus rfl); (focus rfl); (focus (intro W hW K hK; skip; go_step; exact hK)); (focus rfl)); (apply StI_yes (w0 := xA) hI1; (focus rfl); (focus rfl); (focus rfl); (focus rfl); (focus rfl); (focus rfl); (focus rfl); (focus (intro W hW K hK; skip; go_step; exact hK)); (focus rfl))
                          (apply StI_yes (w0 := xA) hI1; (focus rfl); (focus rfl); (focus rfl); (focus rfl); (focus rfl); (focus rfl); (focus rfl); (focus (intro W hW K hK; obtain ⟨_, _⟩ := bk bC hW l3; go_step; exact hK)); (focus rfl))
                          (apply StI_yes (w0 := xA) hI1; (focus rfl); (focus rfl); (focus rfl); (focus rfl); (focus rfl); (focus rfl); (focus rfl); (focus (intro W hW K hK; skip; go_step; exact hK)); (focus rfl))
                          (apply StI_yes (w0 := xA) hI1; (focus rfl); (focus rfl); (focus rfl); (focus rfl); (focus rfl); (focus rfl); (focus rfl); (focus (intro W hW K hK; skip; go_step; exact hK)); (focus rfl))
                          (apply StI_plain (w0 := xA) hI1 rfl rfl rfl rfl; (focus (intro W hW K hK; skip; go_step; exact hK)); (focus rfl)); (apply StI_plain (w0 := xA) hI1 rfl rfl rfl rfl; (focus (intro W hW K hK; skip; go_step; exact hK)); (focus rfl))
                          (apply StI_yes (w0 := xA) hI1; (focus rfl); (focus rfl); (focus rfl); (focus rfl); (focus rfl); (focus rfl); (focus rfl); (focus (intro W hW K hK; skip; go_step; exact hK)); (focus rfl)); (apply StI_yes (w0 := xA) hI1; (focus rfl); (focus rfl); (focus rfl); (focus rfl); (focus rfl); (focus rfl); (focus rfl); (focus (intro W hW K hK; skip; go_step; exact hK)); (focus rfl)); (apply StI_yes (w0 := xA) hI1; (focus rfl); (focus rfl); (focus rfl); (focus rfl); (focus rfl); (focus rfl); (focus rfl); (focus (intro W hW K hK; skip; go_step; exact hK)); (focus rfl))
                          (apply StI_yes (w0 := xA) hI1; (focus rfl); (focus rfl); (focus rfl); (focus rfl); (focus rfl); (focus rfl); (focus rfl); (focus (intro W hW K hK; obtain ⟨_, _⟩ := bk bC hW l3; go_step; exact hK)); (focus rfl))
                          (apply StI_yes (w0 := xA) hI1; (focus rfl); (focus rfl); (focus rfl); (focus rfl); (focus rfl); (focus rfl); (focus rfl); (focus (intro W hW K hK; skip; go_step; exact hK)); (focus rfl))
                          (apply StI_yes (w0 := xA) hI1; (focus rfl); (focus rfl); (focus rfl); (focus rfl); (focus rfl); (focus rfl); (focus rfl); (focus (intro W hW K hK; skip; go_step; exact hK)); (focus rfl)); (apply StI_yes (w0 := xA) hI1; (focus rfl); (focus rfl); (focus rfl); (focus rfl); (focus rfl); (focus rfl); (focus rfl); (focus (intro W hW K hK; skip; go_step; exact hK)); (focus rfl)); (apply StI_yes (w0 := xA) hI1; (focus rfl); (focus rfl); (focus rfl); (focus rfl); (focus rfl); (focus rfl); (focus rfl); (focus (intro W hW K hK; skip; go_step; exact hK)); (focus rfl))
                          (apply StI_yes (w0 := xA) hI1; (focus rfl); (focus rfl); (focus rfl); (focus rfl); (focus rfl); (focus rfl); (focus rfl); (focus (intro W hW K hK; obtain ⟨_, _⟩ := bk bM hW l4; go_step; exact hK)); (focus rfl))
                          (apply StI_yes (w0 := xA) hI1; (focus rfl); (focus rfl); (focus rfl); (focus rfl); (focus rfl); (focus rfl); (focus rfl); (focus (intro W hW K hK; skip; go_step; exact hK)); (focus rfl))
                          (apply StI_yes (w0 := xA) hI1; (focus rfl); (focus rfl); (focus rfl); (focus rfl); (focus rfl); (focus rfl); (focus rfl); (focus (intro W hW K hK; skip; go_step; exact hK)); (focus rfl))
                          (apply StI_plain (w0 := xA) hI1 rfl rfl rfl rfl; (focus (intro W hW K hK; skip; go_step; exact hK)); (focus rfl))
                          refine StI_nil ?_
                          have hbJ := bl_step Hhb.out hI1
                          clear hI1
                          have HhbJ := Lib.hid hbJ; clear hbJ
                          go_wp2_with fail
                          rw [← hci]
                          go_roundw
                          case rel => exact ⟨c + 1, by omega, by go_num, HhbJ.out⟩
                          case measure => simp [intOf]; omega
                      · as_aux_lemma =>
                          (apply StI_plain (w0 := xA) hI1 rfl rfl rfl rfl; (focus (intro W hW K hK; skip; go_step; exact hK)); (focus rfl)); (apply StI_plain (w0 := xA) hI1 rfl rfl rfl rfl; (focus (intro W hW K hK; skip; go_step; exact hK)); (focus rfl))
                          (apply StI_yes (w0 := xA) hI1; (focus rfl); (focus rfl); (focus rfl); (focus rfl); (focus rfl); (focus rfl); (focus rfl); (focus (intro W hW K hK; skip; go_step; exact hK)); (focus rfl)); (apply StI_yes (w0 := xA) hI1; (focus rfl); (focus rfl); (focus rfl); (focus rfl); (focus rfl); (focus rfl); (focus rfl); (focus (intro W hW K hK; skip; go_step; exact hK)); (focus rfl)); (apply StI_yes (w0 := xA) hI1; (focus rfl); (focus rfl); (focus rfl); (focus rfl); (focus rfl); (focus rfl); (focus rfl); (focus (intro W hW K hK; skip; go_step; exact hK)); (focus rfl))
                          (apply StI_yes (w0 := xA) hI1; (focus rfl); (focus rfl); (focus rfl); (focus rfl); (focus rfl); (focus rfl); (focus rfl); (focus (intro W hW K hK; obtain ⟨_, _⟩ := bk bS hW l1; go_step; exact hK)); (focus rfl))
                          (apply StI_yes (w0 := xA) hI1; (focus rfl); (focus rfl); (focus rfl); (focus rfl); (focus rfl); (focus rfl); (focus rfl); (focus (intro W hW K hK; skip; go_step; exact hK)); (focus rfl))
                          (apply StI_no2; (focus rfl); (focus rfl); (focus rfl); (focus rfl); (focus rfl); (focus rfl); (focus (simp only [Act.put, List.setIfInBounds_toArray, List.set_cons_succ, List.set_cons_zero]; exact rfl))); (apply StI_no2; (focus rfl); (focus rfl); (focus rfl); (focus rfl); (focus rfl); (focus rfl); (focus (simp only [Act.put, List.setIfInBounds_toArray, List.set_cons_succ, List.set_cons_zero]; exact rfl))); (apply StI_no2; (focus rfl); (focus rfl); (focus rfl); (focus rfl); (focus rfl); (focus rfl); (focus (simp only [Act.put, List.setIfInBounds_toArray, List.set_cons_succ, List.set_cons_zero]; exact rfl))); (apply StI_no2; (focus rfl); (focus rfl); (focus rfl); (focus rfl); (focus rfl); (focus rfl); (focus (simp only [Act.put, List.setIfInBounds_toArray, List.set_cons_succ, List.set_cons_zero]; exact rfl))); (apply StI_no2; (focus rfl); (focus rfl); (focus rfl); (focus rfl); (focus rfl); (focus rfl); (focus (simp only [Act.put, List.setIfInBounds_toArray, List.set_cons_succ, List.set_cons_zero]; exact rfl)))
                          (apply StI_yes (w0 := xA) hI1; (focus rfl); (focus rfl); (focus rfl); (focus rfl); (focus rfl); (focus rfl); (focus rfl); (focus (intro W hW K hK; skip; go_step; exact hK)); (focus rfl))
                          (apply StI_plain (w0 := xA) hI1 rfl rfl rfl rfl; (focus (intro W hW K hK; skip; go_step; exact hK)); (focus rfl)); (apply StI_plain (w0 := xA) hI1 rfl rfl rfl rfl; (focus (intro W hW K hK; skip; go_step; exact hK)); (focus rfl))
                          (apply StI_yes (w0 := xA) hI1; (focus rfl); (focus rfl); (focus rfl); (focus rfl); (focus rfl); (focus rfl); (focus rfl); (focus (intro W hW K hK; skip; go_step; exact hK)); (focus rfl)); (apply StI_yes (w0 := xA) hI1; (focus rfl); (focus rfl); (focus rfl); (focus rfl); (focus rfl); (focus rfl); (focus rfl); (focus (intro W hW K hK; skip; go_step; exact hK)); (focus rfl)); (apply StI_yes (w0 := xA) hI1; (focus rfl); (focus rfl); (focus rfl); (focus rfl); (focus rfl); (focus rfl); (focus rfl); (focus (intro W hW K hK; skip; go_step; exact hK)); (focus rfl))
                          (apply StI_yes (w0 := xA) hI1; (focus rfl); (focus rfl); (focus rfl); (focus rfl); (focus rfl); (focus rfl); (focus rfl); (focus (intro W hW K hK; obtain ⟨_, _⟩ := bk bD hW l2; go_step; exact hK)); (focus rfl))
                          (apply StI_yes (w0 := xA) hI1; (focus rfl); (focus rfl); (focus rfl); (focus rfl); (focus rfl); (focus rfl); (focus rfl); (focus (intro W hW K hK; skip; go_step; exact hK)); (focus rfl))
                          (apply StI_yes (w0 := xA) hI1; (focus rfl); (focus rfl); (focus rfl); (focus rfl); (focus rfl); (focus rfl); (focus rfl); (focus (intro W hW K hK; skip; go_step; exact hK)); (focus rfl)); (apply StI_yes (w0 := xA) hI1; (focus rfl); (focus rfl); (focus rfl); (focus rfl); (focus rfl); (focus rfl); (focus rfl); (focus (intro W hW K hK; skip; go_step; exact hK)); (focus rfl)); (apply StI_yes (w0 := xA) hI1; (focus rfl); (focus rfl); (focus rfl); (focus rfl); (focus rfl); (focus rfl); (focus rfl); (focus (intro W hW K hK; skip; go_step; exact hK)); (focus rfl))
                          (apply StI_yes (w0 := xA) hI1; (focus rfl); (focus rfl); (focus rfl); (focus rfl); (focus rfl); (focus rfl); (focus rfl); (focus (intro W hW K hK; obtain ⟨_, _⟩ := bk bC hW l3; go_step; exact hK)); (focus rfl))
                          (apply StI_yes (w0 := xA) hI1; (focus rfl); (focus rfl); (focus rfl); (focus rfl); (focus rfl); (focus rfl); (focus rfl); (focus (intro W hW K hK; skip; go_step; exact hK)); (focus rfl))
                          (apply StI_yes (w0 := xA) hI1; (focus rfl); (focus rfl); (focus rfl); (focus rfl); (focus rfl); (focus rfl); (focus rfl); (focus (intro W hW K hK; skip; go_step; exact hK)); (focus rfl))
                          (apply StI_plain (w0 := xA) hI1 rfl rfl rfl rfl; (focus (intro W hW K hK; skip; go_step; exact hK)); (focus rfl)); (apply StI_plain (w0 := xA) hI1 rfl rfl rfl rfl; (focus (intro W hW K hK; skip; go_step; exact hK)); (focus rfl))
                          (apply StI_yes (w0 := xA) hI1; (focus rfl); (focus rfl); (focus rfl); (focus rfl); (focus rfl); (focus rfl); (focus rfl); (focus (intro W hW K hK; skip; go_step; exact hK)); (focus rfl)); (apply StI_yes (w0 := xA) hI1; (focus rfl); (focus rfl); (focus rfl); (focus rfl); (focus rfl); (focus rfl); (focus rfl); (focus (intro W hW K hK; skip; go_step; exact hK)); (focus rfl)); (apply StI_yes (w0 := xA) hI1; (focus rfl); (focus rfl); (focus rfl); (focus rfl); (focus rfl); (focus rfl); (focus rfl); (focus (intro W hW K hK; skip; go_step; exact hK)); (focus rfl))
                          (apply StI_yes (w0 := xA) hI1; (focus rfl); (focus rfl); (focus rfl); (focus rfl); (focus rfl); (focus rfl); (focus rfl); (focus (intro W hW K hK; obtain ⟨_, _⟩ := bk bC hW l3; go_step; exact hK)); (focus rfl))
                          (apply StI_yes (w0 := xA) hI1; (focus rfl); (focus rfl); (focus rfl); (focus rfl); (focus rfl); (focus rfl); (focus rfl); (focus (intro W hW K hK; skip; go_step; exact hK)); (focus rfl))
                          (apply StI_yes (w0 := xA) hI1; (focus rfl); (focus rfl); (focus rfl); (focus rfl); (focus rfl); (focus rfl); (focus rfl); (focus (intro W hW K hK; skip; go_step; exact hK)); (focus rfl)); (apply StI_yes (w0 := xA) hI1; (focus rfl); (focus rfl); (focus rfl); (focus rfl); (focus rfl); (focus rfl); (focus rfl); (focus (intro W hW K hK; skip; go_step; exact hK)); (focus rfl)); (apply StI_yes (w0 := xA) hI1; (focus rfl); (focus rfl); (focus rfl); (focus rfl); (focus rfl); (focus rfl); (focus rfl); (focus (intro W hW K hK; skip; go_step; exact hK)); (focus rfl))
                          (apply StI_yes (w0 := xA) hI1; (focus rfl); (focus rfl); (focus rfl); (focus rfl); (focus rfl); (focus rfl); (focus rfl); (focus (intro W hW K hK; obtain ⟨_, _⟩ := bk bM hW l4; go_step; exact hK)); (focus rfl))
                          (apply StI_yes (w0 := xA) hI1; (focus rfl); (focus rfl); (focus rfl); (focus rfl); (focus rfl); (focus rfl); (focus rfl); (focus (intro W hW K hK; skip; go_step; exact hK)); (focus rfl))
                          (apply StI_yes (w0 := xA) hI1; (focus rfl); (focus rfl); (focus rfl); (focus rfl); (focus rfl); (focus rfl); (focus rfl); (focus (intro W hW K hK; skip; go_step; exact hK)); (focus rfl))
                          (apply StI_plain (w0 := xA) hI1 rfl rfl rfl rfl; (focus (intro W hW K hK; skip; go_step; exact hK)); (focus rfl))
                          refine StI_nil ?_
                          have hbJ := bl_step Hhb.out hI1
                          clear hI1
                          have HhbJ := Lib.hid hbJ; clear hbJ
                          go_wp2_with fail
                          rw [← hci]
                          go_roundw
                          case rel => exact ⟨c + 1, by omega, by go_num, HhbJ.out⟩
                          case measure => simp [intOf]; omega
                      · as_aux_lemma =>
                          (apply StI_plain (w0 := xA) hI1 rfl rfl rfl rfl; (focus (intro W hW K hK; skip; go_step; exact hK)); (focus rfl)); (apply StI_plain (w0 := xA) hI1 rfl rfl rfl rfl; (focus (intro W hW K hK; skip; go_step; exact hK)); (focus rfl))
                          (apply StI_yes (w0 := xA) hI1; (focus rfl); (focus rfl); (focus rfl); (focus rfl); (focus rfl); (focus rfl); (focus rfl); (focus (intro W hW K hK; skip; go_step; exact hK)); (focus rfl)); (apply StI_yes (w0 := xA) hI1; (focus rfl); (focus rfl); (focus rfl); (focus rfl); (focus rfl); (focus rfl); (focus rfl); (focus (intro W hW K hK; skip; go_step; exact hK)); (focus rfl)); (apply StI_yes (w0 := xA) hI1; (focus rfl); (focus rfl); (focus rfl); (focus rfl); (focus rfl); (focus rfl); (focus rfl); (focus (intro W hW K hK; skip; go_step; exact hK)); (focus rfl))
                          (apply StI_yes (w0 := xA) hI1; (focus rfl); (focus rfl); (focus rfl); (focus rfl); (focus rfl); (focus rfl); (focus rfl); (focus (intro W hW K hK; obtain ⟨_, _⟩ := bk bS hW l1; go_step; exact hK)); (focus rfl))
                          (apply StI_yes (w0 := xA) hI1; (focus rfl); (focus rfl); (focus rfl); (focus rfl); (focus rfl); (focus rfl); (focus rfl); (focus (intro W hW K hK; skip; go_step; exact hK)); (focus rfl))
                          (apply StI_no2; (focus rfl); (focus rfl); (focus rfl); (focus rfl); (focus rfl); (focus rfl); (focus (simp only [Act.put, List.setIfInBounds_toArray, List.set_cons_succ, List.set_cons_zero]; exact rfl))); (apply StI_no2; (focus rfl); (focus rfl); (focus rfl); (focus rfl); (focus rfl); (focus rfl); (focus (simp only [Act.put, List.setIfInBounds_toArray, List.set_cons_succ, List.set_cons_zero]; exact rfl))); (apply StI_no2; (focus rfl); (focus rfl); (focus rfl); (focus rfl); (focus rfl); (focus rfl); (focus (simp only [Act.put, List.setIfInBounds_toArray, List.set_cons_succ, List.set_cons_zero]; exact rfl))); (apply StI_no2; (focus rfl); (focus rfl); (focus rfl); (focus rfl); (focus rfl); (focus rfl); (focus (simp only [Act.put, List.setIfInBounds_toArray, List.set_cons_succ, List.set_cons_zero]; exact rfl))); (apply StI_no2; (focus rfl); (focus rfl); (focus rfl); (focus rfl); (focus rfl); (focus rfl); (focus (simp only [Act.put, List.setIfInBounds_toArray, List.set_cons_succ, List.set_cons_zero]; exact rfl)))
                          (apply StI_yes (w0 := xA) hI1; (focus rfl); (focus rfl); (focus rfl); (focus rfl); (focus rfl); (focus rfl); (focus rfl); (focus (intro W hW K hK; skip; go_step; exact hK)); (focus rfl))
                          (apply StI_plain (w0 := xA) hI1 rfl rfl rfl rfl; (focus (intro W hW K hK; skip; go_step; exact hK)); (focus rfl)); (apply StI_plain (w0 := xA) hI1 rfl rfl rfl rfl; (focus (intro W hW K hK; skip; go_step; exact hK)); (focus rfl))
                          (apply StI_yes (w0 := xA) hI1; (focus rfl); (focus rfl); (focus rfl); (focus rfl); (focus rfl); (focus rfl); (focus rfl); (focus (intro W hW K hK; skip; go_step; exact hK)); (focus rfl)); (apply StI_yes (w0 := xA) hI1; (focus rfl); (focus rfl); (focus rfl); (focus rfl); (focus rfl); (focus rfl); (focus rfl); (focus (intro W hW K hK; skip; go_step; exact hK)); (focus rfl)); (apply StI_yes (w0 := xA) hI1; (focus rfl); (focus rfl); (focus rfl); (focus rfl); (focus rfl); (focus rfl); (focus rfl); (focus (intro W hW K hK; skip; go_step; exact hK)); (focus rfl))
                          (apply StI_yes (w0 := xA) hI1; (focus rfl); (focus rfl); (focus rfl); (focus rfl); (focus rfl); (focus rfl); (focus rfl); (focus (intro W hW K hK; obtain ⟨_, _⟩ := bk bD hW l2; go_step; exact hK)); (focus rfl))
                          (apply StI_yes (w0 := xA) hI1; (focus rfl); (focus rfl); (focus rfl); (focus rfl); (focus rfl); (focus rfl); (focus rfl); (focus (intro W hW K hK; skip; go_step; exact hK)); (focus rfl))
                          (apply StI_no2; (focus rfl); (focus rfl); (focus rfl); (focus rfl); (focus rfl); (focus rfl); (focus (simp only [Act.put, List.setIfInBounds_toArray, List.set_cons_succ, List.set_cons_zero]; exact rfl))); (apply StI_no2; (focus rfl); (focus rfl); (focus rfl); (focus rfl); (focus rfl); (focus rfl); (focus (simp only [Act.put, List.setIfInBounds_toArray, List.set_cons_succ, List.set_cons_zero]; exact rfl))); (apply StI_no2; (focus rfl); (focus rfl); (focus rfl); (focus rfl); (focus rfl); (focus rfl); (focus (simp only [Act.put, List.setIfInBounds_toArray, List.set_cons_succ, List.set_cons_zero]; exact rfl))); (apply StI_no2; (focus rfl); (focus rfl); (focus rfl); (focus rfl); (focus rfl); (focus rfl); (focus (simp only [Act.put, List.setIfInBounds_toArray, List.set_cons_succ, List.set_cons_zero]; exact rfl))); (apply StI_no2; (focus rfl); (focus rfl); (focus rfl); (focus rfl); (focus rfl); (focus rfl); (focus (simp only [Act.put, List.setIfInBounds_toArray, List.set_cons_succ, List.set_cons_zero]; exact rfl)))
                          (apply StI_yes (w0 := xA) hI1; (focus rfl); (focus rfl); (focus rfl); (focus rfl); (focus rfl); (focus rfl); (focus rfl); (focus (intro W hW K hK; skip; go_step; exact hK)); (focus rfl))
                          (apply StI_plain (w0 := xA) hI1 rfl rfl rfl rfl; (focus (intro W hW K hK; skip; go_step; exact hK)); (focus rfl)); (apply StI_plain (w0 := xA) hI1 rfl rfl rfl rfl; (focus (intro W hW K hK; skip; go_step; exact hK)); (focus rfl))
                          (apply StI_yes (w0 := xA) hI1; (focus rfl); (focus rfl); (focus rfl); (focus rfl); (focus rfl); (focus rfl); (focus rfl); (focus (intro W hW K hK; skip; go_step; exact hK)); (focus rfl)); (apply StI_yes (w0 := xA) hI1; (focus rfl); (focus rfl); (focus rfl); (focus rfl); (focus rfl); (focus rfl); (focus rfl); (focus (intro W hW K hK; skip; go_step; exact hK)); (focus rfl)); (apply StI_yes (w0 := xA) hI1; (focus rfl); (focus rfl); (focus rfl); (focus rfl); (focus rfl); (focus rfl); (focus rfl); (focus (intro W hW K hK; skip; go_step; exact hK)); (focus rfl))
                          (apply StI_yes (w0 := xA) hI1; (focus rfl); (focus rfl); (focus rfl); (focus rfl); (focus rfl); (focus rfl); (focus rfl); (focus (intro W hW K hK; obtain ⟨_, _⟩ := bk bC hW l3; go_step; exact hK)); (focus rfl))
                          (apply StI_yes (w0 := xA) hI1; (focus rfl); (focus rfl); (focus rfl); (focus rfl); (focus rfl); (focus rfl); (focus rfl); (focus (intro W hW K hK; skip; go_step; exact hK)); (focus rfl))
                          (apply StI_yes (w0 := xA) hI1; (focus rfl); (focus rfl); (focus rfl); (focus rfl); (focus rfl); (focus rfl); (focus rfl); (focus (intro W hW K hK; skip; go_step; exact hK)); (focus rfl)); (apply StI_yes (w0 := xA) hI1; (focus rfl); (focus rfl); (focus rfl); (focus rfl); (focus rfl); (focus rfl); (focus rfl); (focus (intro W hW K hK; skip; go_step; exact hK)); (focus rfl)); (apply StI_yes (w0 := xA) hI1; (focus rfl); (focus rfl); (focus rfl); (focus rfl); (focus rfl); (focus rfl); (focus rfl); (focus (intro W hW K hK; skip; go_step; exact hK)); (focus rfl))
                          (apply StI_yes (w0 := xA) hI1; (focus rfl); (focus rfl); (focus rfl); (focus rfl); (focus rfl); (focus rfl); (focus rfl); (focus (intro W hW K hK; obtain ⟨_, _⟩ := bk bM hW l4; go_step; exact hK)); (focus rfl))
                          (apply StI_yes (w0 := xA) hI1; (focus rfl); (focus rfl); (focus rfl); (focus rfl); (focus rfl); (focus rfl); (focus rfl); (focus (intro W hW K hK; skip; go_step; exact hK)); (focus rfl))
                          (apply StI_yes (w0 := xA) hI1; (focus rfl); (focus rfl); (focus rfl); (focus rfl); (focus rfl); (focus rfl); (focus rfl); (focus (intro W hW K hK; skip; go_step; exact hK)); (focus rfl))
                          (apply StI_plain (w0 := xA) hI1 rfl rfl rfl rfl; (focus (intro W hW K hK; skip; go_step; exact hK)); (focus rfl))
                          refine StI_nil ?_
                          have hbJ := bl_step Hhb.out hI1
                          clear hI1
                          have HhbJ := Lib.hid hbJ; clear hbJ
                          go_wp2_with fail
                          rw [← hci]
                          go_roundw
                          case rel => exact ⟨c + 1, by omega, by go_num, HhbJ.out⟩
                          case measure => simp [intOf]; omega
                      · as_aux_lemma =>
                          (apply StI_plain (w0 := xA) hI1 rfl rfl rfl rfl; (focus (intro W hW K hK; skip; go_step; exact hK)); (focus rfl)); (apply StI_plain (w0 := xA) hI1 rfl rfl rfl rfl; (focus (intro W hW K hK; skip; go_step; exact hK)); (focus rfl))
                          (apply StI_yes (w0 := xA) hI1; (focus rfl); (focus rfl); (focus rfl); (focus rfl); (focus rfl); (focus rfl); (focus rfl); (focus (intro W hW K hK; skip; go_step; exact hK)); (focus rfl)); (apply StI_yes (w0 := xA) hI1; (focus rfl); (focus rfl); (focus rfl); (focus rfl); (focus rfl); (focus rfl); (focus rfl); (focus (intro W hW K hK; skip; go_step; exact hK)); (focus rfl)); (apply StI_yes (w0 := xA) hI1; (focus rfl); (focus rfl); (focus rfl); (focus rfl); (focus rfl); (focus rfl); (focus rfl); (focus (intro W hW K hK; skip; go_step; exact hK)); (focus rfl))
                          (apply StI_yes (w0 := xA) hI1; (focus rfl); (focus rfl); (focus rfl); (focus rfl); (focus rfl); (focus rfl); (focus rfl); (focus (intro W hW K hK; obtain ⟨_, _⟩ := bk bS hW l1; go_step; exact hK)); (focus rfl))
                          (apply StI_yes (w0 := xA) hI1; (focus rfl); (focus rfl); (focus rfl); (focus rfl); (focus rfl); (focus rfl); (focus rfl); (focus (intro W hW K hK; skip; go_step; exact hK)); (focus rfl))
                          (apply StI_no2; (focus rfl); (focus rfl); (focus rfl); (focus rfl); (focus rfl); (focus rfl); (focus (simp only [Act.put, List.setIfInBounds_toArray, List.set_cons_succ, List.set_cons_zero]; exact rfl))); (apply StI_no2; (focus rfl); (focus rfl); (focus rfl); (focus rfl); (focus rfl); (focus rfl); (focus (simp only [Act.put, List.setIfInBounds_toArray, List.set_cons_succ, List.set_cons_zero]; exact rfl))); (apply StI_no2; (focus rfl); (focus rfl); (focus rfl); (focus rfl); (focus rfl); (focus rfl); (focus (simp only [Act.put, List.setIfInBounds_toArray, List.set_cons_succ, List.set_cons_zero]; exact rfl))); (apply StI_no2; (focus rfl); (focus rfl); (focus rfl); (focus rfl); (focus rfl); (focus rfl); (focus (simp only [Act.put, List.setIfInBounds_toArray, List.set_cons_succ, List.set_cons_zero]; exact rfl))); (apply StI_no2; (focus rfl); (focus rfl); (focus rfl); (focus rfl); (focus rfl); (focus rfl); (focus (simp only [Act.put, List.setIfInBounds_toArray, List.set_cons_succ, List.set_cons_zero]; exact rfl)))
                          (apply StI_yes (w0 := xA) hI1; (focus rfl); (focus rfl); (focus rfl); (focus rfl); (focus rfl); (focus rfl); (focus rfl); (focus (intro W hW K hK; skip; go_step; exact hK)); (focus rfl))
                          (apply StI_plain (w0 := xA) hI1 rfl rfl rfl rfl; (focus (intro W hW K hK; skip; go_step; exact hK)); (focus rfl)); (apply StI_plain (w0 := xA) hI1 rfl rfl rfl rfl; (focus (intro W hW K hK; skip; go_step; exact hK)); (focus rfl))
                          (apply StI_yes (w0 := xA) hI1; (focus rfl); (focus rfl); (focus rfl); (focus rfl); (focus rfl); (focus rfl); (focus rfl); (focus (intro W hW K hK; skip; go_step; exact hK)); (focus rfl)); (apply StI_yes (w0 := xA) hI1; (focus rfl); (focus rfl); (focus rfl); (focus rfl); (focus rfl); (focus rfl); (focus rfl); (focus (intro W hW K hK; skip; go_step; exact hK)); (focus rfl)); (apply StI_yes (w0 := xA) hI1; (focus rfl); (focus rfl); (focus rfl); (focus rfl); (focus rfl); (focus rfl); (focus rfl); (focus (intro W hW K hK; skip; go_step; exact hK)); (focus rfl))
                          (apply StI_yes (w0 := xA) hI1; (focus rfl); (focus rfl); (focus rfl); (focus rfl); (focus rfl); (focus rfl); (focus rfl); (focus (intro W hW K hK; obtain ⟨_, _⟩ := bk bD hW l2; go_step; exact hK)); (focus rfl))
                          (apply StI_yes (w0 := xA) hI1; (focus rfl); (focus rfl); (focus rfl); (focus rfl); (focus rfl); (focus rfl); (focus rfl); (focus (intro W hW K hK; skip; go_step; exact hK)); (focus rfl))
                          (apply StI_no2; (focus rfl); (focus rfl); (focus rfl); (focus rfl); (focus rfl); (focus rfl); (focus (simp only [Act.put, List.setIfInBounds_toArray, List.set_cons_succ, List.set_cons_zero]; exact rfl))); (apply StI_no2; (focus rfl); (focus rfl); (focus rfl); (focus rfl); (focus rfl); (focus rfl); (focus (simp only [Act.put, List.setIfInBounds_toArray, List.set_cons_succ, List.set_cons_zero]; exact rfl))); (apply StI_no2; (focus rfl); (focus rfl); (focus rfl); (focus rfl); (focus rfl); (focus rfl); (focus (simp only [Act.put, List.setIfInBounds_toArray, List.set_cons_succ, List.set_cons_zero]; exact rfl))); (apply StI_no2; (focus rfl); (focus rfl); (focus rfl); (focus rfl); (focus rfl); (focus rfl); (focus (simp only [Act.put, List.setIfInBounds_toArray, List.set_cons_succ, List.set_cons_zero]; exact rfl))); (apply StI_no2; (focus rfl); (focus rfl); (focus rfl); (focus rfl); (focus rfl); (focus rfl); (focus (simp only [Act.put, List.setIfInBounds_toArray, List.set_cons_succ, List.set_cons_zero]; exact rfl)))
                          (apply StI_yes (w0 := xA) hI1; (focus rfl); (focus rfl); (focus rfl); (focus rfl); (focus rfl); (focus rfl); (focus rfl); (focus (intro W hW K hK; skip; go_step; exact hK)); (focus rfl))
                          (apply StI_plain (w0 := xA) hI1 rfl rfl rfl rfl; (focus (intro W hW K hK; skip; go_step; exact hK)); (focus rfl)); (apply StI_plain (w0 := xA) hI1 rfl rfl rfl rfl; (focus (intro W hW K hK; skip; go_step; exact hK)); (focus rfl))
                          (apply StI_yes (w0 := xA) hI1; (focus rfl); (focus rfl); (focus rfl); (focus rfl); (focus rfl); (focus rfl); (focus rfl); (focus (intro W hW K hK; skip; go_step; exact hK)); (focus rfl)); (apply StI_yes (w0 := xA) hI1; (focus rfl); (focus rfl); (focus rfl); (focus rfl); (focus rfl); (focus rfl); (focus rfl); (focus (intro W hW K hK; skip; go_step; exact hK)); (focus rfl)); (apply StI_yes (w0 := xA) hI1; (focus rfl); (focus rfl); (focus rfl); (focus rfl); (focus rfl); (focus rfl); (focus rfl); (focus (intro W hW K hK; skip; go_step; exact hK)); (focus rfl))
                          (apply StI_yes (w0 := xA) hI1; (focus rfl); (focus rfl); (focus rfl); (focus rfl); (focus rfl); (focus rfl); (focus rfl); (focus (intro W hW K hK; obtain ⟨_, _⟩ := bk bC hW l3; go_step; exact hK)); (focus rfl))
                          (apply StI_yes (w0 := xA) hI1; (focus rfl); (focus rfl); (focus rfl); (focus rfl); (focus rfl); (focus rfl); (focus rfl); (focus (intro W hW K hK; skip; go_step; exact hK)); (focus rfl))
                          (apply StI_no2; (focus rfl); (focus rfl); (focus rfl); (focus rfl); (focus rfl); (focus rfl); (focus (simp only [Act.put, List.setIfInBounds_toArray, List.set_cons_succ, List.set_cons_zero]; exact rfl))); (apply StI_no2; (focus rfl); (focus rfl); (focus rfl); (focus rfl); (focus rfl); (focus rfl); (focus (simp only [Act.put, List.setIfInBounds_toArray, List.set_cons_succ, List.set_cons_zero]; exact rfl))); (apply StI_no2; (focus rfl); (focus rfl); (focus rfl); (focus rfl); (focus rfl); (focus rfl); (focus (simp only [Act.put, List.setIfInBounds_toArray, List.set_cons_succ, List.set_cons_zero]; exact rfl))); (apply StI_no2; (focus rfl); (focus rfl); (focus rfl); (focus rfl); (focus rfl); (focus rfl); (focus (simp only [Act.put, List.setIfInBounds_toArray, List.set_cons_succ, List.set_cons_zero]; exact rfl))); (apply StI_no2; (focus rfl); (focus rfl); (focus rfl); (focus rfl); (focus rfl); (focus rfl); (focus (simp only [Act.put, List.setIfInBounds_toArray, List.set_cons_succ, List.set_cons_zero]; exact rfl)))
                          (apply StI_yes (w0 := xA) hI1; (focus rfl); (focus rfl); (focus rfl); (focus rfl); (focus rfl); (focus rfl); (focus rfl); (focus (intro W hW K hK; skip; go_step; exact hK)); (focus rfl))
                          (apply StI_plain (w0 := xA) hI1 rfl rfl rfl rfl; (focus (intro W hW K hK; skip; go_step; exact hK)); (focus rfl))
                          refine StI_nil ?_
                          have hbJ := bl_step Hhb.out hI1
                          clear hI1
                          have HhbJ := Lib.hid hbJ; clear hbJ
                          go_wp2_with fail
                          rw [← hci]
                          go_roundw
                          case rel => exact ⟨c + 1, by omega, by go_num, HhbJ.out⟩
                          case measure => simp [intOf]; omega
                    · have hbJ := bl_step HhL4.out.bm.below hb
                      clear hb
                      have HhbJ := Lib.hid hbJ; clear hbJ
                      go_wp2_with fail
                      refine (bworks_ok _).mono ?_
                      rintro e wE ⟨rfl, hbE⟩
                      have hbK := bl_step HhbJ.out hbE
                      clear hbE
                      have HhbK := Lib.hid hbK; clear hbK
                      go_wp2_with fail
                      go_ret
                      exact ⟨rfl, HhbK.out⟩
end Go.Proofs.Ytfbmjecikilghaa
