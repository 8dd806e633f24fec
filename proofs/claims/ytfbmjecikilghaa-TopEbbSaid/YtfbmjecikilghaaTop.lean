/- TopEbb. -/
import Derived.Test.YtfbmjecikilghaaTopC
import Derived.Test.YtfbmjecikilghaaEWorks
namespace Go.Proofs.Ytfbmjecikilghaa
open Go.RowKit

set_option maxHeartbeats 16000000 in
set_option maxRecDepth 100000 in
theorem topEbb_ok (s : ShoreL) (mean f lg lv : Int) (ps : List U3) (ats seas : List Int) (al am aw a1 a2 a3 : Option Addr) (cl cm cw c1 c2 c3 B : Nat) (w : World) (hB : B ≤ w.heap.size) (hs : s.ok) (hS : ShoreW B w s al am aw) (hP : Sl U32E 3 B w a1 ps) (hA : SlW .u32 B w a2 ats) (hE : SlW .u8 B w a3 seas)
    (hp : ∀ x ∈ ps, x.ok 4294967296) (ha : ∀ x ∈ ats, 0 ≤ x ∧ x < 4294967296) (he : ∀ x ∈ seas, 0 ≤ x ∧ x < 256) (h4 : ps.length ≤ 4) (h6 : ats.length ≤ 6) (h4s : seas.length ≤ 4) (hm : -128 ≤ mean ∧ mean ≤ 127) (hf : 0 ≤ f ∧ f < 4294967296) (hlg : 0 ≤ lg ∧ lg < 4294967296) (hlv : -32768 ≤ lv ∧ lv ≤ 32767) :
    Calls Try.prog 3 #[.agg #[.int .u8 s.wide, .int .u8 s.high, .slice al s.low.length cl, .slice am s.more.length cm, .slice aw s.where_.length cw, .int .i8 mean, .slice a1 ps.length c1, .int .u32 f, .int .u32 lg, .int .i16 lv, .slice a2 ats.length c2, .slice a3 seas.length c3]] w fun e w' => e = .returned (.bool true) ∧ Below w.heap.size w w' := by
  obtain ⟨m0, m1⟩ := hm
  obtain ⟨f0, f1⟩ := hf
  obtain ⟨g0, g1⟩ := hlg
  obtain ⟨lv0, lv1⟩ := hlv
  obtain ⟨d1, d2, d3, d4⟩ := s.dims hs
  obtain ⟨N, hN⟩ : ∃ N : Nat, s.wd * s.ht = N := ⟨_, rfl⟩
  have hN0 : 0 < N := by rw [← hN]; exact Nat.mul_pos d1 d3
  have hN16 : N ≤ 16 := by rw [← hN]; exact Nat.mul_le_mul d2 d4
  have Hhs := Lib.hid hs; clear hs; have HhS := Lib.hid hS; clear hS; have HhP := Lib.hid hP; clear hP; have HhA := Lib.hid hA; clear hA; have HhE := Lib.hid hE; clear hE; have Hhp := Lib.hid hp; clear hp; have Hha := Lib.hid ha; clear ha; have Hhe := Lib.hid he; clear he; have HhN := Lib.hid hN; clear hN
  go_enter Try.func3, Try.ntmps3
  go_upto_region 3 with fail
  have hbx : (w.alloc (.cells #[.int .u8 s.wide, .int .u8 s.high, .slice al s.low.length cl, .slice am s.more.length cm, .slice aw s.where_.length cw, .int .i8 mean, .slice a1 ps.length c1, .int .u32 f, .int .u32 lg, .int .i16 lv, .slice a2 ats.length c2, .slice a3 seas.length c3] 32)).heap[w.heap.size]? = some (.cells #[.int .u8 s.wide, .int .u8 s.high, .slice al s.low.length cl, .slice am s.more.length cm, .slice aw s.where_.length cw, .int .i8 mean, .slice a1 ps.length c1, .int .u32 f, .int .u32 lg, .int .i16 lv, .slice a2 ats.length c2, .slice a3 seas.length c3] 32 (0, 0)) := heap_alloc_at _ _
  have hbw : Below w.heap.size w (w.alloc (.cells #[.int .u8 s.wide, .int .u8 s.high, .slice al s.low.length cl, .slice am s.more.length cm, .slice aw s.where_.length cw, .int .i8 mean, .slice a1 ps.length c1, .int .u32 f, .int .u32 lg, .int .i16 lv, .slice a2 ats.length c2, .slice a3 seas.length c3] 32)) := (by repeat (first | exact Below.refl _ _ | (refine bl_setCell ?_ _ _ ?_; rotate_left; focus (first | omega | (simp; done) | (simp; omega))) | refine bl_alloc ?_ _ | refine bl_step ?_ (by assumption) | refine bl_drew ?_ | refine bl_drewN ?_ _))
  generalize (w.alloc (.cells #[.int .u8 s.wide, .int .u8 s.high, .slice al s.low.length cl, .slice am s.more.length cm, .slice aw s.where_.length cw, .int .i8 mean, .slice a1 ps.length c1, .int .u32 f, .int .u32 lg, .int .i16 lv, .slice a2 ats.length c2, .slice a3 seas.length c3] 32)) = wd at hbx hbw ⊢
  have hbc := cells_of hbx
  have hbl := lt_of_heap hbx
  have hKn := fun W (hW : Below wd.heap.size wd W) => known_row B W s al am aw cl cm cw Hhs.out (HhS.out.below ((bl_step hbw hW).mono hB)) (by have := hbw.size; have := hW.size; omega) N HhN.out
  have hTr := fun W (hW : Below wd.heap.size wd W) => truth_row B W s al am aw cl cm cw Hhs.out (HhS.out.below ((bl_step hbw hW).mono hB)) (by have := hbw.size; have := hW.size; omega) N HhN.out
  have Hhbx := Lib.hid hbx; clear hbx; have Hhbw := Lib.hid hbw; clear hbw
  go_cut [3, 4] from 54 to 60 (fun v3 v4 wx => GridsB s N wd v3 v4 wx)
  case first =>
    as_aux_lemma =>
    have hI : Below wd.heap.size wd wd.drew := (Below.refl _ _).drew
    refine wp_region_ordT3 (fun W => Below wd.heap.size wd W) (.three [0, 1, 3, 4] 2 (.three [] 5 (.two [] 6 (.one [] 7 (.one [] 8 (.one [] 9 (.fin [] none)))) 7 (.one [] 6 (.one [] 8 (.one [] 9 (.fin [] none))))) 6 (.two [] 5 (.one [] 7 (.one [] 8 (.one [] 9 (.fin [] none)))) 7 (.one [] 5 (.one [] 8 (.one [] 9 (.fin [] none))))) 7 (.two [] 5 (.one [] 6 (.one [] 8 (.one [] 9 (.fin [] none)))) 6 (.one [] 5 (.one [] 8 (.one [] 9 (.fin [] none)))))) 6 (.two [] 2 (.two [] 5 (.one [] 7 (.one [] 8 (.one [] 9 (.fin [] none)))) 7 (.one [] 5 (.one [] 8 (.one [] 9 (.fin [] none))))) 7 (.one [] 2 (.one [] 5 (.one [] 8 (.one [] 9 (.fin [] none)))))) 7 (.two [] 2 (.two [] 5 (.one [] 6 (.one [] 8 (.one [] 9 (.fin [] none)))) 6 (.one [] 5 (.one [] 8 (.one [] 9 (.fin [] none))))) 6 (.one [] 2 (.one [] 5 (.one [] 8 (.one [] 9 (.fin [] none))))))) (by kernel_rfl) (by kernel_rfl) hI ?_
    refine ot3Three ?_
    (apply StI_plain (w0 := wd.drew) hI rfl rfl rfl rfl; (focus (intro W hW K hK; obtain ⟨_, _⟩ := bk w.heap.size hW hbl; go_step; exact hK)); (focus rfl)); (apply StI_plain (w0 := wd.drew) hI rfl rfl rfl rfl; (focus (intro W hW K hK; obtain ⟨_, _⟩ := bk w.heap.size hW hbl; go_step; exact hK)); (focus rfl)); (apply StI_plain (w0 := wd.drew) hI rfl rfl rfl rfl; (focus (intro W hW K hK; obtain ⟨_, _⟩ := bk w.heap.size hW hbl; go_step; exact hK)); (focus rfl)); (apply StI_plain (w0 := wd.drew) hI rfl rfl rfl rfl; (focus (intro W hW K hK; obtain ⟨_, _⟩ := bk w.heap.size hW hbl; go_step; exact hK)); (focus rfl))
    refine StI_nil ⟨?_, ?_, ?_⟩
    · (apply wpOp_eff rfl; go_wp2_with (first | (go_at_call 6; refine (hKn _ hI).mono ?_; rintro e v1 ⟨g3, k3, o3, rfl, hg3, hk1, hro3, hb1⟩)))
      have HR3 := Lib.hid hro3
      clear hro3
      have hI1 : Below wd.heap.size wd v1 := below_mid hI (Nat.le_refl _) hb1
      refine ot3N hI1 ?_
      refine ot3Three (StI_nil ⟨?_, ?_, ?_⟩)
      · (apply wpOp_eff rfl; go_wp2_with (first | (go_at_call 7; refine (hTr _ hI1).mono ?_; rintro e v2 ⟨g4, k4, o4, rfl, hg4, ht2, hro4, hb2⟩)))
        have HR4 := Lib.hid hro4
        clear hro4
        have hk2 := heap_below hb2 hk1
        have hI2 : Below wd.heap.size wd v2 := below_mid hI1 (Nat.le_refl _) hb2
        refine ot3N hI2 ?_
        refine ot3Two (StI_nil ⟨?_, ?_⟩)
        · (apply wpOp_eff rfl; go_wp2_with (first | fail))
          have hI3 : Below wd.heap.size wd (v2.alloc (.cells #[.int .i64 0, .int .i64 0, .int .i64 0, .slice none 0 0] 36)) := hI2.alloc hI2.size _
          have hp3 : (v2.alloc (.cells #[.int .i64 0, .int .i64 0, .int .i64 0, .slice none 0 0] 36)).heap[v2.heap.size]? = some (.cells gridZ 36 (0, 0)) := heap_alloc_at v2 (.cells #[.int .i64 0, .int .i64 0, .int .i64 0, .slice none 0 0] 36)
          have nkp : g3 ≠ v2.heap.size := by have := lt_of_heap hk2; omega
          have hk3 := heap_alloc_off hk2 (.cells #[.int .i64 0, .int .i64 0, .int .i64 0, .slice none 0 0] 36)
          have ntp : g4 ≠ v2.heap.size := by have := lt_of_heap ht2; omega
          have ht3 := heap_alloc_off ht2 (.cells #[.int .i64 0, .int .i64 0, .int .i64 0, .slice none 0 0] 36)
          have nnp3 : wd.heap.size ≤ v2.heap.size := hI2.size
          generalize (v2.alloc (.cells #[.int .i64 0, .int .i64 0, .int .i64 0, .slice none 0 0] 36)) = v3 at hI3 hp3 hk3 ht3 ⊢
          refine ot3N hI3 ?_
          refine ot3One (StI_nil ?_)
          (apply wpOp_eff rfl; go_wp2_with (first | fail))
          have hI4 : Below wd.heap.size wd (v3.alloc (.cells #[.int .i64 0, .int .i64 0, .int .i64 0, .slice none 0 0] 36)) := hI3.alloc hI3.size _
          have hq4 : (v3.alloc (.cells #[.int .i64 0, .int .i64 0, .int .i64 0, .slice none 0 0] 36)).heap[v3.heap.size]? = some (.cells gridZ 36 (0, 0)) := heap_alloc_at v3 (.cells #[.int .i64 0, .int .i64 0, .int .i64 0, .slice none 0 0] 36)
          have hp4 := heap_alloc_off hp3 (.cells #[.int .i64 0, .int .i64 0, .int .i64 0, .slice none 0 0] 36)
          have npq4 : v2.heap.size ≠ v3.heap.size := by have := lt_of_heap hp3; omega
          have nkq : g3 ≠ v3.heap.size := by have := lt_of_heap hk3; omega
          have hk4 := heap_alloc_off hk3 (.cells #[.int .i64 0, .int .i64 0, .int .i64 0, .slice none 0 0] 36)
          have ntq : g4 ≠ v3.heap.size := by have := lt_of_heap ht3; omega
          have ht4 := heap_alloc_off ht3 (.cells #[.int .i64 0, .int .i64 0, .int .i64 0, .slice none 0 0] 36)
          have nnq4 : wd.heap.size ≤ v3.heap.size := hI3.size
          generalize (v3.alloc (.cells #[.int .i64 0, .int .i64 0, .int .i64 0, .slice none 0 0] 36)) = v4 at hI4 hq4 hp4 hk4 ht4 ⊢
          refine ot3N hI4 ?_
          refine ot3One ?_
          have hG := (⟨hp4, hq4, hk4, ht4, npq4, nkp, nkq, ntp, ntq, nnp3, nnq4, hI4⟩ : GS wd v4 (v2.heap.size) (v3.heap.size) g3 g4 gridZ gridZ o3 o4)
          clear hk1 hI1 hb1 hk2 ht2 hI2 hb2 hI3 hp3 hk3 ht3 hI4 hq4 hp4 hk4 ht4
          apply StI_eff rfl
          refine wpList_store_rowTo rfl 36 _ _ rfl rfl (v2.heap.size) #[.int .i64 s.wd, .int .i64 s.ht, .int .i64 500, .slice (some ⟨g3, 0, none⟩) N k3] (by kernel_rfl) (by kernel_rfl) _ _ hG.hp (by kernel_rfl) rfl (by simp [Value.oneCell']) ?_
          apply wpList_nil
          have hG2 : GS wd (v4.setRow (v2.heap.size) #[.int .i64 s.wd, .int .i64 s.ht, .int .i64 500, .slice (some ⟨g3, 0, none⟩) N k3]) (v2.heap.size) (v3.heap.size) g3 g4 #[.int .i64 s.wd, .int .i64 s.ht, .int .i64 500, .slice (some ⟨g3, 0, none⟩) N k3] gridZ o3 o4 := hG.setP
          generalize v4.setRow (v2.heap.size) #[.int .i64 s.wd, .int .i64 s.ht, .int .i64 500, .slice (some ⟨g3, 0, none⟩) N k3] = w8 at hG2 ⊢
          clear hG
          refine ot3N hG2.below (ot3One ?_)
          apply StI_eff rfl
          refine wpList_store_rowTo rfl 36 _ _ rfl rfl (v3.heap.size) #[.int .i64 s.wd, .int .i64 s.ht, .int .i64 500, .slice (some ⟨g4, 0, none⟩) N k4] (by kernel_rfl) (by kernel_rfl) _ _ hG2.hq (by kernel_rfl) rfl (by simp [Value.oneCell']) ?_
          apply wpList_nil
          refine ot3N hG2.setQ.below (ot3Fin (StI_nil ?_))
          go_wp2_with fail
          go_meet
          exact ⟨_, _, g3, k3, g4, k4, o3, o4, rfl, rfl, HR3.out, HR4.out, hG2.setQ⟩
        · (apply wpOp_eff rfl; go_wp2_with (first | fail))
          have hI5 : Below wd.heap.size wd (v2.alloc (.cells #[.int .i64 0, .int .i64 0, .int .i64 0, .slice none 0 0] 36)) := hI2.alloc hI2.size _
          have hq5 : (v2.alloc (.cells #[.int .i64 0, .int .i64 0, .int .i64 0, .slice none 0 0] 36)).heap[v2.heap.size]? = some (.cells gridZ 36 (0, 0)) := heap_alloc_at v2 (.cells #[.int .i64 0, .int .i64 0, .int .i64 0, .slice none 0 0] 36)
          have nkq : g3 ≠ v2.heap.size := by have := lt_of_heap hk2; omega
          have hk5 := heap_alloc_off hk2 (.cells #[.int .i64 0, .int .i64 0, .int .i64 0, .slice none 0 0] 36)
          have ntq : g4 ≠ v2.heap.size := by have := lt_of_heap ht2; omega
          have ht5 := heap_alloc_off ht2 (.cells #[.int .i64 0, .int .i64 0, .int .i64 0, .slice none 0 0] 36)
          have nnq5 : wd.heap.size ≤ v2.heap.size := hI2.size
          generalize (v2.alloc (.cells #[.int .i64 0, .int .i64 0, .int .i64 0, .slice none 0 0] 36)) = v5 at hI5 hq5 hk5 ht5 ⊢
          refine ot3N hI5 ?_
          refine ot3One (StI_nil ?_)
          (apply wpOp_eff rfl; go_wp2_with (first | fail))
          have hI6 : Below wd.heap.size wd (v5.alloc (.cells #[.int .i64 0, .int .i64 0, .int .i64 0, .slice none 0 0] 36)) := hI5.alloc hI5.size _
          have hp6 : (v5.alloc (.cells #[.int .i64 0, .int .i64 0, .int .i64 0, .slice none 0 0] 36)).heap[v5.heap.size]? = some (.cells gridZ 36 (0, 0)) := heap_alloc_at v5 (.cells #[.int .i64 0, .int .i64 0, .int .i64 0, .slice none 0 0] 36)
          have hq6 := heap_alloc_off hq5 (.cells #[.int .i64 0, .int .i64 0, .int .i64 0, .slice none 0 0] 36)
          have npq6 : v5.heap.size ≠ v2.heap.size := by have := lt_of_heap hq5; omega
          have nkp : g3 ≠ v5.heap.size := by have := lt_of_heap hk5; omega
          have hk6 := heap_alloc_off hk5 (.cells #[.int .i64 0, .int .i64 0, .int .i64 0, .slice none 0 0] 36)
          have ntp : g4 ≠ v5.heap.size := by have := lt_of_heap ht5; omega
          have ht6 := heap_alloc_off ht5 (.cells #[.int .i64 0, .int .i64 0, .int .i64 0, .slice none 0 0] 36)
          have nnp6 : wd.heap.size ≤ v5.heap.size := hI5.size
          generalize (v5.alloc (.cells #[.int .i64 0, .int .i64 0, .int .i64 0, .slice none 0 0] 36)) = v6 at hI6 hp6 hq6 hk6 ht6 ⊢
          refine ot3N hI6 ?_
          refine ot3One ?_
          have hG := (⟨hp6, hq6, hk6, ht6, npq6, nkp, nkq, ntp, ntq, nnp6, nnq5, hI6⟩ : GS wd v6 (v5.heap.size) (v2.heap.size) g3 g4 gridZ gridZ o3 o4)
          clear hk1 hI1 hb1 hk2 ht2 hI2 hb2 hI5 hq5 hk5 ht5 hI6 hp6 hq6 hk6 ht6
          apply StI_eff rfl
          refine wpList_store_rowTo rfl 36 _ _ rfl rfl (v5.heap.size) #[.int .i64 s.wd, .int .i64 s.ht, .int .i64 500, .slice (some ⟨g3, 0, none⟩) N k3] (by kernel_rfl) (by kernel_rfl) _ _ hG.hp (by kernel_rfl) rfl (by simp [Value.oneCell']) ?_
          apply wpList_nil
          have hG2 : GS wd (v6.setRow (v5.heap.size) #[.int .i64 s.wd, .int .i64 s.ht, .int .i64 500, .slice (some ⟨g3, 0, none⟩) N k3]) (v5.heap.size) (v2.heap.size) g3 g4 #[.int .i64 s.wd, .int .i64 s.ht, .int .i64 500, .slice (some ⟨g3, 0, none⟩) N k3] gridZ o3 o4 := hG.setP
          generalize v6.setRow (v5.heap.size) #[.int .i64 s.wd, .int .i64 s.ht, .int .i64 500, .slice (some ⟨g3, 0, none⟩) N k3] = w8 at hG2 ⊢
          clear hG
          refine ot3N hG2.below (ot3One ?_)
          apply StI_eff rfl
          refine wpList_store_rowTo rfl 36 _ _ rfl rfl (v2.heap.size) #[.int .i64 s.wd, .int .i64 s.ht, .int .i64 500, .slice (some ⟨g4, 0, none⟩) N k4] (by kernel_rfl) (by kernel_rfl) _ _ hG2.hq (by kernel_rfl) rfl (by simp [Value.oneCell']) ?_
          apply wpList_nil
          refine ot3N hG2.setQ.below (ot3Fin (StI_nil ?_))
          go_wp2_with fail
          go_meet
          exact ⟨_, _, g3, k3, g4, k4, o3, o4, rfl, rfl, HR3.out, HR4.out, hG2.setQ⟩
      · (apply wpOp_eff rfl; go_wp2_with (first | fail))
        have hI7 : Below wd.heap.size wd (v1.alloc (.cells #[.int .i64 0, .int .i64 0, .int .i64 0, .slice none 0 0] 36)) := hI1.alloc hI1.size _
        have hp7 : (v1.alloc (.cells #[.int .i64 0, .int .i64 0, .int .i64 0, .slice none 0 0] 36)).heap[v1.heap.size]? = some (.cells gridZ 36 (0, 0)) := heap_alloc_at v1 (.cells #[.int .i64 0, .int .i64 0, .int .i64 0, .slice none 0 0] 36)
        have nkp : g3 ≠ v1.heap.size := by have := lt_of_heap hk1; omega
        have hk7 := heap_alloc_off hk1 (.cells #[.int .i64 0, .int .i64 0, .int .i64 0, .slice none 0 0] 36)
        have nnp7 : wd.heap.size ≤ v1.heap.size := hI1.size
        generalize (v1.alloc (.cells #[.int .i64 0, .int .i64 0, .int .i64 0, .slice none 0 0] 36)) = v7 at hI7 hp7 hk7 ⊢
        refine ot3N hI7 ?_
        refine ot3Two (StI_nil ⟨?_, ?_⟩)
        · (apply wpOp_eff rfl; go_wp2_with (first | (go_at_call 7; refine (hTr _ hI7).mono ?_; rintro e v8 ⟨g4, k4, o4, rfl, hg4, ht8, hro4, hb8⟩)))
          have HR4 := Lib.hid hro4
          clear hro4
          have ntp : g4 ≠ v1.heap.size := by have := lt_of_heap hp7; omega
          have hp8 := heap_below hb8 hp7
          have hk8 := heap_below hb8 hk7
          have hI8 : Below wd.heap.size wd v8 := below_mid hI7 (Nat.le_refl _) hb8
          refine ot3N hI8 ?_
          refine ot3One (StI_nil ?_)
          (apply wpOp_eff rfl; go_wp2_with (first | fail))
          have hI9 : Below wd.heap.size wd (v8.alloc (.cells #[.int .i64 0, .int .i64 0, .int .i64 0, .slice none 0 0] 36)) := hI8.alloc hI8.size _
          have hq9 : (v8.alloc (.cells #[.int .i64 0, .int .i64 0, .int .i64 0, .slice none 0 0] 36)).heap[v8.heap.size]? = some (.cells gridZ 36 (0, 0)) := heap_alloc_at v8 (.cells #[.int .i64 0, .int .i64 0, .int .i64 0, .slice none 0 0] 36)
          have hp9 := heap_alloc_off hp8 (.cells #[.int .i64 0, .int .i64 0, .int .i64 0, .slice none 0 0] 36)
          have npq9 : v1.heap.size ≠ v8.heap.size := by have := lt_of_heap hp8; omega
          have nkq : g3 ≠ v8.heap.size := by have := lt_of_heap hk8; omega
          have hk9 := heap_alloc_off hk8 (.cells #[.int .i64 0, .int .i64 0, .int .i64 0, .slice none 0 0] 36)
          have ntq : g4 ≠ v8.heap.size := by have := lt_of_heap ht8; omega
          have ht9 := heap_alloc_off ht8 (.cells #[.int .i64 0, .int .i64 0, .int .i64 0, .slice none 0 0] 36)
          have nnq9 : wd.heap.size ≤ v8.heap.size := hI8.size
          generalize (v8.alloc (.cells #[.int .i64 0, .int .i64 0, .int .i64 0, .slice none 0 0] 36)) = v9 at hI9 hq9 hp9 hk9 ht9 ⊢
          refine ot3N hI9 ?_
          refine ot3One ?_
          have hG := (⟨hp9, hq9, hk9, ht9, npq9, nkp, nkq, ntp, ntq, nnp7, nnq9, hI9⟩ : GS wd v9 (v1.heap.size) (v8.heap.size) g3 g4 gridZ gridZ o3 o4)
          clear hk1 hI1 hb1 hI7 hp7 hk7 hp8 hk8 ht8 hI8 hb8 hI9 hq9 hp9 hk9 ht9
          apply StI_eff rfl
          refine wpList_store_rowTo rfl 36 _ _ rfl rfl (v1.heap.size) #[.int .i64 s.wd, .int .i64 s.ht, .int .i64 500, .slice (some ⟨g3, 0, none⟩) N k3] (by kernel_rfl) (by kernel_rfl) _ _ hG.hp (by kernel_rfl) rfl (by simp [Value.oneCell']) ?_
          apply wpList_nil
          have hG2 : GS wd (v9.setRow (v1.heap.size) #[.int .i64 s.wd, .int .i64 s.ht, .int .i64 500, .slice (some ⟨g3, 0, none⟩) N k3]) (v1.heap.size) (v8.heap.size) g3 g4 #[.int .i64 s.wd, .int .i64 s.ht, .int .i64 500, .slice (some ⟨g3, 0, none⟩) N k3] gridZ o3 o4 := hG.setP
          generalize v9.setRow (v1.heap.size) #[.int .i64 s.wd, .int .i64 s.ht, .int .i64 500, .slice (some ⟨g3, 0, none⟩) N k3] = w8 at hG2 ⊢
          clear hG
          refine ot3N hG2.below (ot3One ?_)
          apply StI_eff rfl
          refine wpList_store_rowTo rfl 36 _ _ rfl rfl (v8.heap.size) #[.int .i64 s.wd, .int .i64 s.ht, .int .i64 500, .slice (some ⟨g4, 0, none⟩) N k4] (by kernel_rfl) (by kernel_rfl) _ _ hG2.hq (by kernel_rfl) rfl (by simp [Value.oneCell']) ?_
          apply wpList_nil
          refine ot3N hG2.setQ.below (ot3Fin (StI_nil ?_))
          go_wp2_with fail
          go_meet
          exact ⟨_, _, g3, k3, g4, k4, o3, o4, rfl, rfl, HR3.out, HR4.out, hG2.setQ⟩
        · (apply wpOp_eff rfl; go_wp2_with (first | fail))
          have hI10 : Below wd.heap.size wd (v7.alloc (.cells #[.int .i64 0, .int .i64 0, .int .i64 0, .slice none 0 0] 36)) := hI7.alloc hI7.size _
          have hq10 : (v7.alloc (.cells #[.int .i64 0, .int .i64 0, .int .i64 0, .slice none 0 0] 36)).heap[v7.heap.size]? = some (.cells gridZ 36 (0, 0)) := heap_alloc_at v7 (.cells #[.int .i64 0, .int .i64 0, .int .i64 0, .slice none 0 0] 36)
          have hp10 := heap_alloc_off hp7 (.cells #[.int .i64 0, .int .i64 0, .int .i64 0, .slice none 0 0] 36)
          have npq10 : v1.heap.size ≠ v7.heap.size := by have := lt_of_heap hp7; omega
          have nkq : g3 ≠ v7.heap.size := by have := lt_of_heap hk7; omega
          have hk10 := heap_alloc_off hk7 (.cells #[.int .i64 0, .int .i64 0, .int .i64 0, .slice none 0 0] 36)
          have nnq10 : wd.heap.size ≤ v7.heap.size := hI7.size
          generalize (v7.alloc (.cells #[.int .i64 0, .int .i64 0, .int .i64 0, .slice none 0 0] 36)) = v10 at hI10 hq10 hp10 hk10 ⊢
          refine ot3N hI10 ?_
          refine ot3One (StI_nil ?_)
          (apply wpOp_eff rfl; go_wp2_with (first | (go_at_call 7; refine (hTr _ hI10).mono ?_; rintro e v11 ⟨g4, k4, o4, rfl, hg4, ht11, hro4, hb11⟩)))
          have HR4 := Lib.hid hro4
          clear hro4
          have ntp : g4 ≠ v1.heap.size := by have := lt_of_heap hp10; omega
          have ntq : g4 ≠ v7.heap.size := by have := lt_of_heap hq10; omega
          have hp11 := heap_below hb11 hp10
          have hq11 := heap_below hb11 hq10
          have hk11 := heap_below hb11 hk10
          have hI11 : Below wd.heap.size wd v11 := below_mid hI10 (Nat.le_refl _) hb11
          refine ot3N hI11 ?_
          refine ot3One ?_
          have hG := (⟨hp11, hq11, hk11, ht11, npq10, nkp, nkq, ntp, ntq, nnp7, nnq10, hI11⟩ : GS wd v11 (v1.heap.size) (v7.heap.size) g3 g4 gridZ gridZ o3 o4)
          clear hk1 hI1 hb1 hI7 hp7 hk7 hI10 hq10 hp10 hk10 hp11 hq11 hk11 ht11 hI11 hb11
          apply StI_eff rfl
          refine wpList_store_rowTo rfl 36 _ _ rfl rfl (v1.heap.size) #[.int .i64 s.wd, .int .i64 s.ht, .int .i64 500, .slice (some ⟨g3, 0, none⟩) N k3] (by kernel_rfl) (by kernel_rfl) _ _ hG.hp (by kernel_rfl) rfl (by simp [Value.oneCell']) ?_
          apply wpList_nil
          have hG2 : GS wd (v11.setRow (v1.heap.size) #[.int .i64 s.wd, .int .i64 s.ht, .int .i64 500, .slice (some ⟨g3, 0, none⟩) N k3]) (v1.heap.size) (v7.heap.size) g3 g4 #[.int .i64 s.wd, .int .i64 s.ht, .int .i64 500, .slice (some ⟨g3, 0, none⟩) N k3] gridZ o3 o4 := hG.setP
          generalize v11.setRow (v1.heap.size) #[.int .i64 s.wd, .int .i64 s.ht, .int .i64 500, .slice (some ⟨g3, 0, none⟩) N k3] = w8 at hG2 ⊢
          clear hG
          refine ot3N hG2.below (ot3One ?_)
          apply StI_eff rfl
          refine wpList_store_rowTo rfl 36 _ _ rfl rfl (v7.heap.size) #[.int .i64 s.wd, .int .i64 s.ht, .int .i64 500, .slice (some ⟨g4, 0, none⟩) N k4] (by kernel_rfl) (by kernel_rfl) _ _ hG2.hq (by kernel_rfl) rfl (by simp [Value.oneCell']) ?_
          apply wpList_nil
          refine ot3N hG2.setQ.below (ot3Fin (StI_nil ?_))
          go_wp2_with fail
          go_meet
          exact ⟨_, _, g3, k3, g4, k4, o3, o4, rfl, rfl, HR3.out, HR4.out, hG2.setQ⟩
      · (apply wpOp_eff rfl; go_wp2_with (first | fail))
        have hI12 : Below wd.heap.size wd (v1.alloc (.cells #[.int .i64 0, .int .i64 0, .int .i64 0, .slice none 0 0] 36)) := hI1.alloc hI1.size _
        have hq12 : (v1.alloc (.cells #[.int .i64 0, .int .i64 0, .int .i64 0, .slice none 0 0] 36)).heap[v1.heap.size]? = some (.cells gridZ 36 (0, 0)) := heap_alloc_at v1 (.cells #[.int .i64 0, .int .i64 0, .int .i64 0, .slice none 0 0] 36)
        have nkq : g3 ≠ v1.heap.size := by have := lt_of_heap hk1; omega
        have hk12 := heap_alloc_off hk1 (.cells #[.int .i64 0, .int .i64 0, .int .i64 0, .slice none 0 0] 36)
        have nnq12 : wd.heap.size ≤ v1.heap.size := hI1.size
        generalize (v1.alloc (.cells #[.int .i64 0, .int .i64 0, .int .i64 0, .slice none 0 0] 36)) = v12 at hI12 hq12 hk12 ⊢
        refine ot3N hI12 ?_
        refine ot3Two (StI_nil ⟨?_, ?_⟩)
        · (apply wpOp_eff rfl; go_wp2_with (first | (go_at_call 7; refine (hTr _ hI12).mono ?_; rintro e v13 ⟨g4, k4, o4, rfl, hg4, ht13, hro4, hb13⟩)))
          have HR4 := Lib.hid hro4
          clear hro4
          have ntq : g4 ≠ v1.heap.size := by have := lt_of_heap hq12; omega
          have hq13 := heap_below hb13 hq12
          have hk13 := heap_below hb13 hk12
          have hI13 : Below wd.heap.size wd v13 := below_mid hI12 (Nat.le_refl _) hb13
          refine ot3N hI13 ?_
          refine ot3One (StI_nil ?_)
          (apply wpOp_eff rfl; go_wp2_with (first | fail))
          have hI14 : Below wd.heap.size wd (v13.alloc (.cells #[.int .i64 0, .int .i64 0, .int .i64 0, .slice none 0 0] 36)) := hI13.alloc hI13.size _
          have hp14 : (v13.alloc (.cells #[.int .i64 0, .int .i64 0, .int .i64 0, .slice none 0 0] 36)).heap[v13.heap.size]? = some (.cells gridZ 36 (0, 0)) := heap_alloc_at v13 (.cells #[.int .i64 0, .int .i64 0, .int .i64 0, .slice none 0 0] 36)
          have hq14 := heap_alloc_off hq13 (.cells #[.int .i64 0, .int .i64 0, .int .i64 0, .slice none 0 0] 36)
          have npq14 : v13.heap.size ≠ v1.heap.size := by have := lt_of_heap hq13; omega
          have nkp : g3 ≠ v13.heap.size := by have := lt_of_heap hk13; omega
          have hk14 := heap_alloc_off hk13 (.cells #[.int .i64 0, .int .i64 0, .int .i64 0, .slice none 0 0] 36)
          have ntp : g4 ≠ v13.heap.size := by have := lt_of_heap ht13; omega
          have ht14 := heap_alloc_off ht13 (.cells #[.int .i64 0, .int .i64 0, .int .i64 0, .slice none 0 0] 36)
          have nnp14 : wd.heap.size ≤ v13.heap.size := hI13.size
          generalize (v13.alloc (.cells #[.int .i64 0, .int .i64 0, .int .i64 0, .slice none 0 0] 36)) = v14 at hI14 hp14 hq14 hk14 ht14 ⊢
          refine ot3N hI14 ?_
          refine ot3One ?_
          have hG := (⟨hp14, hq14, hk14, ht14, npq14, nkp, nkq, ntp, ntq, nnp14, nnq12, hI14⟩ : GS wd v14 (v13.heap.size) (v1.heap.size) g3 g4 gridZ gridZ o3 o4)
          clear hk1 hI1 hb1 hI12 hq12 hk12 hq13 hk13 ht13 hI13 hb13 hI14 hp14 hq14 hk14 ht14
          apply StI_eff rfl
          refine wpList_store_rowTo rfl 36 _ _ rfl rfl (v13.heap.size) #[.int .i64 s.wd, .int .i64 s.ht, .int .i64 500, .slice (some ⟨g3, 0, none⟩) N k3] (by kernel_rfl) (by kernel_rfl) _ _ hG.hp (by kernel_rfl) rfl (by simp [Value.oneCell']) ?_
          apply wpList_nil
          have hG2 : GS wd (v14.setRow (v13.heap.size) #[.int .i64 s.wd, .int .i64 s.ht, .int .i64 500, .slice (some ⟨g3, 0, none⟩) N k3]) (v13.heap.size) (v1.heap.size) g3 g4 #[.int .i64 s.wd, .int .i64 s.ht, .int .i64 500, .slice (some ⟨g3, 0, none⟩) N k3] gridZ o3 o4 := hG.setP
          generalize v14.setRow (v13.heap.size) #[.int .i64 s.wd, .int .i64 s.ht, .int .i64 500, .slice (some ⟨g3, 0, none⟩) N k3] = w8 at hG2 ⊢
          clear hG
          refine ot3N hG2.below (ot3One ?_)
          apply StI_eff rfl
          refine wpList_store_rowTo rfl 36 _ _ rfl rfl (v1.heap.size) #[.int .i64 s.wd, .int .i64 s.ht, .int .i64 500, .slice (some ⟨g4, 0, none⟩) N k4] (by kernel_rfl) (by kernel_rfl) _ _ hG2.hq (by kernel_rfl) rfl (by simp [Value.oneCell']) ?_
          apply wpList_nil
          refine ot3N hG2.setQ.below (ot3Fin (StI_nil ?_))
          go_wp2_with fail
          go_meet
          exact ⟨_, _, g3, k3, g4, k4, o3, o4, rfl, rfl, HR3.out, HR4.out, hG2.setQ⟩
        · (apply wpOp_eff rfl; go_wp2_with (first | fail))
          have hI15 : Below wd.heap.size wd (v12.alloc (.cells #[.int .i64 0, .int .i64 0, .int .i64 0, .slice none 0 0] 36)) := hI12.alloc hI12.size _
          have hp15 : (v12.alloc (.cells #[.int .i64 0, .int .i64 0, .int .i64 0, .slice none 0 0] 36)).heap[v12.heap.size]? = some (.cells gridZ 36 (0, 0)) := heap_alloc_at v12 (.cells #[.int .i64 0, .int .i64 0, .int .i64 0, .slice none 0 0] 36)
          have hq15 := heap_alloc_off hq12 (.cells #[.int .i64 0, .int .i64 0, .int .i64 0, .slice none 0 0] 36)
          have npq15 : v12.heap.size ≠ v1.heap.size := by have := lt_of_heap hq12; omega
          have nkp : g3 ≠ v12.heap.size := by have := lt_of_heap hk12; omega
          have hk15 := heap_alloc_off hk12 (.cells #[.int .i64 0, .int .i64 0, .int .i64 0, .slice none 0 0] 36)
          have nnp15 : wd.heap.size ≤ v12.heap.size := hI12.size
          generalize (v12.alloc (.cells #[.int .i64 0, .int .i64 0, .int .i64 0, .slice none 0 0] 36)) = v15 at hI15 hp15 hq15 hk15 ⊢
          refine ot3N hI15 ?_
          refine ot3One (StI_nil ?_)
          (apply wpOp_eff rfl; go_wp2_with (first | (go_at_call 7; refine (hTr _ hI15).mono ?_; rintro e v16 ⟨g4, k4, o4, rfl, hg4, ht16, hro4, hb16⟩)))
          have HR4 := Lib.hid hro4
          clear hro4
          have ntp : g4 ≠ v12.heap.size := by have := lt_of_heap hp15; omega
          have ntq : g4 ≠ v1.heap.size := by have := lt_of_heap hq15; omega
          have hp16 := heap_below hb16 hp15
          have hq16 := heap_below hb16 hq15
          have hk16 := heap_below hb16 hk15
          have hI16 : Below wd.heap.size wd v16 := below_mid hI15 (Nat.le_refl _) hb16
          refine ot3N hI16 ?_
          refine ot3One ?_
          have hG := (⟨hp16, hq16, hk16, ht16, npq15, nkp, nkq, ntp, ntq, nnp15, nnq12, hI16⟩ : GS wd v16 (v12.heap.size) (v1.heap.size) g3 g4 gridZ gridZ o3 o4)
          clear hk1 hI1 hb1 hI12 hq12 hk12 hI15 hp15 hq15 hk15 hp16 hq16 hk16 ht16 hI16 hb16
          apply StI_eff rfl
          refine wpList_store_rowTo rfl 36 _ _ rfl rfl (v12.heap.size) #[.int .i64 s.wd, .int .i64 s.ht, .int .i64 500, .slice (some ⟨g3, 0, none⟩) N k3] (by kernel_rfl) (by kernel_rfl) _ _ hG.hp (by kernel_rfl) rfl (by simp [Value.oneCell']) ?_
          apply wpList_nil
          have hG2 : GS wd (v16.setRow (v12.heap.size) #[.int .i64 s.wd, .int .i64 s.ht, .int .i64 500, .slice (some ⟨g3, 0, none⟩) N k3]) (v12.heap.size) (v1.heap.size) g3 g4 #[.int .i64 s.wd, .int .i64 s.ht, .int .i64 500, .slice (some ⟨g3, 0, none⟩) N k3] gridZ o3 o4 := hG.setP
          generalize v16.setRow (v12.heap.size) #[.int .i64 s.wd, .int .i64 s.ht, .int .i64 500, .slice (some ⟨g3, 0, none⟩) N k3] = w8 at hG2 ⊢
          clear hG
          refine ot3N hG2.below (ot3One ?_)
          apply StI_eff rfl
          refine wpList_store_rowTo rfl 36 _ _ rfl rfl (v1.heap.size) #[.int .i64 s.wd, .int .i64 s.ht, .int .i64 500, .slice (some ⟨g4, 0, none⟩) N k4] (by kernel_rfl) (by kernel_rfl) _ _ hG2.hq (by kernel_rfl) rfl (by simp [Value.oneCell']) ?_
          apply wpList_nil
          refine ot3N hG2.setQ.below (ot3Fin (StI_nil ?_))
          go_wp2_with fail
          go_meet
          exact ⟨_, _, g3, k3, g4, k4, o3, o4, rfl, rfl, HR3.out, HR4.out, hG2.setQ⟩
    · (apply wpOp_eff rfl; go_wp2_with (first | fail))
      have hI17 : Below wd.heap.size wd (wd.alloc (.cells #[.int .i64 0, .int .i64 0, .int .i64 0, .slice none 0 0] 36)).drew := ((Below.refl _ _).alloc (Nat.le_refl _) _).drew
      have hp17 : (wd.alloc (.cells #[.int .i64 0, .int .i64 0, .int .i64 0, .slice none 0 0] 36)).drew.heap[wd.heap.size]? = some (.cells gridZ 36 (0, 0)) := heap_drew' (heap_alloc_at wd (.cells #[.int .i64 0, .int .i64 0, .int .i64 0, .slice none 0 0] 36))
      have nnp17 : wd.heap.size ≤ wd.heap.size := Nat.le_refl _
      generalize (wd.alloc (.cells #[.int .i64 0, .int .i64 0, .int .i64 0, .slice none 0 0] 36)).drew = v17 at hI17 hp17 ⊢
      refine ot3N hI17 ?_
      refine ot3Two (StI_nil ⟨?_, ?_⟩)
      · (apply wpOp_eff rfl; go_wp2_with (first | (go_at_call 6; refine (hKn _ hI17).mono ?_; rintro e v18 ⟨g3, k3, o3, rfl, hg3, hk18, hro3, hb18⟩)))
        have HR3 := Lib.hid hro3
        clear hro3
        have nkp : g3 ≠ wd.heap.size := by have := lt_of_heap hp17; omega
        have hp18 := heap_below hb18 hp17
        have hI18 : Below wd.heap.size wd v18 := below_mid hI17 (Nat.le_refl _) hb18
        refine ot3N hI18 ?_
        refine ot3Two (StI_nil ⟨?_, ?_⟩)
        · (apply wpOp_eff rfl; go_wp2_with (first | (go_at_call 7; refine (hTr _ hI18).mono ?_; rintro e v19 ⟨g4, k4, o4, rfl, hg4, ht19, hro4, hb19⟩)))
          have HR4 := Lib.hid hro4
          clear hro4
          have ntp : g4 ≠ wd.heap.size := by have := lt_of_heap hp18; omega
          have hp19 := heap_below hb19 hp18
          have hk19 := heap_below hb19 hk18
          have hI19 : Below wd.heap.size wd v19 := below_mid hI18 (Nat.le_refl _) hb19
          refine ot3N hI19 ?_
          refine ot3One (StI_nil ?_)
          (apply wpOp_eff rfl; go_wp2_with (first | fail))
          have hI20 : Below wd.heap.size wd (v19.alloc (.cells #[.int .i64 0, .int .i64 0, .int .i64 0, .slice none 0 0] 36)) := hI19.alloc hI19.size _
          have hq20 : (v19.alloc (.cells #[.int .i64 0, .int .i64 0, .int .i64 0, .slice none 0 0] 36)).heap[v19.heap.size]? = some (.cells gridZ 36 (0, 0)) := heap_alloc_at v19 (.cells #[.int .i64 0, .int .i64 0, .int .i64 0, .slice none 0 0] 36)
          have hp20 := heap_alloc_off hp19 (.cells #[.int .i64 0, .int .i64 0, .int .i64 0, .slice none 0 0] 36)
          have npq20 : wd.heap.size ≠ v19.heap.size := by have := lt_of_heap hp19; omega
          have nkq : g3 ≠ v19.heap.size := by have := lt_of_heap hk19; omega
          have hk20 := heap_alloc_off hk19 (.cells #[.int .i64 0, .int .i64 0, .int .i64 0, .slice none 0 0] 36)
          have ntq : g4 ≠ v19.heap.size := by have := lt_of_heap ht19; omega
          have ht20 := heap_alloc_off ht19 (.cells #[.int .i64 0, .int .i64 0, .int .i64 0, .slice none 0 0] 36)
          have nnq20 : wd.heap.size ≤ v19.heap.size := hI19.size
          generalize (v19.alloc (.cells #[.int .i64 0, .int .i64 0, .int .i64 0, .slice none 0 0] 36)) = v20 at hI20 hq20 hp20 hk20 ht20 ⊢
          refine ot3N hI20 ?_
          refine ot3One ?_
          have hG := (⟨hp20, hq20, hk20, ht20, npq20, nkp, nkq, ntp, ntq, nnp17, nnq20, hI20⟩ : GS wd v20 (wd.heap.size) (v19.heap.size) g3 g4 gridZ gridZ o3 o4)
          clear hI17 hp17 hp18 hk18 hI18 hb18 hp19 hk19 ht19 hI19 hb19 hI20 hq20 hp20 hk20 ht20
          apply StI_eff rfl
          refine wpList_store_rowTo rfl 36 _ _ rfl rfl (wd.heap.size) #[.int .i64 s.wd, .int .i64 s.ht, .int .i64 500, .slice (some ⟨g3, 0, none⟩) N k3] (by kernel_rfl) (by kernel_rfl) _ _ hG.hp (by kernel_rfl) rfl (by simp [Value.oneCell']) ?_
          apply wpList_nil
          have hG2 : GS wd (v20.setRow (wd.heap.size) #[.int .i64 s.wd, .int .i64 s.ht, .int .i64 500, .slice (some ⟨g3, 0, none⟩) N k3]) (wd.heap.size) (v19.heap.size) g3 g4 #[.int .i64 s.wd, .int .i64 s.ht, .int .i64 500, .slice (some ⟨g3, 0, none⟩) N k3] gridZ o3 o4 := hG.setP
          generalize v20.setRow (wd.heap.size) #[.int .i64 s.wd, .int .i64 s.ht, .int .i64 500, .slice (some ⟨g3, 0, none⟩) N k3] = w8 at hG2 ⊢
          clear hG
          refine ot3N hG2.below (ot3One ?_)
          apply StI_eff rfl
          refine wpList_store_rowTo rfl 36 _ _ rfl rfl (v19.heap.size) #[.int .i64 s.wd, .int .i64 s.ht, .int .i64 500, .slice (some ⟨g4, 0, none⟩) N k4] (by kernel_rfl) (by kernel_rfl) _ _ hG2.hq (by kernel_rfl) rfl (by simp [Value.oneCell']) ?_
          apply wpList_nil
          refine ot3N hG2.setQ.below (ot3Fin (StI_nil ?_))
          go_wp2_with fail
          go_meet
          exact ⟨_, _, g3, k3, g4, k4, o3, o4, rfl, rfl, HR3.out, HR4.out, hG2.setQ⟩
        · (apply wpOp_eff rfl; go_wp2_with (first | fail))
          have hI21 : Below wd.heap.size wd (v18.alloc (.cells #[.int .i64 0, .int .i64 0, .int .i64 0, .slice none 0 0] 36)) := hI18.alloc hI18.size _
          have hq21 : (v18.alloc (.cells #[.int .i64 0, .int .i64 0, .int .i64 0, .slice none 0 0] 36)).heap[v18.heap.size]? = some (.cells gridZ 36 (0, 0)) := heap_alloc_at v18 (.cells #[.int .i64 0, .int .i64 0, .int .i64 0, .slice none 0 0] 36)
          have hp21 := heap_alloc_off hp18 (.cells #[.int .i64 0, .int .i64 0, .int .i64 0, .slice none 0 0] 36)
          have npq21 : wd.heap.size ≠ v18.heap.size := by have := lt_of_heap hp18; omega
          have nkq : g3 ≠ v18.heap.size := by have := lt_of_heap hk18; omega
          have hk21 := heap_alloc_off hk18 (.cells #[.int .i64 0, .int .i64 0, .int .i64 0, .slice none 0 0] 36)
          have nnq21 : wd.heap.size ≤ v18.heap.size := hI18.size
          generalize (v18.alloc (.cells #[.int .i64 0, .int .i64 0, .int .i64 0, .slice none 0 0] 36)) = v21 at hI21 hq21 hp21 hk21 ⊢
          refine ot3N hI21 ?_
          refine ot3One (StI_nil ?_)
          (apply wpOp_eff rfl; go_wp2_with (first | (go_at_call 7; refine (hTr _ hI21).mono ?_; rintro e v22 ⟨g4, k4, o4, rfl, hg4, ht22, hro4, hb22⟩)))
          have HR4 := Lib.hid hro4
          clear hro4
          have ntp : g4 ≠ wd.heap.size := by have := lt_of_heap hp21; omega
          have ntq : g4 ≠ v18.heap.size := by have := lt_of_heap hq21; omega
          have hp22 := heap_below hb22 hp21
          have hq22 := heap_below hb22 hq21
          have hk22 := heap_below hb22 hk21
          have hI22 : Below wd.heap.size wd v22 := below_mid hI21 (Nat.le_refl _) hb22
          refine ot3N hI22 ?_
          refine ot3One ?_
          have hG := (⟨hp22, hq22, hk22, ht22, npq21, nkp, nkq, ntp, ntq, nnp17, nnq21, hI22⟩ : GS wd v22 (wd.heap.size) (v18.heap.size) g3 g4 gridZ gridZ o3 o4)
          clear hI17 hp17 hp18 hk18 hI18 hb18 hI21 hq21 hp21 hk21 hp22 hq22 hk22 ht22 hI22 hb22
          apply StI_eff rfl
          refine wpList_store_rowTo rfl 36 _ _ rfl rfl (wd.heap.size) #[.int .i64 s.wd, .int .i64 s.ht, .int .i64 500, .slice (some ⟨g3, 0, none⟩) N k3] (by kernel_rfl) (by kernel_rfl) _ _ hG.hp (by kernel_rfl) rfl (by simp [Value.oneCell']) ?_
          apply wpList_nil
          have hG2 : GS wd (v22.setRow (wd.heap.size) #[.int .i64 s.wd, .int .i64 s.ht, .int .i64 500, .slice (some ⟨g3, 0, none⟩) N k3]) (wd.heap.size) (v18.heap.size) g3 g4 #[.int .i64 s.wd, .int .i64 s.ht, .int .i64 500, .slice (some ⟨g3, 0, none⟩) N k3] gridZ o3 o4 := hG.setP
          generalize v22.setRow (wd.heap.size) #[.int .i64 s.wd, .int .i64 s.ht, .int .i64 500, .slice (some ⟨g3, 0, none⟩) N k3] = w8 at hG2 ⊢
          clear hG
          refine ot3N hG2.below (ot3One ?_)
          apply StI_eff rfl
          refine wpList_store_rowTo rfl 36 _ _ rfl rfl (v18.heap.size) #[.int .i64 s.wd, .int .i64 s.ht, .int .i64 500, .slice (some ⟨g4, 0, none⟩) N k4] (by kernel_rfl) (by kernel_rfl) _ _ hG2.hq (by kernel_rfl) rfl (by simp [Value.oneCell']) ?_
          apply wpList_nil
          refine ot3N hG2.setQ.below (ot3Fin (StI_nil ?_))
          go_wp2_with fail
          go_meet
          exact ⟨_, _, g3, k3, g4, k4, o3, o4, rfl, rfl, HR3.out, HR4.out, hG2.setQ⟩
      · (apply wpOp_eff rfl; go_wp2_with (first | fail))
        have hI23 : Below wd.heap.size wd (v17.alloc (.cells #[.int .i64 0, .int .i64 0, .int .i64 0, .slice none 0 0] 36)) := hI17.alloc hI17.size _
        have hq23 : (v17.alloc (.cells #[.int .i64 0, .int .i64 0, .int .i64 0, .slice none 0 0] 36)).heap[v17.heap.size]? = some (.cells gridZ 36 (0, 0)) := heap_alloc_at v17 (.cells #[.int .i64 0, .int .i64 0, .int .i64 0, .slice none 0 0] 36)
        have hp23 := heap_alloc_off hp17 (.cells #[.int .i64 0, .int .i64 0, .int .i64 0, .slice none 0 0] 36)
        have npq23 : wd.heap.size ≠ v17.heap.size := by have := lt_of_heap hp17; omega
        have nnq23 : wd.heap.size ≤ v17.heap.size := hI17.size
        generalize (v17.alloc (.cells #[.int .i64 0, .int .i64 0, .int .i64 0, .slice none 0 0] 36)) = v23 at hI23 hq23 hp23 ⊢
        refine ot3N hI23 ?_
        refine ot3One (StI_nil ?_)
        (apply wpOp_eff rfl; go_wp2_with (first | (go_at_call 6; refine (hKn _ hI23).mono ?_; rintro e v24 ⟨g3, k3, o3, rfl, hg3, hk24, hro3, hb24⟩)))
        have HR3 := Lib.hid hro3
        clear hro3
        have nkp : g3 ≠ wd.heap.size := by have := lt_of_heap hp23; omega
        have nkq : g3 ≠ v17.heap.size := by have := lt_of_heap hq23; omega
        have hp24 := heap_below hb24 hp23
        have hq24 := heap_below hb24 hq23
        have hI24 : Below wd.heap.size wd v24 := below_mid hI23 (Nat.le_refl _) hb24
        refine ot3N hI24 ?_
        refine ot3One (StI_nil ?_)
        (apply wpOp_eff rfl; go_wp2_with (first | (go_at_call 7; refine (hTr _ hI24).mono ?_; rintro e v25 ⟨g4, k4, o4, rfl, hg4, ht25, hro4, hb25⟩)))
        have HR4 := Lib.hid hro4
        clear hro4
        have ntp : g4 ≠ wd.heap.size := by have := lt_of_heap hp24; omega
        have ntq : g4 ≠ v17.heap.size := by have := lt_of_heap hq24; omega
        have hp25 := heap_below hb25 hp24
        have hq25 := heap_below hb25 hq24
        have hk25 := heap_below hb25 hk24
        have hI25 : Below wd.heap.size wd v25 := below_mid hI24 (Nat.le_refl _) hb25
        refine ot3N hI25 ?_
        refine ot3One ?_
        have hG := (⟨hp25, hq25, hk25, ht25, npq23, nkp, nkq, ntp, ntq, nnp17, nnq23, hI25⟩ : GS wd v25 (wd.heap.size) (v17.heap.size) g3 g4 gridZ gridZ o3 o4)
        clear hI17 hp17 hI23 hq23 hp23 hp24 hq24 hk24 hI24 hb24 hp25 hq25 hk25 ht25 hI25 hb25
        apply StI_eff rfl
        refine wpList_store_rowTo rfl 36 _ _ rfl rfl (wd.heap.size) #[.int .i64 s.wd, .int .i64 s.ht, .int .i64 500, .slice (some ⟨g3, 0, none⟩) N k3] (by kernel_rfl) (by kernel_rfl) _ _ hG.hp (by kernel_rfl) rfl (by simp [Value.oneCell']) ?_
        apply wpList_nil
        have hG2 : GS wd (v25.setRow (wd.heap.size) #[.int .i64 s.wd, .int .i64 s.ht, .int .i64 500, .slice (some ⟨g3, 0, none⟩) N k3]) (wd.heap.size) (v17.heap.size) g3 g4 #[.int .i64 s.wd, .int .i64 s.ht, .int .i64 500, .slice (some ⟨g3, 0, none⟩) N k3] gridZ o3 o4 := hG.setP
        generalize v25.setRow (wd.heap.size) #[.int .i64 s.wd, .int .i64 s.ht, .int .i64 500, .slice (some ⟨g3, 0, none⟩) N k3] = w8 at hG2 ⊢
        clear hG
        refine ot3N hG2.below (ot3One ?_)
        apply StI_eff rfl
        refine wpList_store_rowTo rfl 36 _ _ rfl rfl (v17.heap.size) #[.int .i64 s.wd, .int .i64 s.ht, .int .i64 500, .slice (some ⟨g4, 0, none⟩) N k4] (by kernel_rfl) (by kernel_rfl) _ _ hG2.hq (by kernel_rfl) rfl (by simp [Value.oneCell']) ?_
        apply wpList_nil
        refine ot3N hG2.setQ.below (ot3Fin (StI_nil ?_))
        go_wp2_with fail
        go_meet
        exact ⟨_, _, g3, k3, g4, k4, o3, o4, rfl, rfl, HR3.out, HR4.out, hG2.setQ⟩
    · (apply wpOp_eff rfl; go_wp2_with (first | fail))
      have hI26 : Below wd.heap.size wd (wd.alloc (.cells #[.int .i64 0, .int .i64 0, .int .i64 0, .slice none 0 0] 36)).drew := ((Below.refl _ _).alloc (Nat.le_refl _) _).drew
      have hq26 : (wd.alloc (.cells #[.int .i64 0, .int .i64 0, .int .i64 0, .slice none 0 0] 36)).drew.heap[wd.heap.size]? = some (.cells gridZ 36 (0, 0)) := heap_drew' (heap_alloc_at wd (.cells #[.int .i64 0, .int .i64 0, .int .i64 0, .slice none 0 0] 36))
      have nnq26 : wd.heap.size ≤ wd.heap.size := Nat.le_refl _
      generalize (wd.alloc (.cells #[.int .i64 0, .int .i64 0, .int .i64 0, .slice none 0 0] 36)).drew = v26 at hI26 hq26 ⊢
      refine ot3N hI26 ?_
      refine ot3Two (StI_nil ⟨?_, ?_⟩)
      · (apply wpOp_eff rfl; go_wp2_with (first | (go_at_call 6; refine (hKn _ hI26).mono ?_; rintro e v27 ⟨g3, k3, o3, rfl, hg3, hk27, hro3, hb27⟩)))
        have HR3 := Lib.hid hro3
        clear hro3
        have nkq : g3 ≠ wd.heap.size := by have := lt_of_heap hq26; omega
        have hq27 := heap_below hb27 hq26
        have hI27 : Below wd.heap.size wd v27 := below_mid hI26 (Nat.le_refl _) hb27
        refine ot3N hI27 ?_
        refine ot3Two (StI_nil ⟨?_, ?_⟩)
        · (apply wpOp_eff rfl; go_wp2_with (first | (go_at_call 7; refine (hTr _ hI27).mono ?_; rintro e v28 ⟨g4, k4, o4, rfl, hg4, ht28, hro4, hb28⟩)))
          have HR4 := Lib.hid hro4
          clear hro4
          have ntq : g4 ≠ wd.heap.size := by have := lt_of_heap hq27; omega
          have hq28 := heap_below hb28 hq27
          have hk28 := heap_below hb28 hk27
          have hI28 : Below wd.heap.size wd v28 := below_mid hI27 (Nat.le_refl _) hb28
          refine ot3N hI28 ?_
          refine ot3One (StI_nil ?_)
          (apply wpOp_eff rfl; go_wp2_with (first | fail))
          have hI29 : Below wd.heap.size wd (v28.alloc (.cells #[.int .i64 0, .int .i64 0, .int .i64 0, .slice none 0 0] 36)) := hI28.alloc hI28.size _
          have hp29 : (v28.alloc (.cells #[.int .i64 0, .int .i64 0, .int .i64 0, .slice none 0 0] 36)).heap[v28.heap.size]? = some (.cells gridZ 36 (0, 0)) := heap_alloc_at v28 (.cells #[.int .i64 0, .int .i64 0, .int .i64 0, .slice none 0 0] 36)
          have hq29 := heap_alloc_off hq28 (.cells #[.int .i64 0, .int .i64 0, .int .i64 0, .slice none 0 0] 36)
          have npq29 : v28.heap.size ≠ wd.heap.size := by have := lt_of_heap hq28; omega
          have nkp : g3 ≠ v28.heap.size := by have := lt_of_heap hk28; omega
          have hk29 := heap_alloc_off hk28 (.cells #[.int .i64 0, .int .i64 0, .int .i64 0, .slice none 0 0] 36)
          have ntp : g4 ≠ v28.heap.size := by have := lt_of_heap ht28; omega
          have ht29 := heap_alloc_off ht28 (.cells #[.int .i64 0, .int .i64 0, .int .i64 0, .slice none 0 0] 36)
          have nnp29 : wd.heap.size ≤ v28.heap.size := hI28.size
          generalize (v28.alloc (.cells #[.int .i64 0, .int .i64 0, .int .i64 0, .slice none 0 0] 36)) = v29 at hI29 hp29 hq29 hk29 ht29 ⊢
          refine ot3N hI29 ?_
          refine ot3One ?_
          have hG := (⟨hp29, hq29, hk29, ht29, npq29, nkp, nkq, ntp, ntq, nnp29, nnq26, hI29⟩ : GS wd v29 (v28.heap.size) (wd.heap.size) g3 g4 gridZ gridZ o3 o4)
          clear hI26 hq26 hq27 hk27 hI27 hb27 hq28 hk28 ht28 hI28 hb28 hI29 hp29 hq29 hk29 ht29
          apply StI_eff rfl
          refine wpList_store_rowTo rfl 36 _ _ rfl rfl (v28.heap.size) #[.int .i64 s.wd, .int .i64 s.ht, .int .i64 500, .slice (some ⟨g3, 0, none⟩) N k3] (by kernel_rfl) (by kernel_rfl) _ _ hG.hp (by kernel_rfl) rfl (by simp [Value.oneCell']) ?_
          apply wpList_nil
          have hG2 : GS wd (v29.setRow (v28.heap.size) #[.int .i64 s.wd, .int .i64 s.ht, .int .i64 500, .slice (some ⟨g3, 0, none⟩) N k3]) (v28.heap.size) (wd.heap.size) g3 g4 #[.int .i64 s.wd, .int .i64 s.ht, .int .i64 500, .slice (some ⟨g3, 0, none⟩) N k3] gridZ o3 o4 := hG.setP
          generalize v29.setRow (v28.heap.size) #[.int .i64 s.wd, .int .i64 s.ht, .int .i64 500, .slice (some ⟨g3, 0, none⟩) N k3] = w8 at hG2 ⊢
          clear hG
          refine ot3N hG2.below (ot3One ?_)
          apply StI_eff rfl
          refine wpList_store_rowTo rfl 36 _ _ rfl rfl (wd.heap.size) #[.int .i64 s.wd, .int .i64 s.ht, .int .i64 500, .slice (some ⟨g4, 0, none⟩) N k4] (by kernel_rfl) (by kernel_rfl) _ _ hG2.hq (by kernel_rfl) rfl (by simp [Value.oneCell']) ?_
          apply wpList_nil
          refine ot3N hG2.setQ.below (ot3Fin (StI_nil ?_))
          go_wp2_with fail
          go_meet
          exact ⟨_, _, g3, k3, g4, k4, o3, o4, rfl, rfl, HR3.out, HR4.out, hG2.setQ⟩
        · (apply wpOp_eff rfl; go_wp2_with (first | fail))
          have hI30 : Below wd.heap.size wd (v27.alloc (.cells #[.int .i64 0, .int .i64 0, .int .i64 0, .slice none 0 0] 36)) := hI27.alloc hI27.size _
          have hp30 : (v27.alloc (.cells #[.int .i64 0, .int .i64 0, .int .i64 0, .slice none 0 0] 36)).heap[v27.heap.size]? = some (.cells gridZ 36 (0, 0)) := heap_alloc_at v27 (.cells #[.int .i64 0, .int .i64 0, .int .i64 0, .slice none 0 0] 36)
          have hq30 := heap_alloc_off hq27 (.cells #[.int .i64 0, .int .i64 0, .int .i64 0, .slice none 0 0] 36)
          have npq30 : v27.heap.size ≠ wd.heap.size := by have := lt_of_heap hq27; omega
          have nkp : g3 ≠ v27.heap.size := by have := lt_of_heap hk27; omega
          have hk30 := heap_alloc_off hk27 (.cells #[.int .i64 0, .int .i64 0, .int .i64 0, .slice none 0 0] 36)
          have nnp30 : wd.heap.size ≤ v27.heap.size := hI27.size
          generalize (v27.alloc (.cells #[.int .i64 0, .int .i64 0, .int .i64 0, .slice none 0 0] 36)) = v30 at hI30 hp30 hq30 hk30 ⊢
          refine ot3N hI30 ?_
          refine ot3One (StI_nil ?_)
          (apply wpOp_eff rfl; go_wp2_with (first | (go_at_call 7; refine (hTr _ hI30).mono ?_; rintro e v31 ⟨g4, k4, o4, rfl, hg4, ht31, hro4, hb31⟩)))
          have HR4 := Lib.hid hro4
          clear hro4
          have ntp : g4 ≠ v27.heap.size := by have := lt_of_heap hp30; omega
          have ntq : g4 ≠ wd.heap.size := by have := lt_of_heap hq30; omega
          have hp31 := heap_below hb31 hp30
          have hq31 := heap_below hb31 hq30
          have hk31 := heap_below hb31 hk30
          have hI31 : Below wd.heap.size wd v31 := below_mid hI30 (Nat.le_refl _) hb31
          refine ot3N hI31 ?_
          refine ot3One ?_
          have hG := (⟨hp31, hq31, hk31, ht31, npq30, nkp, nkq, ntp, ntq, nnp30, nnq26, hI31⟩ : GS wd v31 (v27.heap.size) (wd.heap.size) g3 g4 gridZ gridZ o3 o4)
          clear hI26 hq26 hq27 hk27 hI27 hb27 hI30 hp30 hq30 hk30 hp31 hq31 hk31 ht31 hI31 hb31
          apply StI_eff rfl
          refine wpList_store_rowTo rfl 36 _ _ rfl rfl (v27.heap.size) #[.int .i64 s.wd, .int .i64 s.ht, .int .i64 500, .slice (some ⟨g3, 0, none⟩) N k3] (by kernel_rfl) (by kernel_rfl) _ _ hG.hp (by kernel_rfl) rfl (by simp [Value.oneCell']) ?_
          apply wpList_nil
          have hG2 : GS wd (v31.setRow (v27.heap.size) #[.int .i64 s.wd, .int .i64 s.ht, .int .i64 500, .slice (some ⟨g3, 0, none⟩) N k3]) (v27.heap.size) (wd.heap.size) g3 g4 #[.int .i64 s.wd, .int .i64 s.ht, .int .i64 500, .slice (some ⟨g3, 0, none⟩) N k3] gridZ o3 o4 := hG.setP
          generalize v31.setRow (v27.heap.size) #[.int .i64 s.wd, .int .i64 s.ht, .int .i64 500, .slice (some ⟨g3, 0, none⟩) N k3] = w8 at hG2 ⊢
          clear hG
          refine ot3N hG2.below (ot3One ?_)
          apply StI_eff rfl
          refine wpList_store_rowTo rfl 36 _ _ rfl rfl (wd.heap.size) #[.int .i64 s.wd, .int .i64 s.ht, .int .i64 500, .slice (some ⟨g4, 0, none⟩) N k4] (by kernel_rfl) (by kernel_rfl) _ _ hG2.hq (by kernel_rfl) rfl (by simp [Value.oneCell']) ?_
          apply wpList_nil
          refine ot3N hG2.setQ.below (ot3Fin (StI_nil ?_))
          go_wp2_with fail
          go_meet
          exact ⟨_, _, g3, k3, g4, k4, o3, o4, rfl, rfl, HR3.out, HR4.out, hG2.setQ⟩
      · (apply wpOp_eff rfl; go_wp2_with (first | fail))
        have hI32 : Below wd.heap.size wd (v26.alloc (.cells #[.int .i64 0, .int .i64 0, .int .i64 0, .slice none 0 0] 36)) := hI26.alloc hI26.size _
        have hp32 : (v26.alloc (.cells #[.int .i64 0, .int .i64 0, .int .i64 0, .slice none 0 0] 36)).heap[v26.heap.size]? = some (.cells gridZ 36 (0, 0)) := heap_alloc_at v26 (.cells #[.int .i64 0, .int .i64 0, .int .i64 0, .slice none 0 0] 36)
        have hq32 := heap_alloc_off hq26 (.cells #[.int .i64 0, .int .i64 0, .int .i64 0, .slice none 0 0] 36)
        have npq32 : v26.heap.size ≠ wd.heap.size := by have := lt_of_heap hq26; omega
        have nnp32 : wd.heap.size ≤ v26.heap.size := hI26.size
        generalize (v26.alloc (.cells #[.int .i64 0, .int .i64 0, .int .i64 0, .slice none 0 0] 36)) = v32 at hI32 hp32 hq32 ⊢
        refine ot3N hI32 ?_
        refine ot3One (StI_nil ?_)
        (apply wpOp_eff rfl; go_wp2_with (first | (go_at_call 6; refine (hKn _ hI32).mono ?_; rintro e v33 ⟨g3, k3, o3, rfl, hg3, hk33, hro3, hb33⟩)))
        have HR3 := Lib.hid hro3
        clear hro3
        have nkp : g3 ≠ v26.heap.size := by have := lt_of_heap hp32; omega
        have nkq : g3 ≠ wd.heap.size := by have := lt_of_heap hq32; omega
        have hp33 := heap_below hb33 hp32
        have hq33 := heap_below hb33 hq32
        have hI33 : Below wd.heap.size wd v33 := below_mid hI32 (Nat.le_refl _) hb33
        refine ot3N hI33 ?_
        refine ot3One (StI_nil ?_)
        (apply wpOp_eff rfl; go_wp2_with (first | (go_at_call 7; refine (hTr _ hI33).mono ?_; rintro e v34 ⟨g4, k4, o4, rfl, hg4, ht34, hro4, hb34⟩)))
        have HR4 := Lib.hid hro4
        clear hro4
        have ntp : g4 ≠ v26.heap.size := by have := lt_of_heap hp33; omega
        have ntq : g4 ≠ wd.heap.size := by have := lt_of_heap hq33; omega
        have hp34 := heap_below hb34 hp33
        have hq34 := heap_below hb34 hq33
        have hk34 := heap_below hb34 hk33
        have hI34 : Below wd.heap.size wd v34 := below_mid hI33 (Nat.le_refl _) hb34
        refine ot3N hI34 ?_
        refine ot3One ?_
        have hG := (⟨hp34, hq34, hk34, ht34, npq32, nkp, nkq, ntp, ntq, nnp32, nnq26, hI34⟩ : GS wd v34 (v26.heap.size) (wd.heap.size) g3 g4 gridZ gridZ o3 o4)
        clear hI26 hq26 hI32 hp32 hq32 hp33 hq33 hk33 hI33 hb33 hp34 hq34 hk34 ht34 hI34 hb34
        apply StI_eff rfl
        refine wpList_store_rowTo rfl 36 _ _ rfl rfl (v26.heap.size) #[.int .i64 s.wd, .int .i64 s.ht, .int .i64 500, .slice (some ⟨g3, 0, none⟩) N k3] (by kernel_rfl) (by kernel_rfl) _ _ hG.hp (by kernel_rfl) rfl (by simp [Value.oneCell']) ?_
        apply wpList_nil
        have hG2 : GS wd (v34.setRow (v26.heap.size) #[.int .i64 s.wd, .int .i64 s.ht, .int .i64 500, .slice (some ⟨g3, 0, none⟩) N k3]) (v26.heap.size) (wd.heap.size) g3 g4 #[.int .i64 s.wd, .int .i64 s.ht, .int .i64 500, .slice (some ⟨g3, 0, none⟩) N k3] gridZ o3 o4 := hG.setP
        generalize v34.setRow (v26.heap.size) #[.int .i64 s.wd, .int .i64 s.ht, .int .i64 500, .slice (some ⟨g3, 0, none⟩) N k3] = w8 at hG2 ⊢
        clear hG
        refine ot3N hG2.below (ot3One ?_)
        apply StI_eff rfl
        refine wpList_store_rowTo rfl 36 _ _ rfl rfl (wd.heap.size) #[.int .i64 s.wd, .int .i64 s.ht, .int .i64 500, .slice (some ⟨g4, 0, none⟩) N k4] (by kernel_rfl) (by kernel_rfl) _ _ hG2.hq (by kernel_rfl) rfl (by simp [Value.oneCell']) ?_
        apply wpList_nil
        refine ot3N hG2.setQ.below (ot3Fin (StI_nil ?_))
        go_wp2_with fail
        go_meet
        exact ⟨_, _, g3, k3, g4, k4, o3, o4, rfl, rfl, HR3.out, HR4.out, hG2.setQ⟩
  case rest =>
    obtain ⟨p3, p4, g3, k3, g4, k4, o3, o4, rfl, rfl, hR3, hR4, hG⟩ := hcut
    have hTB : TB w wc #[.int .u8 s.wide, .int .u8 s.high, .slice al s.low.length cl, .slice am s.more.length cm, .slice aw s.where_.length cw, .int .i8 mean, .slice a1 ps.length c1, .int .u32 f, .int .u32 lg, .int .i16 lv, .slice a2 ats.length c2, .slice a3 seas.length c3] (gridV s g3 N k3) (gridV s g4 N k4) p3 p4 g3 g4 o3 o4 := ⟨heap_below hG.below Hhbx.out, hG.hp, hG.hq, hG.hk, hG.ht, bl_step Hhbw.out hG.below⟩
    obtain ⟨w1, hw1⟩ : ∃ x, wc = x := ⟨_, rfl⟩
    rw [hw1] at hTB ⊢
    clear hKn hTr hbc hbl Hhbx Hhbw hG hw1
    have HhR3 := Lib.hid hR3; clear hR3; have HhR4 := Lib.hid hR4; clear hR4
    have hbc := cells_of hTB.box
    have hbl := lt_of_heap hTB.box
    have hszw : w.heap.size < w1.heap.size := hbl
    have HhTB := Lib.hid hTB; clear hTB
    go_wp2_with fail
    go_loopw [67] (fun i wr => PartI w1 mean ps i wr) (fun i _ => ps.length - (intOf i).toNat)
    case atStart => exact ⟨0, _, Nat.zero_le _, rfl, heap_alloc_at _ _, World.ownsRow_nil _ _ _ _, (by repeat (first | exact Below.refl _ _ | (refine bl_setCell ?_ _ _ ?_; rotate_left; focus (first | omega | (simp; done) | (simp; omega))) | refine bl_alloc ?_ _ | refine bl_step ?_ (by assumption) | refine bl_drew ?_ | refine bl_drewN ?_ _)), by simp⟩
    case round =>
      obtain ⟨k, v, hk, rfl, x1, hrow, hb, hsz⟩ := hrel
      by_cases hlt : k < ps.length
      · as_aux_lemma =>
        have x1c := cells_of x1
        have x1f := frozen_of x1
        have x1l := lt_of_heap x1
        clear hbc hbl
        obtain ⟨b, off, rfl, hbB, he⟩ := (HhP.out.below (ek_u32 B) ((bl_step HhTB.out.below hb).mono hB)).2 k hlt
        have hg := Hhp.out ps[k] (List.getElem_mem hlt)
        have hsn : (ps.take (k + 1)).map partOf = (ps.take k).map partOf ++ [partOf ps[k]] := by rw [List.take_succ_eq_append_getElem hlt, List.map_append]; rfl
        obtain ⟨x, hx⟩ : ∃ x, ps[k] = x := ⟨_, rfl⟩
        rw [hx] at he hg hsn
        obtain ⟨e0, e1, e2⟩ := he
        obtain ⟨g0', g1', g2, g3', g4', g5⟩ := hg
        obtain ⟨i0, hinf, hz0, hz1, hz2⟩ := info_parts info56
        have hbw : b < wr.heap.size := by omega
        have hmax : k + 1 ≤ maxLen := by unfold maxLen; omega
        have hlt0 := fun g (hg : v.ownBlock = some g) => (hrow.lt g hg).1
        have Hhx := Lib.hid hx; clear hx; have Hhsn := Lib.hid hsn; clear hsn; have Hhb := Lib.hid hb; clear hb; have Hx1 := Lib.hid x1; clear x1
        have hnews := news3 (wr.alloc (.cells #[.int .u32 x.a, .int .u32 x.b, .int .u32 x.c] 41)) (.int .i64 (x.a % 500)) (.int .i64 (1000000 + x.b % 50000000)) (.int .i64 (x.c % 3600))
        rw [World.size_alloc] at hnews
        go_wp2_with (at_builtin; refine wpList_append_own _ rfl _ _ 38 rfl (w1.heap.size + 1) 43 i0 (.agg #[.int .i64 0, .int .i64 0, .int .i64 0]) 3 24 Try.underlying38 hinf hz0 hz1 hz2 rfl (by decide) _ _ _ rfl ((hrow.alloc _).alloc _) ⟨wr.heap.size + 1, 0, none⟩ 1 1 [.int .i64 (x.a % 500), .int .i64 (1000000 + x.b % 50000000), .int .i64 (x.c % 3600)] rfl rfl hnews (by simp [Value.oneCell']) (by omega) (by omega) (by simp; omega) ?_; intro v' w4 hown' hgrow _; obtain ⟨g', cap', rfl⟩ := ownsRow_succ hown'; replace hgrow : ((wr.alloc (.cells #[.int .u32 x.a, .int .u32 x.b, .int .u32 x.c] 41)).alloc (.cells #[.int .i64 (x.a % 500), .int .i64 (1000000 + x.b % 50000000), .int .i64 (x.c % 3600)] 43)).grownBy w4 v.ownBlock := hgrow; have n1 : some w1.heap.size ≠ v.ownBlock := (fun h => by have := hlt0 _ h.symm; omega); have k1 := (hgrow.block w1.heap.size (by simp; omega) n1).trans (heap_alloc_off (heap_alloc_off Hx1.out _) _); have hb4 : Below w1.heap.size w1 w4 := (bl_alloc (bl_alloc Hhb.out _) _).grown hgrow (by simp; omega) (fun k hk => by have := hlt0 k hk; omega); have hs4 : wr.heap.size + 2 ≤ w4.heap.size := (by have := hgrow.size; simpa using this); have k1c := cells_of k1; have k1f := frozen_of k1; have k1l := lt_of_heap k1; clear x1c x1f e0 e1 e2 hnews; have Hk1 := Lib.hid k1; clear k1; have Hhb4 := Lib.hid hb4; clear hb4; have Hown := Lib.hid hown'; clear hown' hgrow n1)
        refine ⟨⟨k + 1, _, by omega, by go_num, (heap_setCell_at Hk1.out _).trans rfl, ?_, bl_setCell Hhb4.out _ _ (by show _ ≤ w1.heap.size; omega), by simp; omega⟩, by simp [intOf]; omega⟩
        rw [Hhsn.out, pcells_snoc]
        exact ownsRow_setCell_below Hown.out (by show w1.heap.size < w1.heap.size + 1; omega) _
      · obtain rfl : k = ps.length := by omega
        rw [List.take_length] at hrow
        have hpl : (ps.map partOf).length = ps.length := by simp
        rw [← hpl] at hrow
        obtain ⟨ap, cp, rfl, hSp⟩ := sl_parts hrow (by omega)
        rw [hpl] at x1
        have hgood : ∀ p ∈ ps.map partOf, p.good := fun p hp => by
          obtain ⟨x, hx, rfl⟩ := List.mem_map.1 hp
          exact partOf_good (Hhp.out x hx)
        obtain ⟨pp, hpp⟩ : ∃ pp, ps.map partOf = pp := ⟨_, rfl⟩
        rw [hpp] at hpl hgood hSp
        have hTB2 := HhTB.out.step hb
        have hMD : ModelM wr.heap.size wr mean pp ap := ⟨hSp, hgood, by omega, by omega, by omega⟩
        obtain ⟨p5, hp5⟩ : ∃ q, w1.heap.size = q := ⟨_, rfl⟩
        rw [hp5] at x1 ⊢
        obtain ⟨w2, hw2⟩ : ∃ x, wr = x := ⟨_, rfl⟩
        rw [hw2] at x1 hTB2 hMD ⊢
        obtain ⟨np, hnp⟩ : ∃ n, ps.length = n := ⟨_, rfl⟩
        rw [hnp] at hpl x1 h4
        have hbc := cells_of hTB2.box
        have hbl := lt_of_heap hTB2.box
        clear HhTB HhP Hhp hrow hb hSp hpp hlt hk hsz hw2 hp5
        have Hx1 := Lib.hid x1; clear x1; have HhTB2 := Lib.hid hTB2; clear hTB2; have HhMD := Lib.hid hMD; clear hMD; have Hhgood := Lib.hid hgood; clear hgood
        rw [hnp]
        go_wp2_with fail
        go_loopw [8, 95] (fun sl i wr => SeaJ w2 (N : Int) seas sl i wr) (fun _ i _ => seas.length - (intOf i).toNat)
        case atStart => exact ⟨0, _, Nat.zero_le _, rfl, rfl, World.ownsRow_lit (e := 3) (size := 1) _ _ 1 (Nat.le_refl _) (by unfold maxLen; omega) rfl, (by repeat (first | exact Below.refl _ _ | (refine bl_setCell ?_ _ _ ?_; rotate_left; focus (first | omega | (simp; done) | (simp; omega))) | refine bl_alloc ?_ _ | refine bl_step ?_ (by assumption) | refine bl_drew ?_ | refine bl_drewN ?_ _)), by simp⟩
        case round =>
          obtain ⟨k, v, hk, rfl, rfl, hrow, hb, hsz⟩ := hrel
          by_cases hlt : k < seas.length
          · as_aux_lemma =>
            have hT3 := HhTB2.out.step hb
            obtain ⟨b, off, rfl, hbB, he⟩ := (HhE.out.below ((bl_step HhTB2.out.below hb).mono hB)).2 k hlt
            have hxb := Hhe.out seas[k] (List.getElem_mem hlt)
            have hsn := seaOf_snoc (N : Int) seas k hlt
            obtain ⟨x, hx⟩ : ∃ x, seas[k] = x := ⟨_, rfl⟩
            rw [hx] at he hxb hsn
            unfold KE at he
            obtain ⟨x0, x1'⟩ := hxb
            obtain ⟨NI, hNI⟩ : ∃ n : Int, (N : Int) = n := ⟨_, rfl⟩
            have NI0 : 0 < NI := by omega
            have NI1 : ¬ NI = 0 := by omega
            have NI2 : NI ≤ 16 := by omega
            rw [hNI] at hrow hsn
            obtain ⟨J, hJ⟩ : ∃ J : Int, x % NI = J := ⟨_, rfl⟩
            have J0 : 0 ≤ J := by rw [← hJ]; exact Int.emod_nonneg _ NI1
            have J1 : J < NI := by rw [← hJ]; exact Int.emod_lt_of_pos _ NI0
            rw [hJ] at hsn
            obtain ⟨i0, hinf, hz0, hz1, hz2⟩ := info_parts infoInt
            have hbw : b < wr.heap.size := by have := (bl_step HhTB2.out.below hb).size; omega
            have hmax : k + 1 + 1 ≤ maxLen := by unfold maxLen; omega
            have hlt0 := fun g (hg : v.ownBlock = some g) => (hrow.lt g hg).1
            have hgc := cells_of hT3.hp
            have hgl := lt_of_heap hT3.hp
            clear hbc hbl
            have Hhx := Lib.hid hx; clear hx; have Hhsn := Lib.hid hsn; clear hsn; have Hhb := Lib.hid hb; clear hb; have HhT3 := Lib.hid hT3; clear hT3
            go_wp2_with (at_builtin; refine wpList_append_own _ rfl _ _ 44 rfl w2.heap.size 3 i0 (.int .i64 0) 1 8 Try.underlying44 hinf hz0 hz1 hz2 rfl (by decide) _ _ _ rfl (hrow.alloc _) ⟨wr.heap.size, 0, none⟩ 1 1 [.int .i64 J] rfl rfl (news1 _ _ _ 3 (heap_alloc_at _ _)) (by simp [Value.oneCell']) (by omega) (by omega) (by simp; omega) ?_; intro v' w4 hown' hgrow _; obtain ⟨g', cap', rfl⟩ := ownsRow_succ hown'; replace hgrow : (wr.alloc (.cells #[.int .i64 J] 3)).grownBy w4 v.ownBlock := hgrow; have hb4 : Below w2.heap.size w2 w4 := (bl_alloc Hhb.out _).grown hgrow (by simp; omega) (fun k hk => by have := hlt0 k hk; omega); have hs4 : wr.heap.size + 1 ≤ w4.heap.size := (by have := hgrow.size; simpa using this); clear he hgc hgl; have Hhb4 := Lib.hid hb4; clear hb4; have Hown := Lib.hid hown'; clear hown' hgrow)
            refine ⟨⟨k + 1, _, by omega, rfl, by go_num, ?_, Hhb4.out, by omega⟩, by simp [intOf]; omega⟩
            rw [hNI, Hhsn.out]
            have := Hown.out
            simpa [ints] using this
          · obtain rfl : k = seas.length := by omega
            rw [List.take_length] at hrow
            have hsb := seaOf_bd (show (0 : Int) < N by omega) seas
            have hsl : (seaOf (N : Int) seas).length = seas.length + 1 := by simp [seaOf]
            obtain ⟨sea, hsea⟩ : ∃ l, seaOf (N : Int) seas = l := ⟨_, rfl⟩
            rw [hsea] at hrow hsb hsl
            rw [← hsl] at hrow
            obtain ⟨sa, sc, hsv, hSea⟩ := sl_ints hrow (by omega)
            rw [hsl] at hsv
            subst hsv
            have hT3 := HhTB2.out.step hb
            have hx3 := heap_below hb Hx1.out
            have hM3 := (HhMD.out.below hb).mono hb.size
            have hsn1 : 1 ≤ sea.length := by omega
            obtain ⟨ns, hns⟩ : ∃ n, seas.length + 1 = n := ⟨_, rfl⟩
            rw [hns] at hsl ⊢
            obtain ⟨w3, hw3⟩ : ∃ x, wr = x := ⟨_, rfl⟩
            rw [hw3] at hSea hT3 hx3 hM3 ⊢
            obtain ⟨lo, hlo⟩ : ∃ x, f % 400000000 = x := ⟨_, rfl⟩
            obtain ⟨ln, hln⟩ : ∃ x, lg % 100000000 = x := ⟨_, rfl⟩
            obtain ⟨lev, hlev⟩ : ∃ x, lv.tmod 3000 = x := ⟨_, rfl⟩
            obtain ⟨hi, hhi⟩ : ∃ x, lo + ln = x := ⟨_, rfl⟩
            have lo0 : 0 ≤ lo := by omega
            have lo1 : lo < 400000000 := by omega
            have ln0 : 0 ≤ ln := by omega
            have ln1 : ln < 100000000 := by omega
            have lev0 : -3000 < lev := by have := Int.lt_tmod_of_pos lv (show (0 : Int) < 3000 by omega); omega
            have lev1 : lev < 3000 := by have := Int.tmod_lt_of_pos lv (show (0 : Int) < 3000 by omega); omega
            clear hbc hbl HhTB2 HhMD Hx1 hrow hb hsz hw3 hk hlt HhE Hhe HhS
            have hbc := cells_of hT3.box
            have hbl := lt_of_heap hT3.box
            have hxl := lt_of_heap hx3
            have HhSea := Lib.hid hSea; clear hSea; have HhT3 := Lib.hid hT3; clear hT3; have Hhx3 := Lib.hid hx3; clear hx3; have HhM3 := Lib.hid hM3; clear hM3; have Hhsb := Lib.hid hsb; clear hsb; have Hhsl := Lib.hid hsl; clear hsl; have Hhsea := Lib.hid hsea; clear hsea
            go_wp2_with fail
            refine (tspan_any _ _ _).mono ?_
            rintro e w4 ⟨rfl, hb4⟩
            have hT4 := HhT3.out.step hb4
            have hx4 := heap_below hb4 Hhx3.out
            have hM4 := HhM3.out.below hb4
            have hS4 := HhSea.out.below (ek_int _) hb4
            have hsz4 := hb4.size
            clear hbc hbl hxl HhT3 HhSea HhM3 Hhx3 hb4
            have hbc := cells_of hT4.box
            have hbl := lt_of_heap hT4.box
            have hxc := cells_of hx4
            have hxl := lt_of_heap hx4
            have HhT4 := Lib.hid hT4; clear hT4; have Hhx4 := Lib.hid hx4; clear hx4; have HhM4 := Lib.hid hM4; clear hM4; have HhS4 := Lib.hid hS4; clear hS4
            go_wp2_with fail
            have hW5 : Below w4.heap.size w4 (w4.alloc (.cells #[.int .i64 lo, .int .i64 hi] 46)) := bl_alloc (Below.refl _ _) _
            have hMB : MB w (w4.alloc (.cells #[.int .i64 lo, .int .i64 hi] 46)) #[.int .u8 s.wide, .int .u8 s.high, .slice al s.low.length cl, .slice am s.more.length cm, .slice aw s.where_.length cw, .int .i8 mean, .slice a1 ps.length c1, .int .u32 f, .int .u32 lg, .int .i16 lv, .slice a2 ats.length c2, .slice a3 seas.length c3] (gridV s g3 N k3) (gridV s g4 N k4) p3 p4 g3 g4 o3 o4 p5 mean pp ap np cp w4.heap.size lo hi w4.heap.size sa sea :=
              ⟨HhT4.out.step hW5, heap_below hW5 Hhx4.out, heap_alloc_at _ _, (HhM4.out.mono hsz4).below hW5, (HhS4.out.mono hsz4).below (ek_int _) hW5, hW5.size⟩
            generalize (w4.alloc (.cells #[.int .i64 lo, .int .i64 hi] 46)) = w5 at hMB ⊢
            obtain ⟨p11, hp11⟩ : ∃ q, w4.heap.size = q := ⟨_, rfl⟩
            rw [hp11] at hMB ⊢
            clear hbc hbl hxc hxl HhT4 HhM4 HhS4 Hhx4 hsz4 hW5 hp11
            have hLv := fun (B W) (a b : Int) (hM : ModelM B W mean pp ap) (hB : B ≤ W.heap.size) (h0 : 0 ≤ a) (h1 : a ≤ b) (h2 : b ≤ 1000000000) (X Y : Int) (hX : levLo mean pp a b = X) (hY : levHi mean pp a b = Y) => Level_ok mean pp ap cp B a b W hM hB h0 h1 h2 X Y hX hY
            rw [hpl] at hLv
            have hFK := fun (B W) (hg : W.heap[g3]? = some o3) (hB : B ≤ W.heap.size) (hS : Sl IntE 1 B W sa sea) (l0 l1 : Int) (h01 : l0 ≤ l1) (h0 : -20000 ≤ l0) (h1 : l1 ≤ 20000) => flood_row Hhs.out HhN.out (s.known_len.trans HhN.out) (s.gok_known Hhs.out) HhR3.out k3 sc Hhsb.out hsn1 l0 l1 h01 h0 h1 B W hg hB hS
            have hFT := fun (B W) (hg : W.heap[g4]? = some o4) (hB : B ≤ W.heap.size) (hS : Sl IntE 1 B W sa sea) (l0 l1 : Int) (h01 : l0 ≤ l1) (h0 : -20000 ≤ l0) (h1 : l1 ≤ 20000) => flood_row Hhs.out HhN.out (s.truth_len.trans HhN.out) (s.gok_truth Hhs.out) HhR4.out k4 sc Hhsb.out hsn1 l0 l1 h01 h0 h1 B W hg hB hS
            rw [Hhsl.out] at hFK hFT
            have hpos : ∀ p ∈ pp, 0 ≤ p.amp ∧ 0 < p.period := fun p hp => ⟨(Hhgood.out p hp).1, by have := (Hhgood.out p hp).2.2.1; omega⟩
            have hbd := fun a b => lev_bd Hhgood.out (by omega) m0 m1 a b
            obtain ⟨X, hX⟩ : ∃ x, levLo mean pp lo hi = x := ⟨_, rfl⟩
            obtain ⟨Y, hY⟩ : ∃ x, levHi mean pp lo hi = x := ⟨_, rfl⟩
            obtain ⟨hX0, hY1⟩ := hbd lo hi
            have hXY := lev_le (mean := mean) hpos (show lo ≤ hi by omega)
            rw [hX] at hX0 hXY
            rw [hY] at hY1 hXY
            have hlev1 := hLv _ _ lo hi hMB.mm hMB.le (by omega) (by omega) (by omega) X Y hX hY
            have HhLv := Lib.hid hLv; clear hLv; have HhFK := Lib.hid hFK; clear hFK; have HhFT := Lib.hid hFT; clear hFT; have Hhpos := Lib.hid hpos; clear hpos; have Hhbd := Lib.hid hbd; clear hbd; have HhX := Lib.hid hX; clear hX; have HhY := Lib.hid hY; clear hY; have HhMB := Lib.hid hMB; clear hMB
            refine hlev1.mono ?_
            rintro e w6 ⟨rfl, hb6⟩
            clear hlev1
            have hMB6 := HhMB.out.step hb6
            clear hb6 HhMB
            have hgc := cells_of hMB6.tb.hp
            have hgl := lt_of_heap hMB6.tb.hp
            have HhMB6 := Lib.hid hMB6; clear hMB6
            go_wp2_with fail
            have hW6 : Below w6.heap.size w6 (w6.alloc (.cells #[.int .i64 X, .int .i64 Y] 46)) := bl_alloc (Below.refl _ _) _
            have hMB7 := HhMB6.out.step hW6
            have hfl := HhFK.out _ _ hMB7.tb.hk hMB7.le hMB7.sea X Y hXY hX0 hY1
            have HhMB7 := Lib.hid hMB7; clear hMB7
            refine hfl.mono ?_
            rintro e w7 ⟨loK, hiK, aS, aM, cS, cM, rfl, hK1, hK2, hS1, hS2, hb7⟩
            have hMB8 := HhMB7.out.step hb7
            clear hfl hW6 hb7 HhMB7 HhMB6 hgc hgl
            have hbc := cells_of hMB8.tb.box
            have hbl := lt_of_heap hMB8.tb.box
            have hmc := cells_of hMB8.md
            have hml := lt_of_heap hMB8.md
            have hpc := cells_of hMB8.sp
            have hpl11 := lt_of_heap hMB8.sp
            have HhMB8 := Lib.hid hMB8; clear hMB8; have HhK1 := Lib.hid hK1; clear hK1; have HhK2 := Lib.hid hK2; clear hK2; have HhS1 := Lib.hid hS1; clear hS1; have HhS2 := Lib.hid hS2; clear hS2
            have hd : hi - lo = ln := by omega
            obtain ⟨st, hst40⟩ : ∃ x, ln / 40 = x := ⟨_, rfl⟩
            have st0 : 0 ≤ st := by omega
            have st1 : st < 4000000 := by omega
            have hqst : ((hi : Int) - lo - 1).tdiv (st + 1) < 10000 := by
              rw [hd]
              by_cases hz : 0 ≤ ln - 1
              · rw [Int.tdiv_eq_ediv_of_nonneg hz]
                refine Int.ediv_lt_of_lt_mul (by omega) ?_
                omega
              · have : ln = 0 := by omega
                subst this
                have : st = 0 := by omega
                subst this
                decide
            have hwin := windows_ok mean pp ap cp _ lo hi (st + 1) lev w7 HhMB8.out.mm HhMB8.out.le (by omega) (by omega) (by omega) (by omega) (by omega) hqst (by omega) (by omega) (by omega)
            rw [hpl] at hwin
            clear hqst
            go_wp2_with fail
            refine hwin.mono ?_
            rintro e w8 ⟨xs, v8, rfl, hcut, hrow8, hb8⟩
            have hwok := win_ok (mean := mean) (l := pp) (level := lev) Hhpos.out (show 1 ≤ st + 1 by omega) xs hcut
            have hwn : (win mean pp lev xs).out.length ≤ 1000 := Nat.le_trans (win_length mean pp lev xs) (few_1000 (d := hi - lo) st0 (by omega) (few_cut (show 1 ≤ st + 1 by omega) xs lo hcut (by omega)))
            obtain ⟨aw8, cw8, hv8, hSw⟩ := sl_spans hrow8 hwn
            subst hv8
            obtain ⟨ws, hws⟩ : ∃ x, (win mean pp lev xs).out = x := ⟨_, rfl⟩
            rw [hws] at hwok hwn hSw ⊢
            have hMB9 := HhMB8.out.step hb8
            have hS1' := HhS1.out.below (ek_bool _) hb8
            have hS2' := HhS2.out.below (ek_bool _) hb8
            have hs78 := hb8.size
            clear hwin hcut hrow8 hb8 hws HhMB8 HhS1 HhS2 hbc hbl hmc hml hpc hpl11 hd
            have hgc := cells_of hMB9.tb.hp
            have hgl := lt_of_heap hMB9.tb.hp
            have hI : Below w8.heap.size w8 w8.drew := (Below.refl _ _).drew
            have HhMB9 := Lib.hid hMB9; clear hMB9; have HhS1' := Lib.hid hS1'; clear hS1'; have HhS2' := Lib.hid hS2'; clear hS2'; have HhSw := Lib.hid hSw; clear hSw; have Hhwok := Lib.hid hwok; clear hwok
            go_upto_region 22 with fail
            refine wp_region_ord (fun W => Below w8.heap.size w8 W) [([0, 1, 2, 3], 4), ([], 5)] [6, 7, 8, 9, 10, 11, 12] none (by kernel_rfl) (by kernel_rfl) hI ?_
            refine OrdI_cons ?_
            (apply StI_plain (w0 := w8.drew) hI rfl rfl rfl rfl; (focus (intro W hW K hK; obtain ⟨_, _⟩ := bk p3 hW hgl; go_step; exact hK)); (focus rfl)); (apply StI_plain (w0 := w8.drew) hI rfl rfl rfl rfl; (focus (intro W hW K hK; obtain ⟨_, _⟩ := bk p3 hW hgl; go_step; exact hK)); (focus rfl)); (apply StI_plain (w0 := w8.drew) hI rfl rfl rfl rfl; (focus (intro W hW K hK; obtain ⟨_, _⟩ := bk p3 hW hgl; go_step; exact hK)); (focus rfl)); (apply StI_plain (w0 := w8.drew) hI rfl rfl rfl rfl; (focus (intro W hW K hK; obtain ⟨_, _⟩ := bk p3 hW hgl; go_step; exact hK)); (focus rfl))
            (apply StI_eff rfl; go_wp2_with (first | (go_at_call 8; refine (tspan_any _ _ _).mono ?_; rintro e w9 ⟨rfl, hb9⟩)))
            have hI9 : Below w8.heap.size w8 w9 := below_mid hI (Nat.le_refl _) hb9
            have hMBx := HhMB9.out.step hI9
            refine onNormal_mk hI9 (OrdI_cons ?_)
            (apply StI_eff rfl; go_wp2_with (first | (go_at_call 10; refine (HhFK.out _ _ hMBx.tb.hk hMBx.le hMBx.sea lev lev (Int.le_refl _) (by omega) (by omega)).mono ?_; rintro e w10 ⟨loL, hiL, aI, aL, cI, cL, rfl, hL1, _, _, hL2, hb10⟩)))
            have hI10 : Below w8.heap.size w8 w10 := below_mid hI9 (Nat.le_refl _) hb10
            refine onNormal_mk hI10 (OrdI_fin ?_)
            (apply StI_plain (w0 := w10) hI10 rfl rfl rfl rfl; (focus (intro W hW K hK; skip; go_step; exact hK)); (focus rfl)); (apply StI_plain (w0 := w10) hI10 rfl rfl rfl rfl; (focus (intro W hW K hK; skip; go_step; exact hK)); (focus rfl)); (apply StI_plain (w0 := w10) hI10 rfl rfl rfl rfl; (focus (intro W hW K hK; skip; go_step; exact hK)); (focus rfl)); (apply StI_plain (w0 := w10) hI10 rfl rfl rfl rfl; (focus (intro W hW K hK; skip; go_step; exact hK)); (focus rfl)); (apply StI_plain (w0 := w10) hI10 rfl rfl rfl rfl; (focus (intro W hW K hK; skip; go_step; exact hK)); (focus rfl)); (apply StI_plain (w0 := w10) hI10 rfl rfl rfl rfl; (focus (intro W hW K hK; skip; go_step; exact hK)); (focus rfl)); (apply StI_plain (w0 := w10) hI10 rfl rfl rfl rfl; (focus (intro W hW K hK; skip; go_step; exact hK)); (focus rfl))
            refine StI_nil ?_
            have hMC := HhMB9.out.step hI10
            have hS1 := (HhS1'.out.below (ek_bool _) (hI10.mono hs78)).mono (show w7.heap.size ≤ w10.heap.size by have := hI10.size; omega)
            have hS2 := (HhS2'.out.below (ek_bool _) (hI10.mono hs78)).mono (show w7.heap.size ≤ w10.heap.size by have := hI10.size; omega)
            have hSw2 := (HhSw.out.below (ek_span _) hI10).mono hI10.size
            clear hI hI9 hI10 hb9 hb10 hMBx HhMB9 HhS1' HhS2' HhSw hgc hgl
            have hgc := cells_of hMC.tb.hp
            have hgl := lt_of_heap hMC.tb.hp
            have hbc := cells_of hMC.tb.box
            have hbl := lt_of_heap hMC.tb.box
            have HhMC := Lib.hid hMC; clear hMC; have HhS1 := Lib.hid hS1; clear hS1; have HhS2 := Lib.hid hS2; clear hS2; have HhSw2 := Lib.hid hSw2; clear hSw2; have HhL1 := Lib.hid hL1; clear hL1; have HhL2 := Lib.hid hL2; clear hL2
            go_wp2_with fail
            go_loopw [203] (fun i wr => LoopB ats.length w10 i wr) (fun i _ => ats.length - (intOf i).toNat)
            case atStart => exact ⟨0, Nat.zero_le _, rfl, Below.refl _ _⟩
            case round =>
              obtain ⟨k, hk, rfl, hb⟩ := hrel
              by_cases hlt : k < ats.length
              · as_aux_lemma =>
                clear hgc hgl hbc hbl
                have hM := HhMC.out.step hb
                have hb10 := hb
                obtain ⟨b, off, rfl, hbB, he⟩ := (HhA.out.below ((bl_step HhMC.out.tb.below hb).mono hB)).2 k hlt
                have hya := Hha.out ats[k] (List.getElem_mem hlt)
                obtain ⟨y, hy⟩ : ∃ x, ats[k] = x := ⟨_, rfl⟩
                rw [hy] at he hya
                unfold KE at he
                obtain ⟨ya0, ya1⟩ := hya
                have hd : hi - lo = ln := by omega
                obtain ⟨D, hD⟩ : ∃ x, ln + 1 = x := ⟨_, rfl⟩
                have D0 : 0 < D := by omega
                have D1 : ¬ D = 0 := by omega
                have D2 : D ≤ 100000000 := by omega
                obtain ⟨R, hR⟩ : ∃ x, y % D = x := ⟨_, rfl⟩
                have R0 : 0 ≤ R := by rw [← hR]; exact Int.emod_nonneg _ D1
                have R1 : R < D := by rw [← hR]; exact Int.emod_lt_of_pos _ D0
                obtain ⟨tm, htm⟩ : ∃ x, lo + R = x := ⟨_, rfl⟩
                have tm0 : lo ≤ tm := by omega
                have tm1 : tm ≤ hi := by omega
                have hbw : b < wr.heap.size := World.block_lt_of_cell? wr _ he
                have hpc := cells_of hM.sp
                have hpl11 := lt_of_heap hM.sp
                have hI : Below wr.heap.size wr wr.drew := (Below.refl _ _).drew
                have Hhy := Lib.hid hy; clear hy; have Hhb := Lib.hid hb; clear hb; have HhM := Lib.hid hM; clear hM
                go_upto_region 28 with fail
                refine wp_region_ord (fun W => Below wr.heap.size wr W) [] [0, 1, 2, 3, 4, 5, 6, 7, 8, 9, 10, 11, 12] none (by kernel_rfl) (by kernel_rfl) hI ?_
                refine OrdI_fin ?_
                (apply StI_plain (w0 := wr.drew) hI rfl rfl rfl rfl; (focus (intro W hW K hK; obtain ⟨_, _⟩ := bk p11 hW hpl11; go_step; exact hK)); (focus rfl)); (apply StI_plain (w0 := wr.drew) hI rfl rfl rfl rfl; (focus (intro W hW K hK; obtain ⟨_, _⟩ := bk p11 hW hpl11; go_step; exact hK)); (focus rfl)); (apply StI_plain (w0 := wr.drew) hI rfl rfl rfl rfl; (focus (intro W hW K hK; obtain ⟨_, _⟩ := bk p11 hW hpl11; go_step; exact hK)); (focus rfl)); (apply StI_plain (w0 := wr.drew) hI rfl rfl rfl rfl; (focus (intro W hW K hK; obtain ⟨_, _⟩ := bk p11 hW hpl11; go_step; exact hK)); (focus rfl)); (apply StI_plain (w0 := wr.drew) hI rfl rfl rfl rfl; (focus (intro W hW K hK; obtain ⟨_, _⟩ := bk p11 hW hpl11; go_step; exact hK)); (focus rfl)); (apply StI_plain (w0 := wr.drew) hI rfl rfl rfl rfl; (focus (intro W hW K hK; obtain ⟨_, _⟩ := bk p11 hW hpl11; go_step; exact hK)); (focus rfl)); (apply StI_plain (w0 := wr.drew) hI rfl rfl rfl rfl; (focus (intro W hW K hK; obtain ⟨_, _⟩ := bk p11 hW hpl11; go_step; exact hK)); (focus rfl)); (apply StI_plain (w0 := wr.drew) hI rfl rfl rfl rfl; (focus (intro W hW K hK; obtain ⟨_, _⟩ := bk p11 hW hpl11; go_step; exact hK)); (focus rfl)); (apply StI_plain (w0 := wr.drew) hI rfl rfl rfl rfl; (focus (intro W hW K hK; obtain ⟨_, _⟩ := bk p11 hW hpl11; go_step; exact hK)); (focus rfl)); (apply StI_plain (w0 := wr.drew) hI rfl rfl rfl rfl; (focus (intro W hW K hK; obtain ⟨_, _⟩ := bk p11 hW hpl11; go_step; exact hK)); (focus rfl)); (apply StI_plain (w0 := wr.drew) hI rfl rfl rfl rfl; (focus (intro W hW K hK; obtain ⟨_, _⟩ := bk p11 hW hpl11; go_step; exact hK)); (focus rfl)); (apply StI_plain (w0 := wr.drew) hI rfl rfl rfl rfl; (focus (intro W hW K hK; obtain ⟨_, _⟩ := bk p11 hW hpl11; go_step; exact hK)); (focus rfl)); (apply StI_plain (w0 := wr.drew) hI rfl rfl rfl rfl; (focus (intro W hW K hK; obtain ⟨_, _⟩ := bk p11 hW hpl11; go_step; exact hK)); (focus rfl))
                refine StI_nil ?_
                have hMA := HhM.out.step hI
                have hbA := bl_step hb10 hI
                obtain ⟨wd, hwd⟩ : ∃ x, wr.drew = x := ⟨_, rfl⟩
                rw [hwd] at hMA hbA ⊢
                clear hI he hbw hpc hpl11 HhM Hhb hb10 hwd hR hD hd htm R0 R1 ya0 ya1 D0 D1 D2
                obtain ⟨T0, hT0⟩ : ∃ x, levLo mean pp tm tm = x := ⟨_, rfl⟩
                obtain ⟨T1, hT1⟩ : ∃ x, levHi mean pp tm tm = x := ⟨_, rfl⟩
                obtain ⟨t00, t11⟩ := Hhbd.out tm tm
                have t01 := lev_le (mean := mean) Hhpos.out (Int.le_refl tm)
                obtain ⟨tx, ty⟩ := lev_in mean pp tm0 (Int.le_refl tm) tm1 Hhpos.out
                rw [hT0] at t00 t01 tx
                rw [hT1] at t11 t01 ty
                rw [HhX.out] at tx
                rw [HhY.out] at ty
                have hLw := fun W (hx : Below wd.heap.size wd W) => HhLv.out _ W tm tm ((hMA.step hx).mm) ((hMA.step hx).le) (by omega) (Int.le_refl _) (by omega) T0 T1 hT0 hT1
                have hmc := cells_of hMA.md
                have hml := lt_of_heap hMA.md
                have HhMA := Lib.hid hMA; clear hMA; have HhbA := Lib.hid hbA; clear hbA; have HhT0 := Lib.hid hT0; clear hT0; have HhT1 := Lib.hid hT1; clear hT1
                go_upto_region 29 with fail
                go_cut [26, 27] from 219 to 227 (fun v e wx => LvB T0 T1 wd v e wx)
                case first =>
                  have hI : Below wd.heap.size wd wd.drew := (Below.refl _ _).drew
                  refine wp_region_ordT (fun W => Below wd.heap.size wd W) (.two [0, 1, 2] 3 (.two [] 4 (.one [5, 6, 7] 8 (.one [] 9 (.fin [10] none))) 8 (.one [] 4 (.one [5, 6, 7] 9 (.fin [10] none)))) 8 (.one [] 3 (.one [] 4 (.one [5, 6, 7] 9 (.fin [10] none))))) (by kernel_rfl) (by kernel_rfl) hI ?_
                  refine otTwo ?_
                  (apply StI_plain (w0 := wd.drew) hI rfl rfl rfl rfl; (focus (intro W hW K hK; obtain ⟨_, _⟩ := bk p5 hW hml; go_step; exact hK)); (focus rfl)); (apply StI_plain (w0 := wd.drew) hI rfl rfl rfl rfl; (focus (intro W hW K hK; obtain ⟨_, _⟩ := bk p5 hW hml; go_step; exact hK)); (focus rfl)); (apply StI_plain (w0 := wd.drew) hI rfl rfl rfl rfl; (focus (intro W hW K hK; obtain ⟨_, _⟩ := bk p5 hW hml; go_step; exact hK)); (focus rfl))
                  refine StI_nil ⟨?_, ?_⟩
                  · (apply wpOp_eff rfl; go_wp2_with (first | (go_at_call 8; refine (tspan_any _ _ _).mono ?_; rintro e x1 ⟨rfl, hy1⟩)))
                    have hI1 : Below wd.heap.size wd x1 := below_mid hI (Nat.le_refl _) hy1
                    refine otN hI1 (otTwo (StI_nil ⟨?_, ?_⟩))
                    · (apply wpOp_eff rfl; go_wp2_with (first | (go_at_call 9; refine (hLw _ hI1).mono ?_; rintro e x2 ⟨rfl, hy2⟩)))
                      have hI2 : Below wd.heap.size wd x2 := below_mid hI1 (Nat.le_refl _) hy2
                      refine otN hI2 (otOne ?_)
                      (apply StI_plain (w0 := x2) hI2 rfl rfl rfl rfl; (focus (intro W hW K hK; skip; go_step; exact hK)); (focus rfl)); (apply StI_plain (w0 := x2) hI2 rfl rfl rfl rfl; (focus (intro W hW K hK; skip; go_step; exact hK)); (focus rfl)); (apply StI_plain (w0 := x2) hI2 rfl rfl rfl rfl; (focus (intro W hW K hK; skip; go_step; exact hK)); (focus rfl))
                      (apply StI_eff rfl; go_wp2_with (first | fail))
                      have hqq : wd.heap.size ≤ x2.heap.size := hI2.size
                      have hIa : Below wd.heap.size wd (x2.alloc (.cells #[.int .i64 0, .int .i64 0] 46)) := hI2.alloc hqq _
                      have xq := heap_alloc_at x2 (.cells #[.int .i64 0, .int .i64 0] 46)
                      generalize (x2.alloc (.cells #[.int .i64 0, .int .i64 0] 46)) = xa at hIa xq ⊢
                      refine otN hIa (otOne ?_)
                      have xqc := cells_of xq
                      have xqf := frozen_of xq
                      have xql := lt_of_heap xq
                      have Hxq := Lib.hid xq; clear xq
                      (apply StI_eff rfl; go_wp2_with (first | fail))
                      have hIz := below_set2 (u := .int .i64 T0) (v := .int .i64 T1) hIa hqq
                      refine otN hIz (otFin ?_)
                      (apply StI_plain (w0 := ((xa.setCell ⟨x2.heap.size, 0, none⟩ (.int .i64 T0)).setCell ⟨x2.heap.size, 1, none⟩ (.int .i64 T1))) hIz rfl rfl rfl rfl; (focus (intro W hW K hK; skip; go_step; exact hK)); (focus rfl))
                      refine StI_nil ?_
                      go_wp2_with fail
                      go_meet
                      exact ⟨_, rfl, rfl, hqq, two_setS Hxq.out, hIz⟩
                    · (apply wpOp_eff rfl; go_wp2_with (first | fail))
                      have hqq : wd.heap.size ≤ x1.heap.size := hI1.size
                      have hIa : Below wd.heap.size wd (x1.alloc (.cells #[.int .i64 0, .int .i64 0] 46)) := hI1.alloc hqq _
                      have xq := heap_alloc_at x1 (.cells #[.int .i64 0, .int .i64 0] 46)
                      generalize (x1.alloc (.cells #[.int .i64 0, .int .i64 0] 46)) = xa at hIa xq ⊢
                      refine otN hIa (otOne ?_)
                      (apply StI_eff rfl; go_wp2_with (first | (go_at_call 9; refine (hLw _ hIa).mono ?_; rintro e x2 ⟨rfl, hy2⟩)))
                      have hI2 : Below wd.heap.size wd x2 := below_mid hIa (Nat.le_refl _) hy2
                      replace xq := heap_below hy2 xq
                      refine otN hI2 (otOne ?_)
                      (apply StI_plain (w0 := x2) hI2 rfl rfl rfl rfl; (focus (intro W hW K hK; skip; go_step; exact hK)); (focus rfl)); (apply StI_plain (w0 := x2) hI2 rfl rfl rfl rfl; (focus (intro W hW K hK; skip; go_step; exact hK)); (focus rfl)); (apply StI_plain (w0 := x2) hI2 rfl rfl rfl rfl; (focus (intro W hW K hK; skip; go_step; exact hK)); (focus rfl))
                      have xqc := cells_of xq
                      have xqf := frozen_of xq
                      have xql := lt_of_heap xq
                      have Hxq := Lib.hid xq; clear xq
                      (apply StI_eff rfl; go_wp2_with (first | fail))
                      have hIz := below_set2 (u := .int .i64 T0) (v := .int .i64 T1) hI2 hqq
                      refine otN hIz (otFin ?_)
                      (apply StI_plain (w0 := ((x2.setCell ⟨x1.heap.size, 0, none⟩ (.int .i64 T0)).setCell ⟨x1.heap.size, 1, none⟩ (.int .i64 T1))) hIz rfl rfl rfl rfl; (focus (intro W hW K hK; skip; go_step; exact hK)); (focus rfl))
                      refine StI_nil ?_
                      go_wp2_with fail
                      go_meet
                      exact ⟨_, rfl, rfl, hqq, two_setS Hxq.out, hIz⟩
                  · (apply wpOp_eff rfl; go_wp2_with (first | fail))
                    have hqq : wd.heap.size ≤ wd.heap.size := Nat.le_refl _
                    have hIa : Below wd.heap.size wd (wd.alloc (.cells #[.int .i64 0, .int .i64 0] 46)).drew := ((Below.refl _ _).alloc hqq _).drew
                    have xq : (wd.alloc (.cells #[.int .i64 0, .int .i64 0] 46)).drew.heap[wd.heap.size]? = some (.cells #[.int .i64 0, .int .i64 0] 46 (0, 0)) := heap_drew' (heap_alloc_at wd (.cells #[.int .i64 0, .int .i64 0] 46))
                    generalize (wd.alloc (.cells #[.int .i64 0, .int .i64 0] 46)).drew = xa at hIa xq ⊢
                    refine otN hIa (otOne ?_)
                    (apply StI_eff rfl; go_wp2_with (first | (go_at_call 8; refine (tspan_any _ _ _).mono ?_; rintro e x1 ⟨rfl, hy1⟩)))
                    have hI1 : Below wd.heap.size wd x1 := below_mid hIa (Nat.le_refl _) hy1
                    replace xq := heap_below hy1 xq
                    refine otN hI1 (otOne ?_)
                    (apply StI_eff rfl; go_wp2_with (first | (go_at_call 9; refine (hLw _ hI1).mono ?_; rintro e x2 ⟨rfl, hy2⟩)))
                    have hI2 : Below wd.heap.size wd x2 := below_mid hI1 (Nat.le_refl _) hy2
                    replace xq := heap_below hy2 xq
                    refine otN hI2 (otOne ?_)
                    (apply StI_plain (w0 := x2) hI2 rfl rfl rfl rfl; (focus (intro W hW K hK; skip; go_step; exact hK)); (focus rfl)); (apply StI_plain (w0 := x2) hI2 rfl rfl rfl rfl; (focus (intro W hW K hK; skip; go_step; exact hK)); (focus rfl)); (apply StI_plain (w0 := x2) hI2 rfl rfl rfl rfl; (focus (intro W hW K hK; skip; go_step; exact hK)); (focus rfl))
                    have xqc := cells_of xq
                    have xqf := frozen_of xq
                    have xql := lt_of_heap xq
                    have Hxq := Lib.hid xq; clear xq
                    (apply StI_eff rfl; go_wp2_with (first | fail))
                    have hIz := below_set2 (u := .int .i64 T0) (v := .int .i64 T1) hI2 hqq
                    refine otN hIz (otFin ?_)
                    (apply StI_plain (w0 := ((x2.setCell ⟨wd.heap.size, 0, none⟩ (.int .i64 T0)).setCell ⟨wd.heap.size, 1, none⟩ (.int .i64 T1))) hIz rfl rfl rfl rfl; (focus (intro W hW K hK; skip; go_step; exact hK)); (focus rfl))
                    refine StI_nil ?_
                    go_wp2_with fail
                    go_meet
                    exact ⟨_, rfl, rfl, hqq, two_setS Hxq.out, hIz⟩
                case rest =>
                  obtain ⟨p26, rfl, rfl, hp26, z26, hb26⟩ := hcut
                  have hME := HhMA.out.step hb26
                  have hbE := bl_step HhbA.out hb26
                  obtain ⟨wE, hwE⟩ : ∃ x, wc = x := ⟨_, rfl⟩
                  rw [hwE] at hME hbE z26 ⊢
                  clear hLw hmc hml HhMA HhbA hb26 hwE
                  have zc := cells_of z26
                  have zl := lt_of_heap z26
                  have HhME := Lib.hid hME; clear hME; have HhbE := Lib.hid hbE; clear hbE; have Hz26 := Lib.hid z26; clear z26
                  go_wp2_with fail
                  go_loopw [28, 232] (fun tv i wr => TopI T0 T1 wE tv i ws.length wr) (fun _ i _ => ws.length - (intOf i).toNat)
                  case atStart => exact ⟨0, T1, Nat.zero_le _, rfl, rfl, t01, Int.le_refl _, Below.refl _ _⟩
                  case round =>
                    obtain ⟨u, top, hu, rfl, rfl, top0, top1, hb⟩ := hrel
                    by_cases hul : u < ws.length
                    · as_aux_lemma =>
                      clear zc zl
                      have hbu := bl_step HhbE.out hb
                      obtain ⟨bW, oW, rfl, hbW, heW⟩ := (HhSw2.out.below (ek_span _) hbu).2 u hul
                      have hlw := Hhwok.out.low ws[u] (List.getElem_mem hul) tm
                      obtain ⟨W1, hW1⟩ : ∃ x, ws[u] = x := ⟨_, rfl⟩
                      rw [hW1] at heW hlw
                      obtain ⟨u1, u2⟩ := W1
                      obtain ⟨eW0, eW1⟩ := heW
                      simp only at eW0 eW1 hlw
                      rw [HhT0.out] at hlw
                      have hbWw : bW < wr.heap.size := World.block_lt_of_cell? wr _ eW0
                      have HhW1 := Lib.hid hW1; clear hW1; have Hhb := Lib.hid hb; clear hb; have Hhbu := Lib.hid hbu; clear hbu
                      go_upto_region 34 with fail
                      have z31 : (wr.alloc (.cells #[.int .i64 u1, .int .i64 u2] 46)).heap[wr.heap.size]? = some (.cells #[.int .i64 u1, .int .i64 u2] 46 (0, 0)) := heap_alloc_at _ _
                      have hbz : Below wE.heap.size wE (wr.alloc (.cells #[.int .i64 u1, .int .i64 u2] 46)) := bl_alloc Hhb.out _
                      generalize (wr.alloc (.cells #[.int .i64 u1, .int .i64 u2] 46)) = wz at z31 hbz ⊢
                      have z31c := cells_of z31
                      have z31l := lt_of_heap z31
                      have hI : Below wz.heap.size wz wz.drew := (Below.refl _ _).drew
                      clear eW0 eW1 hbWw
                      have Hz31 := Lib.hid z31; clear z31; have Hhbz := Lib.hid hbz; clear hbz
                      have hwi : ∀ W, ∃ bI : Bool, (bI = true → u1 ≤ tm ∧ tm ≤ u2) ∧ Calls Try.prog 12 #[.agg #[.int .i64 tm, .int .i64 tm], .agg #[.int .i64 u1, .int .i64 u2]] W fun e w' => e = .returned (.bool bI) ∧ Below W.heap.size W w' := fun W => ⟨_, by simp, within_any tm tm u1 u2 W⟩
                      refine wp_region_ord (fun W => Below wz.heap.size wz W) [([0, 1, 3], 2)] [] (some 4) (by kernel_rfl) (by kernel_rfl) hI ?_
                      refine OrdI_cons ?_
                      (apply StI_plain (w0 := wz.drew) hI rfl rfl rfl rfl; (focus (intro W hW K hK; obtain ⟨_, _⟩ := bk wr.heap.size hW z31l; go_step; exact hK)); (focus rfl)); (apply StI_plain (w0 := wz.drew) hI rfl rfl rfl rfl; (focus (intro W hW K hK; obtain ⟨_, _⟩ := bk wr.heap.size hW z31l; go_step; exact hK)); (focus rfl)); (apply StI_plain (w0 := wz.drew) hI rfl rfl rfl rfl; (focus (intro W hW K hK; obtain ⟨_, _⟩ := bk wr.heap.size hW z31l; go_step; exact hK)); (focus rfl))
                      (apply StI_eff rfl; go_wp2_with (first | (go_at_call 8; refine (tspan_any _ _ _).mono ?_; rintro e x1 ⟨rfl, hy1⟩)))
                      have hI1 : Below wz.heap.size wz x1 := below_mid hI (Nat.le_refl _) hy1
                      obtain ⟨bI, hbI, hcI⟩ := hwi x1
                      refine onNormal_mk hI1 (OrdI_snk ?_)
                      (apply StI_eff rfl; go_wp2_with (first | (go_at_call 12; refine hcI.mono ?_; rintro e x2 ⟨rfl, hy2⟩)))
                      have hI2 : Below wz.heap.size wz x2 := below_mid hI1 (Nat.le_refl _) hy2
                      have hb2 := bl_step Hhbz.out hI2
                      refine onNormal_last ?_
                      clear hI hI1 hI2 hy1 hy2 hcI hwi z31c z31l
                      cases bI
                      · have Hhb2 := Lib.hid hb2; clear hb2
                        go_wp2_with fail
                        go_roundw
                        case rel => exact ⟨u + 1, top, by omega, by go_num, rfl, top0, top1, Hhb2.out⟩
                        case measure => simp [intOf]; omega
                      · obtain ⟨hu1, hu2⟩ := hbI rfl
                        have hl := hlw hu1 hu2
                        have Hhb2 := Lib.hid hb2; clear hb2
                        go_wp2_with fail
                        go_roundw
                        case rel => exact ⟨u + 1, min top lev, by omega, by go_num, rfl, by omega, by omega, Hhb2.out⟩
                        case measure => simp [intOf]; omega
                    · have hMF := HhME.out.step hb
                      have hbF := bl_step HhbE.out hb
                      have z26 := heap_below hb Hz26.out
                      obtain ⟨wF, hwF⟩ : ∃ x, wr = x := ⟨_, rfl⟩
                      rw [hwF] at hMF hbF z26 ⊢
                      clear zc zl HhME HhbE Hz26 hb hwF
                      have zc := cells_of z26
                      have zl := lt_of_heap z26
                      have hqc := cells_of hMF.tb.hq
                      have hql := lt_of_heap hMF.tb.hq
                      have hI : Below wF.heap.size wF wF.drew := (Below.refl _ _).drew
                      have HhMF := Lib.hid hMF; clear hMF; have HhbF := Lib.hid hbF; clear hbF; have Hz26 := Lib.hid z26; clear z26
                      go_upto_region 39 with fail
                      refine wp_region_ord (fun W => Below wF.heap.size wF W) [([0, 1, 2, 3, 4, 5], 6), ([], 7)] [8, 9, 10, 11, 12, 13, 14] none (by kernel_rfl) (by kernel_rfl) hI ?_
                      refine OrdI_cons ?_
                      (apply StI_plain (w0 := wF.drew) hI rfl rfl rfl rfl; (focus (intro W hW K hK; obtain ⟨_, _⟩ := bk p4 hW hql; obtain ⟨_, _⟩ := bk p26 hW zl; go_step; exact hK)); (focus rfl)); (apply StI_plain (w0 := wF.drew) hI rfl rfl rfl rfl; (focus (intro W hW K hK; obtain ⟨_, _⟩ := bk p4 hW hql; obtain ⟨_, _⟩ := bk p26 hW zl; go_step; exact hK)); (focus rfl)); (apply StI_plain (w0 := wF.drew) hI rfl rfl rfl rfl; (focus (intro W hW K hK; obtain ⟨_, _⟩ := bk p4 hW hql; obtain ⟨_, _⟩ := bk p26 hW zl; go_step; exact hK)); (focus rfl)); (apply StI_plain (w0 := wF.drew) hI rfl rfl rfl rfl; (focus (intro W hW K hK; obtain ⟨_, _⟩ := bk p4 hW hql; obtain ⟨_, _⟩ := bk p26 hW zl; go_step; exact hK)); (focus rfl)); (apply StI_plain (w0 := wF.drew) hI rfl rfl rfl rfl; (focus (intro W hW K hK; obtain ⟨_, _⟩ := bk p4 hW hql; obtain ⟨_, _⟩ := bk p26 hW zl; go_step; exact hK)); (focus rfl)); (apply StI_plain (w0 := wF.drew) hI rfl rfl rfl rfl; (focus (intro W hW K hK; obtain ⟨_, _⟩ := bk p4 hW hql; obtain ⟨_, _⟩ := bk p26 hW zl; go_step; exact hK)); (focus rfl))
                      (apply StI_eff rfl; go_wp2_with (first | (go_at_call 8; refine (tspan_any _ _ _).mono ?_; rintro e x1 ⟨rfl, hy1⟩)))
                      have hI1 : Below wF.heap.size wF x1 := below_mid hI (Nat.le_refl _) hy1
                      have hM1 := HhMF.out.step hI1
                      refine onNormal_mk hI1 (OrdI_cons ?_)
                      (apply StI_eff rfl; go_wp2_with (first | (go_at_call 10; refine (HhFT.out _ _ hM1.tb.ht hM1.le hM1.sea T0 T0 (Int.le_refl _) (by omega) (by omega)).mono ?_; rintro e x2 ⟨loA, hiA, aA, aA', cA, cA', rfl, _, hA2, hA3, _, hy2⟩)))
                      have hI2 : Below wF.heap.size wF x2 := below_mid hI1 (Nat.le_refl _) hy2
                      refine onNormal_mk hI2 (OrdI_fin ?_)
                      (apply StI_plain (w0 := x2) hI2 rfl rfl rfl rfl; (focus (intro W hW K hK; skip; go_step; exact hK)); (focus rfl)); (apply StI_plain (w0 := x2) hI2 rfl rfl rfl rfl; (focus (intro W hW K hK; skip; go_step; exact hK)); (focus rfl)); (apply StI_plain (w0 := x2) hI2 rfl rfl rfl rfl; (focus (intro W hW K hK; skip; go_step; exact hK)); (focus rfl)); (apply StI_plain (w0 := x2) hI2 rfl rfl rfl rfl; (focus (intro W hW K hK; skip; go_step; exact hK)); (focus rfl)); (apply StI_plain (w0 := x2) hI2 rfl rfl rfl rfl; (focus (intro W hW K hK; skip; go_step; exact hK)); (focus rfl)); (apply StI_plain (w0 := x2) hI2 rfl rfl rfl rfl; (focus (intro W hW K hK; skip; go_step; exact hK)); (focus rfl)); (apply StI_plain (w0 := x2) hI2 rfl rfl rfl rfl; (focus (intro W hW K hK; skip; go_step; exact hK)); (focus rfl))
                      refine StI_nil ?_
                      have hMG := HhMF.out.step hI2
                      have hbG := bl_step HhbF.out hI2
                      clear hM1 hI hI1 hI2 hy1 hy2 zc zl hqc hql HhMF HhbF Hz26
                      have hqc := cells_of hMG.tb.hq
                      have hql := lt_of_heap hMG.tb.hq
                      have hI : Below x2.heap.size x2 x2.drew := (Below.refl _ _).drew
                      have HhMG := Lib.hid hMG; clear hMG; have HhbG := Lib.hid hbG; clear hbG; have HhA2 := Lib.hid hA2; clear hA2; have HhA3 := Lib.hid hA3; clear hA3
                      go_upto_region 40 with fail
                      refine wp_region_ord (fun W => Below x2.heap.size x2 W) [([0, 1, 2, 3], 4), ([], 5)] [6, 7, 8, 9, 10, 11, 12] none (by kernel_rfl) (by kernel_rfl) hI ?_
                      refine OrdI_cons ?_
                      (apply StI_plain (w0 := x2.drew) hI rfl rfl rfl rfl; (focus (intro W hW K hK; obtain ⟨_, _⟩ := bk p4 hW hql; go_step; exact hK)); (focus rfl)); (apply StI_plain (w0 := x2.drew) hI rfl rfl rfl rfl; (focus (intro W hW K hK; obtain ⟨_, _⟩ := bk p4 hW hql; go_step; exact hK)); (focus rfl)); (apply StI_plain (w0 := x2.drew) hI rfl rfl rfl rfl; (focus (intro W hW K hK; obtain ⟨_, _⟩ := bk p4 hW hql; go_step; exact hK)); (focus rfl)); (apply StI_plain (w0 := x2.drew) hI rfl rfl rfl rfl; (focus (intro W hW K hK; obtain ⟨_, _⟩ := bk p4 hW hql; go_step; exact hK)); (focus rfl))
                      (apply StI_eff rfl; go_wp2_with (first | (go_at_call 8; refine (tspan_any _ _ _).mono ?_; rintro e x3 ⟨rfl, hy3⟩)))
                      have hI1 : Below x2.heap.size x2 x3 := below_mid hI (Nat.le_refl _) hy3
                      have hM1 := HhMG.out.step hI1
                      refine onNormal_mk hI1 (OrdI_cons ?_)
                      (apply StI_eff rfl; go_wp2_with (first | (go_at_call 10; refine (HhFT.out _ _ hM1.tb.ht hM1.le hM1.sea top top (Int.le_refl _) (by omega) (by omega)).mono ?_; rintro e x4 ⟨loB, hiB, aB, aB', cB, cB', rfl, _, hB2, hB3, _, hy4⟩)))
                      have hI2 : Below x2.heap.size x2 x4 := below_mid hI1 (Nat.le_refl _) hy4
                      refine onNormal_mk hI2 (OrdI_fin ?_)
                      (apply StI_plain (w0 := x4) hI2 rfl rfl rfl rfl; (focus (intro W hW K hK; skip; go_step; exact hK)); (focus rfl)); (apply StI_plain (w0 := x4) hI2 rfl rfl rfl rfl; (focus (intro W hW K hK; skip; go_step; exact hK)); (focus rfl)); (apply StI_plain (w0 := x4) hI2 rfl rfl rfl rfl; (focus (intro W hW K hK; skip; go_step; exact hK)); (focus rfl)); (apply StI_plain (w0 := x4) hI2 rfl rfl rfl rfl; (focus (intro W hW K hK; skip; go_step; exact hK)); (focus rfl)); (apply StI_plain (w0 := x4) hI2 rfl rfl rfl rfl; (focus (intro W hW K hK; skip; go_step; exact hK)); (focus rfl)); (apply StI_plain (w0 := x4) hI2 rfl rfl rfl rfl; (focus (intro W hW K hK; skip; go_step; exact hK)); (focus rfl)); (apply StI_plain (w0 := x4) hI2 rfl rfl rfl rfl; (focus (intro W hW K hK; skip; go_step; exact hK)); (focus rfl))
                      refine StI_nil ?_
                      have hbH := bl_step HhbG.out hI2
                      have hA4 := HhA3.out.below (ek_bool _) hI2
                      have hsx : x2.heap.size ≤ x4.heap.size := hI2.size
                      clear hM1 hI hI1 hI2 hy3 hy4 hqc hql HhMG HhbG HhA3
                      have hS1 := HhS1.out.below (ek_bool _) hbH
                      have hS2 := HhS2.out.below (ek_bool _) hbH
                      have hL3 := HhL2.out.below (ek_bool _) hbH
                      have hsy : w10.heap.size ≤ x4.heap.size := hbH.size
                      have hss := fun (c : Nat) (hc : c < N) => shore_sills (s := s) Hhs.out (sea := sea.map Int.toNat) (fun d hd => by
                        obtain ⟨z, hz, rfl⟩ := List.mem_map.1 hd
                        have := Hhsb.out z hz
                        rw [HhN.out]; omega) HhK1.out HhK2.out HhA2.out (by rw [HhN.out]; exact hc)
                      have hst := fun (c : Nat) (hc : c < N) => shore_sills (s := s) Hhs.out (sea := sea.map Int.toNat) (fun d hd => by
                        obtain ⟨z, hz, rfl⟩ := List.mem_map.1 hd
                        have := Hhsb.out z hz
                        rw [HhN.out]; omega) HhK1.out HhK2.out hB2 (by rw [HhN.out]; exact hc)
                      have hsL := fun (c : Nat) (hc : c < N) => shore_sills (s := s) Hhs.out (sea := sea.map Int.toNat) (fun d hd => by
                        obtain ⟨z, hz, rfl⟩ := List.mem_map.1 hd
                        have := Hhsb.out z hz
                        rw [HhN.out]; omega) HhL1.out HhK2.out hB2 (by rw [HhN.out]; exact hc)
                      have lnS : hiK.length = N := HhK2.out.len.trans HhN.out
                      have lnM : loK.length = N := HhK1.out.len.trans HhN.out
                      have lnL : loL.length = N := HhL1.out.len.trans HhN.out
                      have lnA : hiA.length = N := HhA2.out.len.trans HhN.out
                      have lnB : hiB.length = N := hB2.len.trans HhN.out
                      have HhbH := Lib.hid hbH; clear hbH; have HhA4 := Lib.hid hA4; clear hA4; have HhB3 := Lib.hid hB3; clear hB3; have HhS1 := Lib.hid hS1; clear hS1; have HhS2 := Lib.hid hS2; clear hS2; have HhL3 := Lib.hid hL3; clear hL3; have Hhss := Lib.hid hss; clear hss; have Hhst := Lib.hid hst; clear hst; have HhsL := Lib.hid hsL; clear hsL; have HhB2 := Lib.hid hB2; clear hB2
                      go_wp2_with fail
                      go_loopw [297] (fun i wr => LoopB N x4 i wr) (fun i _ => N - (intOf i).toNat)
                      case atStart => exact ⟨0, Nat.zero_le _, rfl, Below.refl _ _⟩
                      case round =>
                        obtain ⟨c, hc, rfl, hb⟩ := hrel
                        by_cases hcl : c < N
                        · as_aux_lemma =>
                          obtain ⟨bS, oS, rfl, hbS, eS⟩ := bool_at (HhS1.out.below (ek_bool _) (hb.mono hsy)) lnS hcl
                          obtain ⟨bM, oM, rfl, hbM, eM⟩ := bool_at (HhS2.out.below (ek_bool _) (hb.mono hsy)) lnM hcl
                          obtain ⟨bL, oL, rfl, hbL, eL⟩ := bool_at (HhL3.out.below (ek_bool _) (hb.mono hsy)) lnL hcl
                          obtain ⟨bA, oA, rfl, hbA, eA⟩ := bool_at (HhA4.out.below (ek_bool _) (hb.mono hsx)) lnA hcl
                          obtain ⟨bB, oB, rfl, hbB', eB⟩ := bool_at (HhB3.out.below (ek_bool _) hb) lnB hcl
                          obtain ⟨i1, i2⟩ := Hhss.out c hcl
                          obtain ⟨i3, i4⟩ := Hhst.out c hcl
                          obtain ⟨i5, _⟩ := HhsL.out c hcl
                          have hszc := hb.size
                          have l1 : bS < wr.heap.size := by omega
                          have l2 : bM < wr.heap.size := by omega
                          have l3 : bL < wr.heap.size := by omega
                          have l4 : bA < wr.heap.size := by omega
                          have l5 : bB < wr.heap.size := by omega
                          obtain ⟨ci, hci⟩ : ∃ z : Int, (c : Int) = z := ⟨_, rfl⟩
                          have ci0 : 0 ≤ ci := by omega
                          have ci1 : ci < (N : Int) := by omega
                          have hct : c = ci.toNat := by omega
                          have q1 : decide (hiK.getD c 0 < X) = true → decide (hiA.getD c 0 < T0) = true := by simp only [decide_eq_true_eq]; omega
                          have q2 : decide (hiB.getD c 0 < top) = true → decide (loK.getD c 0 < Y) = true := by simp only [decide_eq_true_eq]; omega
                          have q3 : decide (hiB.getD c 0 < top) = true → top ≤ lev → decide (loL.getD c 0 < lev) = true := by simp only [decide_eq_true_eq]; omega
                          obtain ⟨vS, hvS⟩ : ∃ z, decide (hiK.getD c 0 < X) = z := ⟨_, rfl⟩
                          obtain ⟨vA, hvA⟩ : ∃ z, decide (hiA.getD c 0 < T0) = z := ⟨_, rfl⟩
                          obtain ⟨vB, hvB⟩ : ∃ z, decide (hiB.getD c 0 < top) = z := ⟨_, rfl⟩
                          obtain ⟨vM, hvM⟩ : ∃ z, decide (loK.getD c 0 < Y) = z := ⟨_, rfl⟩
                          obtain ⟨vL, hvL⟩ : ∃ z, decide (loL.getD c 0 < lev) = z := ⟨_, rfl⟩
                          rw [hvS] at q1 eS
                          rw [hvA] at q1 eA
                          rw [hvB] at q2 q3 eB
                          rw [hvM] at q2 eM
                          rw [hvL] at q3 eL
                          clear hvS hvA hvB hvM hvL i1 i2 i3 i4 i5
                          rw [hct] at eS eA eB eM eL
                          have Hhb := Lib.hid hb; clear hb; have Hhct := Lib.hid hct; clear hct
                          rw [hci]
                          by_cases hle : top ≤ lev
                          all_goals cases vS
                          all_goals cases vB
                          all_goals first
                            | (obtain rfl : vA = true := q1 rfl)
                            | skip
                          all_goals first
                            | (obtain rfl : vM = true := q2 rfl)
                            | skip
                          all_goals first
                            | (have hvl := q3 rfl; replace hvl := hvl (by assumption); subst hvl)
                            | skip
                          all_goals
                            clear q1 q2 q3
                            go_wp2_with fail
                            rw [← hci]
                            go_roundw
                            case rel => exact ⟨c + 1, by omega, by go_num, Hhb.out⟩
                            case measure => simp [intOf]; omega
                        · have hbJ := bl_step HhbH.out hb
                          clear hb
                          have HhbJ := Lib.hid hbJ; clear hbJ
                          go_wp2_with fail
                          go_roundw
                          case rel => exact ⟨k + 1, by omega, by go_num, HhbJ.out⟩
                          case measure => simp [intOf]; omega
              · clear hgc hgl hbc hbl
                have hbw := bl_step HhMC.out.tb.below hb
                clear hb
                have Hhbw := Lib.hid hbw; clear hbw
                go_wp2_with fail
                refine (ebbWorks_ok _).mono ?_
                rintro e w99 ⟨rfl, hb99⟩
                go_wp2_with fail
                go_ret
                exact ⟨rfl, bl_step Hhbw.out hb99⟩
end Go.Proofs.Ytfbmjecikilghaa
