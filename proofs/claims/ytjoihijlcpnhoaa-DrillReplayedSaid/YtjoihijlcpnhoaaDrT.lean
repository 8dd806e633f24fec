/- drill: takes. -/
import Derived.Test.YtjoihijlcpnhoaaDrS
namespace Go.Proofs.Ytjoihijlcpnhoaa
open Go.RowKit
open Go.ChangeMaps (setBlock)

/-- The run behind takes. -/
def takesRes (T : Town) (r : RunS) (x : Party) (k : Int) : RunS := if takesIs T r x k then takesUse r x k else r

/-- While the uses are written: the run's block, the box of the use, and the number as it was. -/
structure TakS (_rb _q8 : Nat) (kd k : Int) (m : Nat) (uu : Int) (w3 W : World) : Prop where
  kp : Keeps [m] w3 W
  lk : (Instr.lookup 159 (.map (some m)) (.agg #[.int .i64 kd, .int .i64 k]) false).run Try.prog W = .ok (.int .i64 uu) W

set_option maxHeartbeats 16000000 in
set_option maxRecDepth 100000 in
theorem takes_any (T : Town) (a1 a2 a3 a4 : Option Addr) (c1 c2 c3 c4 : Nat) (p : Plan) (p1 p2 : Option Addr) (d1 d2 : Nat) (B : Nat) (A : RA) (J : World → (Nat → Prop) → List Entry → Prop) (hN : NoteC B A.k A.lb J) (hG : TownG T) (w : World) (r : RunS) (s : Int) (m : Nat) (P : Nat → Prop) (i : Nat) (k : Int)
    (h : RunJ T a1 a2 a3 a4 c1 c2 c3 c4 p p1 p2 d1 d2 B A J w r s (some m) P) (hR : RunG T r) (hi : i < r.parties.length) (hmB : B ≤ m) (hk0 : 0 ≤ k) (hk1 : k < (T.ways.length : Int)) :
    Calls Try.prog 106 #[.pointer (some ⟨A.rb, 0, none⟩), .pointer (some ⟨A.pb i, 0, none⟩), .int .i64 k] w
      fun e w' => e = .returned (.bool (takesIs T r (r.pt i) k)) ∧ RunJ T a1 a2 a3 a4 c1 c2 c3 c4 p p1 p2 d1 d2 B A J w' (takesRes T r (r.pt i) k) s (some m) P ∧ Fr A r.parties.length r.waits.length (some m) P P w w' := by
  obtain ⟨b, off, rfl, hb, he⟩ := h.run.town.ways.at hk0 hk1 Way.z
  have hle0 := h.run.le
  have hbw0 : b < w.heap.size := by omega
  have hl := h.run.town.ways.1
  obtain ⟨wy, hwy⟩ : ∃ x, x = T.wy k := ⟨_, rfl⟩
  have he' : WayE w b (off + k.toNat * 8) wy := by rw [hwy]; exact he
  clear he
  obtain ⟨e0, e1, e2, e3, e4, e5, e6, e7⟩ := he'
  obtain ⟨ha, hc, hpb, _⟩ := h.run.pt i hi
  have hppl := hR.people hi
  have hM := takesM_le hG (r.pt i) hk0 hk1
  obtain ⟨x, hx⟩ : ∃ y, r.pt i = y := ⟨_, rfl⟩
  rw [hx] at hpb hppl hM ⊢
  have hac := cells_of h.run.blk
  have hal := lt_of_heap h.run.blk
  simp only [runCells] at hac
  have hpc := cells_of hpb
  simp only [partyCells] at hpc
  have hpl := lt_of_heap hpb
  have hnw := hG.nw
  have hU := hR.used
  obtain ⟨uu, huu⟩ : ∃ u, kget r.used (takesK x k) = u := ⟨_, rfl⟩
  have hub := kgetU hU (takesK x k)
  rw [huu] at hub
  obtain ⟨M, hMq⟩ : ∃ u, takesM T x k = u := ⟨_, rfl⟩
  rw [hMq] at hM
  have hM0 : 0 ≤ M := by
    have := hG.way _ (getD_mem (z := Way.z) hk0 hk1)
    rw [← hMq]
    unfold takesM Town.wy
    split <;> omega
  obtain ⟨wb, hwb⟩ : ∃ W, w.alloc (.cells (wayBox wy) 77) = W := ⟨_, rfl⟩
  have hwb0 := hwb
  unfold wayBox at hwb
  have hbx : wb.heap[w.heap.size]? = some (.cells (wayBox wy) 77 (0, 0)) := by rw [← hwb0]; exact heap_alloc_at _ _
  have hbwb : Below w.heap.size w wb := by rw [← hwb0]; exact (by repeat (first | exact Below.refl _ _ | (refine bl_setCell ?_ _ _ ?_; rotate_left; focus (first | omega | (simp; done) | (simp; omega))) | refine bl_alloc ?_ _ | refine bl_step ?_ (by assumption) | refine bl_drew ?_ | refine bl_drewN ?_ _))
  have hbzw : wb.heap.size = w.heap.size + 1 := by rw [← hwb0]; simp
  clear hwb0
  cases hrd : x.ride
  · have huK : takesK x k = ⟨0, k⟩ := by unfold takesK; rw [hrd]; rfl
    have huN : takesN x = x.people := by unfold takesN; rw [hrd]; rfl
    obtain rfl : M = wy.room := by rw [← hMq, hwy]; unfold takesM; rw [hrd]; rfl
    have hval : takesIs T r x k = decide (uu + x.people ≤ wy.room) := by unfold takesIs; rw [huu, huN, hMq]
    have hgu : goodU ⟨0, k⟩ := ⟨by unfold I64; simp, by unfold I64; simp only; omega⟩
    rw [huK] at huu
    rw [hrd] at hpc
    have Hh := Lib.hid h; clear h; have Hhwy := Lib.hid hwy; clear hwy; have Hhpb := Lib.hid hpb; clear hpb; have Hhx := Lib.hid hx; clear hx; have HhU := Lib.hid hU; clear hU; have Hhuu := Lib.hid huu; clear huu; have HhMq := Lib.hid hMq; clear hMq; have HhuK := Lib.hid huK; clear huK; have HhuN := Lib.hid huN; clear huN; have Hhval := Lib.hid hval; clear hval; have Hhgu := Lib.hid hgu; clear hgu; have HhN := Lib.hid hN; clear hN; have HhR := Lib.hid hR; clear hR; have Hhbx := Lib.hid hbx; clear hbx; have Hhrd := Lib.hid hrd; clear hrd; have Hhwb := Lib.hid hwb; clear hwb; have Hhbzw := Lib.hid hbzw; clear hbzw; have Hhbwb := Lib.hid hbwb; clear hbwb
    go_enter Try.func106, Try.ntmps106
    go_upto_region 2 with fail
    rw [Hhwb.out]
    have hbxc := cells_of Hhbx.out
    have hbxl := lt_of_heap Hhbx.out
    simp only [wayBox] at hbxc
    have hplb : A.pb i < wb.heap.size := by have := Hhbzw.out; omega
    have hpc2 : ∀ o, wb.cell? ⟨A.pb i, o, none⟩ = w.cell? ⟨A.pb i, o, none⟩ := (bk (A.pb i) Hhbwb.out hpl).1
    have hI2 : Below wb.heap.size wb wb.drew := (Below.refl _ _).drew
    clear hac e0 e1 e2 e3 e4 e5 e6 e7
    refine wp_region_ord (fun W => Below wb.heap.size wb W) [([0, 1, 2, 3, 4, 5, 6, 7], 8), ([], 9)] [10, 11] none (by kernel_rfl) (by kernel_rfl) hI2 ?_
    refine OrdI_cons ?_
    (apply StI_plain (w0 := wb.drew) hI2 rfl rfl rfl rfl; (focus (intro W hW K hK; obtain ⟨_, _, _⟩ := bk w.heap.size hW hbxl; obtain ⟨_, _, _⟩ := bk (A.pb i) hW hplb; go_step; exact hK)); (focus rfl)); (apply StI_plain (w0 := wb.drew) hI2 rfl rfl rfl rfl; (focus (intro W hW K hK; obtain ⟨_, _, _⟩ := bk w.heap.size hW hbxl; obtain ⟨_, _, _⟩ := bk (A.pb i) hW hplb; go_step; exact hK)); (focus rfl)); (apply StI_plain (w0 := wb.drew) hI2 rfl rfl rfl rfl; (focus (intro W hW K hK; obtain ⟨_, _, _⟩ := bk w.heap.size hW hbxl; obtain ⟨_, _, _⟩ := bk (A.pb i) hW hplb; go_step; exact hK)); (focus rfl)); (apply StI_plain (w0 := wb.drew) hI2 rfl rfl rfl rfl; (focus (intro W hW K hK; obtain ⟨_, _, _⟩ := bk w.heap.size hW hbxl; obtain ⟨_, _, _⟩ := bk (A.pb i) hW hplb; go_step; exact hK)); (focus rfl)); (apply StI_plain (w0 := wb.drew) hI2 rfl rfl rfl rfl; (focus (intro W hW K hK; obtain ⟨_, _, _⟩ := bk w.heap.size hW hbxl; obtain ⟨_, _, _⟩ := bk (A.pb i) hW hplb; go_step; exact hK)); (focus rfl)); (apply StI_plain (w0 := wb.drew) hI2 rfl rfl rfl rfl; (focus (intro W hW K hK; obtain ⟨_, _, _⟩ := bk w.heap.size hW hbxl; obtain ⟨_, _, _⟩ := bk (A.pb i) hW hplb; go_step; exact hK)); (focus rfl)); (apply StI_plain (w0 := wb.drew) hI2 rfl rfl rfl rfl; (focus (intro W hW K hK; obtain ⟨_, _, _⟩ := bk w.heap.size hW hbxl; obtain ⟨_, _, _⟩ := bk (A.pb i) hW hplb; go_step; exact hK)); (focus rfl)); (apply StI_plain (w0 := wb.drew) hI2 rfl rfl rfl rfl; (focus (intro W hW K hK; obtain ⟨_, _, _⟩ := bk w.heap.size hW hbxl; obtain ⟨_, _, _⟩ := bk (A.pb i) hW hplb; go_step; exact hK)); (focus rfl))
    (apply StI_eff rfl; go_wp2_with fail)
    have hqq : wb.heap.size ≤ wb.heap.size := Nat.le_refl _
    have hIa : Below wb.heap.size wb (wb.alloc (.cells #[.int .i64 0, .int .i64 0] 210)).drew := ((Below.refl _ _).alloc hqq _).drew
    have xq : (wb.alloc (.cells #[.int .i64 0, .int .i64 0] 210)).drew.heap[wb.heap.size]? = some (.cells #[.int .i64 0, .int .i64 0] 210 (0, 0)) := heap_drew' (heap_alloc_at wb (.cells #[.int .i64 0, .int .i64 0] 210))
    generalize (wb.alloc (.cells #[.int .i64 0, .int .i64 0] 210)).drew = xa at hIa xq ⊢
    refine onNormal_mk hIa (OrdI_cons ?_)
    have xqc := cells_of xq
    have xqf := frozen_of xq
    have xql := lt_of_heap xq
    have Hxq := Lib.hid xq; clear xq
    (apply StI_eff rfl; go_wp2_with fail)
    have hIz := below_two hIa hqq (.int .i64 0) (.int .i64 k)
    refine onNormal_mk hIz (OrdI_fin ?_)
    (apply StI_plain (w0 := ((xa.setCell ⟨wb.heap.size, 0, none⟩ (.int .i64 0)).setCell ⟨wb.heap.size, 1, none⟩ (.int .i64 k))) hIz rfl rfl rfl rfl; (focus (intro W hW K hK; skip; go_step; exact hK)); (focus rfl)); (apply StI_plain (w0 := ((xa.setCell ⟨wb.heap.size, 0, none⟩ (.int .i64 0)).setCell ⟨wb.heap.size, 1, none⟩ (.int .i64 k))) hIz rfl rfl rfl rfl; (focus (intro W hW K hK; skip; go_step; exact hK)); (focus rfl))
    refine StI_nil ?_
    have xq3 := two_at Hxq.out (.int .i64 0) (.int .i64 k)
    clear xqc xqf xql Hxq
    obtain ⟨w3, hw3⟩ : ∃ W, ((xa.setCell ⟨wb.heap.size, 0, none⟩ (.int .i64 0)).setCell ⟨wb.heap.size, 1, none⟩ (.int .i64 k)) = W := ⟨_, rfl⟩
    obtain ⟨q8, hq8⟩ : ∃ q, wb.heap.size = q := ⟨_, rfl⟩
    have hbw3 : Below wb.heap.size wb w3 := by rw [← hw3]; exact hIz
    rw [hw3] at xq3 ⊢
    rw [hq8] at xq3 ⊢
    clear hw3 hIz hIa hI2
    have hpc3 : ∀ o, w3.cell? ⟨A.pb i, o, none⟩ = wb.cell? ⟨A.pb i, o, none⟩ := (bk (A.pb i) hbw3 hplb).1
    have hpl3 : A.pb i < w3.heap.size := (bk (A.pb i) hbw3 hplb).2.2
    have hbw : Below w.heap.size w w3 := bl_step Hhbwb.out hbw3
    have xq := xq3
    clear xq3
    have Hhq8 := Lib.hid hq8; clear hq8; have Hhbw3 := Lib.hid hbw3; clear hbw3
    have hr5 := Hh.out.below HhN.out hbw
    have hlk : ∀ W, Below w3.heap.size w3 W → (Instr.lookup 159 (.map (some m)) (.agg #[.int .i64 0, .int .i64 k]) false).run Try.prog W = .ok (.int .i64 uu) W := by
      intro W hW
      have := (hr5.run.below hW).look HhU.out ⟨0, k⟩ Hhgu.out
      rw [Hhuu.out] at this
      exact this
    have hac5 := cells_of hr5.run.blk
    have hal5 := lt_of_heap hr5.run.blk
    simp only [runCells] at hac5
    have xqc := cells_of xq
    have xql := lt_of_heap xq
    have hI5 : Below w3.heap.size w3 w3.drew := (Below.refl _ _).drew
    have Hhr5 := Lib.hid hr5; clear hr5; have Hhlk := Lib.hid hlk; clear hlk; have Hxq := Lib.hid xq; clear xq; have Hhbw := Lib.hid hbw; clear hbw
    go_upto_region 5 with fail
    refine wp_region_ord (fun W => Below w3.heap.size w3 W) [] [0, 1, 2, 3, 4, 5, 6, 7, 8, 9] none (by kernel_rfl) (by kernel_rfl) hI5 ?_
    refine OrdI_fin ?_
    (apply StI_plain (w0 := w3.drew) hI5 rfl rfl rfl rfl; (focus (intro W hW K hK; obtain ⟨_, _, _⟩ := bk A.rb hW hal5; obtain ⟨_, _, _⟩ := bk q8 hW xql; have hl := Hhlk.out W hW; go_step; exact hK)); (focus rfl)); (apply StI_plain (w0 := w3.drew) hI5 rfl rfl rfl rfl; (focus (intro W hW K hK; obtain ⟨_, _, _⟩ := bk A.rb hW hal5; obtain ⟨_, _, _⟩ := bk q8 hW xql; have hl := Hhlk.out W hW; go_step; exact hK)); (focus rfl)); (apply StI_plain (w0 := w3.drew) hI5 rfl rfl rfl rfl; (focus (intro W hW K hK; obtain ⟨_, _, _⟩ := bk A.rb hW hal5; obtain ⟨_, _, _⟩ := bk q8 hW xql; have hl := Hhlk.out W hW; go_step; exact hK)); (focus rfl)); (apply StI_plain (w0 := w3.drew) hI5 rfl rfl rfl rfl; (focus (intro W hW K hK; obtain ⟨_, _, _⟩ := bk A.rb hW hal5; obtain ⟨_, _, _⟩ := bk q8 hW xql; have hl := Hhlk.out W hW; go_step; exact hK)); (focus rfl)); (apply StI_plain (w0 := w3.drew) hI5 rfl rfl rfl rfl; (focus (intro W hW K hK; obtain ⟨_, _, _⟩ := bk A.rb hW hal5; obtain ⟨_, _, _⟩ := bk q8 hW xql; have hl := Hhlk.out W hW; go_step; exact hK)); (focus rfl)); (apply StI_plain (w0 := w3.drew) hI5 rfl rfl rfl rfl; (focus (intro W hW K hK; obtain ⟨_, _, _⟩ := bk A.rb hW hal5; obtain ⟨_, _, _⟩ := bk q8 hW xql; have hl := Hhlk.out W hW; go_step; exact hK)); (focus rfl)); (apply StI_plain (w0 := w3.drew) hI5 rfl rfl rfl rfl; (focus (intro W hW K hK; obtain ⟨_, _, _⟩ := bk A.rb hW hal5; obtain ⟨_, _, _⟩ := bk q8 hW xql; have hl := Hhlk.out W hW; go_step; exact hK)); (focus rfl)); (apply StI_plain (w0 := w3.drew) hI5 rfl rfl rfl rfl; (focus (intro W hW K hK; obtain ⟨_, _, _⟩ := bk A.rb hW hal5; obtain ⟨_, _, _⟩ := bk q8 hW xql; have hl := Hhlk.out W hW; go_step; exact hK)); (focus rfl)); (apply StI_plain (w0 := w3.drew) hI5 rfl rfl rfl rfl; (focus (intro W hW K hK; obtain ⟨_, _, _⟩ := bk A.rb hW hal5; obtain ⟨_, _, _⟩ := bk q8 hW xql; have hl := Hhlk.out W hW; go_step; exact hK)); (focus rfl)); (apply StI_plain (w0 := w3.drew) hI5 rfl rfl rfl rfl; (focus (intro W hW K hK; obtain ⟨_, _, _⟩ := bk A.rb hW hal5; obtain ⟨_, _, _⟩ := bk q8 hW xql; have hl := Hhlk.out W hW; go_step; exact hK)); (focus rfl))
    refine StI_nil ?_
    obtain ⟨cb, hcb⟩ : ∃ v, decide (wy.room < uu + x.people) = v := ⟨_, rfl⟩
    rw [hcb]
    cases cb
    · have hle : uu + x.people ≤ wy.room := by have := of_decide_eq_false hcb; omega
      have hres : takesIs T r x k = true := by rw [Hhval.out]; simpa using hle
      have hr6 := Hhr5.out.drew HhN.out
      have hkeys : GoodKeys goodU r.used := fun y hy => by have := HhU.out.key y hy; unfold goodU I64; omega
      have hml := MapE.lt hr6.run.used
      have hrm := map_ne hr6.run.blk hr6.run.used
      have hqm : q8 ≠ m := map_ne (heap_drew' Hxq.out) hr6.run.used
      have Hhle := Lib.hid hle; clear hle; have Hhres := Lib.hid hres; clear hres; have Hhcb := Lib.hid hcb; clear hcb
      go_upto_region 7 with fail
      have hr7 := hr6.drew HhN.out
      obtain ⟨st, o1, he1, hm1, hst⟩ := MapE.entry use_ok Try.underlying159 hr7.run.used hkeys HhU.out.nodup (z := (0 : Int)) zero_int ⟨0, k⟩ Hhgu.out
      obtain ⟨o2, hes, hm2⟩ := hst (uu + x.people)
      rw [← kgetU_mget, Hhuu.out] at he1 hm1
      obtain ⟨w6, hw6⟩ : ∃ W, setBlock w3.drew.drew m o1 = W := ⟨_, rfl⟩
      have hk6 : Keeps [m] w3.drew.drew w6 := by rw [← hw6]; exact keeps_setBlock _ _ _
      rw [hw6] at he1 hm1 hes hm2
      obtain ⟨w7, hw7⟩ : ∃ W, setBlock w6 m o2 = W := ⟨_, rfl⟩
      have hk7 : Keeps [m] w6 w7 := by rw [← hw7]; exact keeps_setBlock _ _ _
      rw [hw7] at hes hm2
      clear hst hw6 hw7
      have hI6 : TakS A.rb q8 0 k m uu w3 w3.drew.drew := ⟨(Keeps.refl _ _).drew.drew, by have := Hhlk.out w3.drew.drew ((Below.refl _ _).drew.drew); exact this⟩
      have hI7 : TakS A.rb q8 0 k m uu w3 w6 := by
        refine ⟨(Keeps.refl _ _).drew.drew.trans hk6, ?_⟩
        have hl2 := MapE.look use_ok Try.underlying159 hm1 (hkeys.mput Hhgu.out) (Apart.mput HhU.out.nodup) (zero_int w6) ⟨0, k⟩ Hhgu.out false
        rw [mget_mput, if_pos rfl] at hl2
        exact hl2
      have n1 : ¬ A.rb ∈ [m] := by simpa using hrm
      have n2 : ¬ q8 ∈ [m] := by simpa using hqm
      have Hhr6 := Lib.hid hr6; clear hr6; have Hhr7 := Lib.hid hr7; clear hr7; have Hhm1 := Lib.hid hm1; clear hm1; have Hhm2 := Lib.hid hm2; clear hm2; have Hhk6 := Lib.hid hk6; clear hk6; have Hhk7 := Lib.hid hk7; clear hk7; have Hhkeys := Lib.hid hkeys; clear hkeys
      refine wp_region_ord (TakS A.rb q8 0 k m uu w3) [([0, 1, 2, 3, 4, 5, 6, 7], 8)] [9] (some 10) (by kernel_rfl) (by kernel_rfl) hI6 ?_
      refine OrdI_cons ?_
      (apply StI_plain (w0 := _) hI6 rfl rfl rfl rfl; (focus (intro W hW K hK; have := hW.kp.cell A.rb hal5 n1; have := hW.kp.cell q8 xql n2; have hl := hW.lk; go_step; exact hK)); (focus rfl)); (apply StI_plain (w0 := _) hI6 rfl rfl rfl rfl; (focus (intro W hW K hK; have := hW.kp.cell A.rb hal5 n1; have := hW.kp.cell q8 xql n2; have hl := hW.lk; go_step; exact hK)); (focus rfl)); (apply StI_plain (w0 := _) hI6 rfl rfl rfl rfl; (focus (intro W hW K hK; have := hW.kp.cell A.rb hal5 n1; have := hW.kp.cell q8 xql n2; have hl := hW.lk; go_step; exact hK)); (focus rfl)); (apply StI_plain (w0 := _) hI6 rfl rfl rfl rfl; (focus (intro W hW K hK; have := hW.kp.cell A.rb hal5 n1; have := hW.kp.cell q8 xql n2; have hl := hW.lk; go_step; exact hK)); (focus rfl)); (apply StI_plain (w0 := _) hI6 rfl rfl rfl rfl; (focus (intro W hW K hK; have := hW.kp.cell A.rb hal5 n1; have := hW.kp.cell q8 xql n2; have hl := hW.lk; go_step; exact hK)); (focus rfl)); (apply StI_plain (w0 := _) hI6 rfl rfl rfl rfl; (focus (intro W hW K hK; have := hW.kp.cell A.rb hal5 n1; have := hW.kp.cell q8 xql n2; have hl := hW.lk; go_step; exact hK)); (focus rfl)); (apply StI_plain (w0 := _) hI6 rfl rfl rfl rfl; (focus (intro W hW K hK; have := hW.kp.cell A.rb hal5 n1; have := hW.kp.cell q8 xql n2; have hl := hW.lk; go_step; exact hK)); (focus rfl)); (apply StI_plain (w0 := _) hI6 rfl rfl rfl rfl; (focus (intro W hW K hK; have := hW.kp.cell A.rb hal5 n1; have := hW.kp.cell q8 xql n2; have hl := hW.lk; go_step; exact hK)); (focus rfl))
      (apply StI_eff rfl; refine wpList_mapEntry_run _ w6 rfl _ _ _ rfl _ _ _ rfl rfl he1 ?_; go_wp2_with fail)
      refine onNormal_mk hI7 (OrdI_snk ?_)
      (apply StI_plain (w0 := _) hI7 rfl rfl rfl rfl; (focus (intro W hW K hK; skip; go_step; exact hK)); (focus rfl))
      (apply StI_eff rfl; refine wpList_entryStore_run _ w7 rfl _ _ _ _ rfl _ _ _ rfl rfl rfl hes ?_; go_wp2_with fail)
      refine onNormal_last ?_
      go_wp2_with fail
      go_ret
      have hfin := Hhr7.out.setUsed HhN.out hmB (mput r.used ⟨0, k⟩ (uu + x.people)) Hhm2.out (Hhk6.out.trans Hhk7.out)
      have huse : takesUse r x k = { r with used := mput r.used ⟨0, k⟩ (uu + x.people) } := by unfold takesUse; rw [HhuK.out, HhuN.out, kaddU_mput, Hhuu.out]
      exact ⟨by rw [Hhres.out]; rfl, by unfold takesRes; rw [Hhres.out, if_pos rfl, huse]; exact hfin.1, (Fr.of_below Hhbw.out).trans ((Fr.of_below (Below.refl _ _).drew.drew).trans hfin.2)⟩
    · have hle : ¬ uu + x.people ≤ wy.room := by have := of_decide_eq_true hcb; omega
      have hres : takesIs T r x k = false := by rw [Hhval.out]; simpa using hle
      have Hhle := Lib.hid hle; clear hle; have Hhres := Lib.hid hres; clear hres; have Hhcb := Lib.hid hcb; clear hcb
      go_wp2_with fail
      go_ret
      exact ⟨by rw [Hhres.out]; rfl, by unfold takesRes; rw [Hhres.out, if_neg (by simp)]; exact Hhr5.out.drew HhN.out, (Fr.of_below Hhbw.out).trans (Fr.of_below (Below.refl _ _).drew)⟩
  · have huK : takesK x k = ⟨1, k⟩ := by unfold takesK; rw [hrd]; rfl
    have huN : takesN x = 1 := by unfold takesN; rw [hrd]; rfl
    obtain rfl : M = wy.cars := by rw [← hMq, hwy]; unfold takesM; rw [hrd]; rfl
    have hval : takesIs T r x k = decide (uu + 1 ≤ wy.cars) := by unfold takesIs; rw [huu, huN, hMq]
    have hgu : goodU ⟨1, k⟩ := ⟨by unfold I64; simp, by unfold I64; simp only; omega⟩
    rw [huK] at huu
    rw [hrd] at hpc
    have Hh := Lib.hid h; clear h; have Hhwy := Lib.hid hwy; clear hwy; have Hhpb := Lib.hid hpb; clear hpb; have Hhx := Lib.hid hx; clear hx; have HhU := Lib.hid hU; clear hU; have Hhuu := Lib.hid huu; clear huu; have HhMq := Lib.hid hMq; clear hMq; have HhuK := Lib.hid huK; clear huK; have HhuN := Lib.hid huN; clear huN; have Hhval := Lib.hid hval; clear hval; have Hhgu := Lib.hid hgu; clear hgu; have HhN := Lib.hid hN; clear hN; have HhR := Lib.hid hR; clear hR; have Hhbx := Lib.hid hbx; clear hbx; have Hhrd := Lib.hid hrd; clear hrd; have Hhwb := Lib.hid hwb; clear hwb; have Hhbzw := Lib.hid hbzw; clear hbzw; have Hhbwb := Lib.hid hbwb; clear hbwb
    go_enter Try.func106, Try.ntmps106
    go_upto_region 2 with fail
    rw [Hhwb.out]
    have hbxc := cells_of Hhbx.out
    have hbxl := lt_of_heap Hhbx.out
    simp only [wayBox] at hbxc
    have hplb : A.pb i < wb.heap.size := by have := Hhbzw.out; omega
    have hpc2 : ∀ o, wb.cell? ⟨A.pb i, o, none⟩ = w.cell? ⟨A.pb i, o, none⟩ := (bk (A.pb i) Hhbwb.out hpl).1
    have hI2 : Below wb.heap.size wb wb.drew := (Below.refl _ _).drew
    clear hac e0 e1 e2 e3 e4 e5 e6 e7
    refine wp_region_ord (fun W => Below wb.heap.size wb W) [([0, 1, 2, 3, 4, 5, 6, 7], 8), ([], 9)] [10, 11] none (by kernel_rfl) (by kernel_rfl) hI2 ?_
    refine OrdI_cons ?_
    (apply StI_plain (w0 := wb.drew) hI2 rfl rfl rfl rfl; (focus (intro W hW K hK; obtain ⟨_, _, _⟩ := bk w.heap.size hW hbxl; obtain ⟨_, _, _⟩ := bk (A.pb i) hW hplb; go_step; exact hK)); (focus rfl)); (apply StI_plain (w0 := wb.drew) hI2 rfl rfl rfl rfl; (focus (intro W hW K hK; obtain ⟨_, _, _⟩ := bk w.heap.size hW hbxl; obtain ⟨_, _, _⟩ := bk (A.pb i) hW hplb; go_step; exact hK)); (focus rfl)); (apply StI_plain (w0 := wb.drew) hI2 rfl rfl rfl rfl; (focus (intro W hW K hK; obtain ⟨_, _, _⟩ := bk w.heap.size hW hbxl; obtain ⟨_, _, _⟩ := bk (A.pb i) hW hplb; go_step; exact hK)); (focus rfl)); (apply StI_plain (w0 := wb.drew) hI2 rfl rfl rfl rfl; (focus (intro W hW K hK; obtain ⟨_, _, _⟩ := bk w.heap.size hW hbxl; obtain ⟨_, _, _⟩ := bk (A.pb i) hW hplb; go_step; exact hK)); (focus rfl)); (apply StI_plain (w0 := wb.drew) hI2 rfl rfl rfl rfl; (focus (intro W hW K hK; obtain ⟨_, _, _⟩ := bk w.heap.size hW hbxl; obtain ⟨_, _, _⟩ := bk (A.pb i) hW hplb; go_step; exact hK)); (focus rfl)); (apply StI_plain (w0 := wb.drew) hI2 rfl rfl rfl rfl; (focus (intro W hW K hK; obtain ⟨_, _, _⟩ := bk w.heap.size hW hbxl; obtain ⟨_, _, _⟩ := bk (A.pb i) hW hplb; go_step; exact hK)); (focus rfl)); (apply StI_plain (w0 := wb.drew) hI2 rfl rfl rfl rfl; (focus (intro W hW K hK; obtain ⟨_, _, _⟩ := bk w.heap.size hW hbxl; obtain ⟨_, _, _⟩ := bk (A.pb i) hW hplb; go_step; exact hK)); (focus rfl)); (apply StI_plain (w0 := wb.drew) hI2 rfl rfl rfl rfl; (focus (intro W hW K hK; obtain ⟨_, _, _⟩ := bk w.heap.size hW hbxl; obtain ⟨_, _, _⟩ := bk (A.pb i) hW hplb; go_step; exact hK)); (focus rfl))
    (apply StI_eff rfl; go_wp2_with fail)
    have hqq : wb.heap.size ≤ wb.heap.size := Nat.le_refl _
    have hIa : Below wb.heap.size wb (wb.alloc (.cells #[.int .i64 0, .int .i64 0] 210)).drew := ((Below.refl _ _).alloc hqq _).drew
    have xq : (wb.alloc (.cells #[.int .i64 0, .int .i64 0] 210)).drew.heap[wb.heap.size]? = some (.cells #[.int .i64 0, .int .i64 0] 210 (0, 0)) := heap_drew' (heap_alloc_at wb (.cells #[.int .i64 0, .int .i64 0] 210))
    generalize (wb.alloc (.cells #[.int .i64 0, .int .i64 0] 210)).drew = xa at hIa xq ⊢
    refine onNormal_mk hIa (OrdI_cons ?_)
    have xqc := cells_of xq
    have xqf := frozen_of xq
    have xql := lt_of_heap xq
    have Hxq := Lib.hid xq; clear xq
    (apply StI_eff rfl; go_wp2_with fail)
    have hIz := below_two hIa hqq (.int .i64 0) (.int .i64 k)
    refine onNormal_mk hIz (OrdI_fin ?_)
    (apply StI_plain (w0 := ((xa.setCell ⟨wb.heap.size, 0, none⟩ (.int .i64 0)).setCell ⟨wb.heap.size, 1, none⟩ (.int .i64 k))) hIz rfl rfl rfl rfl; (focus (intro W hW K hK; skip; go_step; exact hK)); (focus rfl)); (apply StI_plain (w0 := ((xa.setCell ⟨wb.heap.size, 0, none⟩ (.int .i64 0)).setCell ⟨wb.heap.size, 1, none⟩ (.int .i64 k))) hIz rfl rfl rfl rfl; (focus (intro W hW K hK; skip; go_step; exact hK)); (focus rfl))
    refine StI_nil ?_
    have xq3 := two_at Hxq.out (.int .i64 0) (.int .i64 k)
    clear xqc xqf xql Hxq
    obtain ⟨w3, hw3⟩ : ∃ W, ((xa.setCell ⟨wb.heap.size, 0, none⟩ (.int .i64 0)).setCell ⟨wb.heap.size, 1, none⟩ (.int .i64 k)) = W := ⟨_, rfl⟩
    obtain ⟨q8, hq8⟩ : ∃ q, wb.heap.size = q := ⟨_, rfl⟩
    have hbw3 : Below wb.heap.size wb w3 := by rw [← hw3]; exact hIz
    rw [hw3] at xq3 ⊢
    rw [hq8] at xq3 ⊢
    clear hw3 hIz hIa hI2
    have hpc3 : ∀ o, w3.cell? ⟨A.pb i, o, none⟩ = wb.cell? ⟨A.pb i, o, none⟩ := (bk (A.pb i) hbw3 hplb).1
    have hpl3 : A.pb i < w3.heap.size := (bk (A.pb i) hbw3 hplb).2.2
    have hbw : Below w.heap.size w w3 := bl_step Hhbwb.out hbw3
    have hbx3 := heap_below hbw3 Hhbx.out
    have hbx3c := cells_of hbx3
    have hbx3l := lt_of_heap hbx3
    simp only [wayBox] at hbx3c
    have xq3c := cells_of xq3
    have xq3f := frozen_of xq3
    have xq3l := lt_of_heap xq3
    have hq8' : wb.heap.size ≤ q8 := by omega
    have hI4 : Below wb.heap.size wb w3.drew := hbw3.drew
    clear hbxc hbxl
    have Hhq8 := Lib.hid hq8; clear hq8; have Hhbx3 := Lib.hid hbx3; clear hbx3; have Hxq3 := Lib.hid xq3; clear xq3
    go_upto_region 4 with fail
    refine wp_region_ord (fun W => Below wb.heap.size wb W ∧ W.heap[w.heap.size]? = some (.cells (wayBox wy) 77 (0, 0))) [([0, 1, 2, 3], 4)] [5, 6] none (by kernel_rfl) (by kernel_rfl) ⟨hI4, heap_drew' Hhbx3.out⟩ ?_
    refine OrdI_cons ?_
    (apply StI_plain (w0 := w3.drew) ⟨hI4, heap_drew' Hhbx3.out⟩ rfl rfl rfl rfl; (focus (intro W hW K hK; have hbq := cells_of hW.2; simp only [wayBox] at hbq; go_step; exact hK)); (focus rfl)); (apply StI_plain (w0 := w3.drew) ⟨hI4, heap_drew' Hhbx3.out⟩ rfl rfl rfl rfl; (focus (intro W hW K hK; have hbq := cells_of hW.2; simp only [wayBox] at hbq; go_step; exact hK)); (focus rfl)); (apply StI_plain (w0 := w3.drew) ⟨hI4, heap_drew' Hhbx3.out⟩ rfl rfl rfl rfl; (focus (intro W hW K hK; have hbq := cells_of hW.2; simp only [wayBox] at hbq; go_step; exact hK)); (focus rfl)); (apply StI_plain (w0 := w3.drew) ⟨hI4, heap_drew' Hhbx3.out⟩ rfl rfl rfl rfl; (focus (intro W hW K hK; have hbq := cells_of hW.2; simp only [wayBox] at hbq; go_step; exact hK)); (focus rfl))
    (apply StI_eff rfl; go_wp2_with fail)
    have hIz := below_two hI4 hq8' (.int .i64 1) (.int .i64 k)
    have hne8 : q8 ≠ w.heap.size := by have := Hhbzw.out; omega
    have hbz : ((w3.drew.setCell ⟨q8, 0, none⟩ (.int .i64 1)).setCell ⟨q8, 1, none⟩ (.int .i64 k)).heap[w.heap.size]? = some (.cells (wayBox wy) 77 (0, 0)) := heap_setCell_off (heap_setCell_off (heap_drew' Hhbx3.out) _ hne8) _ hne8
    refine onNormal_mk ⟨hIz, hbz⟩ (OrdI_fin ?_)
    (apply StI_plain (w0 := ((w3.drew.setCell ⟨q8, 0, none⟩ (.int .i64 1)).setCell ⟨q8, 1, none⟩ (.int .i64 k))) ⟨hIz, hbz⟩ rfl rfl rfl rfl; (focus (intro W hW K hK; skip; go_step; exact hK)); (focus rfl)); (apply StI_plain (w0 := ((w3.drew.setCell ⟨q8, 0, none⟩ (.int .i64 1)).setCell ⟨q8, 1, none⟩ (.int .i64 k))) ⟨hIz, hbz⟩ rfl rfl rfl rfl; (focus (intro W hW K hK; skip; go_step; exact hK)); (focus rfl))
    refine StI_nil ?_
    have xq4 := two_at (heap_drew' Hxq3.out) (.int .i64 1) (.int .i64 k)
    clear xq3c xq3f xq3l Hxq3 hbz hbx3c hbx3l hpc3 hpl3 hbw
    obtain ⟨w4, hw4⟩ : ∃ W, ((w3.setCell ⟨q8, 0, none⟩ (.int .i64 1)).setCell ⟨q8, 1, none⟩ (.int .i64 k)).drew = W := ⟨_, rfl⟩
    have hbw4 : Below wb.heap.size wb w4 := by rw [← hw4]; exact hIz
    replace xq4 : w4.heap[q8]? = some (.cells #[.int .i64 1, .int .i64 k] 210 (0, 0)) := by rw [← hw4]; exact xq4
    rw [hw4]
    clear hw4 hIz hI4 hbw3
    have hbw : Below w.heap.size w w4 := bl_step Hhbwb.out hbw4
    have xq := xq4
    clear xq4
    have Hhbw4 := Lib.hid hbw4; clear hbw4
    have hr5 := Hh.out.below HhN.out hbw
    have hlk : ∀ W, Below w4.heap.size w4 W → (Instr.lookup 159 (.map (some m)) (.agg #[.int .i64 1, .int .i64 k]) false).run Try.prog W = .ok (.int .i64 uu) W := by
      intro W hW
      have := (hr5.run.below hW).look HhU.out ⟨1, k⟩ Hhgu.out
      rw [Hhuu.out] at this
      exact this
    have hac5 := cells_of hr5.run.blk
    have hal5 := lt_of_heap hr5.run.blk
    simp only [runCells] at hac5
    have xqc := cells_of xq
    have xql := lt_of_heap xq
    have hI5 : Below w4.heap.size w4 w4.drew := (Below.refl _ _).drew
    have Hhr5 := Lib.hid hr5; clear hr5; have Hhlk := Lib.hid hlk; clear hlk; have Hxq := Lib.hid xq; clear xq; have Hhbw := Lib.hid hbw; clear hbw
    go_upto_region 5 with fail
    refine wp_region_ord (fun W => Below w4.heap.size w4 W) [] [0, 1, 2, 3, 4, 5, 6, 7, 8, 9] none (by kernel_rfl) (by kernel_rfl) hI5 ?_
    refine OrdI_fin ?_
    (apply StI_plain (w0 := w4.drew) hI5 rfl rfl rfl rfl; (focus (intro W hW K hK; obtain ⟨_, _, _⟩ := bk A.rb hW hal5; obtain ⟨_, _, _⟩ := bk q8 hW xql; have hl := Hhlk.out W hW; go_step; exact hK)); (focus rfl)); (apply StI_plain (w0 := w4.drew) hI5 rfl rfl rfl rfl; (focus (intro W hW K hK; obtain ⟨_, _, _⟩ := bk A.rb hW hal5; obtain ⟨_, _, _⟩ := bk q8 hW xql; have hl := Hhlk.out W hW; go_step; exact hK)); (focus rfl)); (apply StI_plain (w0 := w4.drew) hI5 rfl rfl rfl rfl; (focus (intro W hW K hK; obtain ⟨_, _, _⟩ := bk A.rb hW hal5; obtain ⟨_, _, _⟩ := bk q8 hW xql; have hl := Hhlk.out W hW; go_step; exact hK)); (focus rfl)); (apply StI_plain (w0 := w4.drew) hI5 rfl rfl rfl rfl; (focus (intro W hW K hK; obtain ⟨_, _, _⟩ := bk A.rb hW hal5; obtain ⟨_, _, _⟩ := bk q8 hW xql; have hl := Hhlk.out W hW; go_step; exact hK)); (focus rfl)); (apply StI_plain (w0 := w4.drew) hI5 rfl rfl rfl rfl; (focus (intro W hW K hK; obtain ⟨_, _, _⟩ := bk A.rb hW hal5; obtain ⟨_, _, _⟩ := bk q8 hW xql; have hl := Hhlk.out W hW; go_step; exact hK)); (focus rfl)); (apply StI_plain (w0 := w4.drew) hI5 rfl rfl rfl rfl; (focus (intro W hW K hK; obtain ⟨_, _, _⟩ := bk A.rb hW hal5; obtain ⟨_, _, _⟩ := bk q8 hW xql; have hl := Hhlk.out W hW; go_step; exact hK)); (focus rfl)); (apply StI_plain (w0 := w4.drew) hI5 rfl rfl rfl rfl; (focus (intro W hW K hK; obtain ⟨_, _, _⟩ := bk A.rb hW hal5; obtain ⟨_, _, _⟩ := bk q8 hW xql; have hl := Hhlk.out W hW; go_step; exact hK)); (focus rfl)); (apply StI_plain (w0 := w4.drew) hI5 rfl rfl rfl rfl; (focus (intro W hW K hK; obtain ⟨_, _, _⟩ := bk A.rb hW hal5; obtain ⟨_, _, _⟩ := bk q8 hW xql; have hl := Hhlk.out W hW; go_step; exact hK)); (focus rfl)); (apply StI_plain (w0 := w4.drew) hI5 rfl rfl rfl rfl; (focus (intro W hW K hK; obtain ⟨_, _, _⟩ := bk A.rb hW hal5; obtain ⟨_, _, _⟩ := bk q8 hW xql; have hl := Hhlk.out W hW; go_step; exact hK)); (focus rfl)); (apply StI_plain (w0 := w4.drew) hI5 rfl rfl rfl rfl; (focus (intro W hW K hK; obtain ⟨_, _, _⟩ := bk A.rb hW hal5; obtain ⟨_, _, _⟩ := bk q8 hW xql; have hl := Hhlk.out W hW; go_step; exact hK)); (focus rfl))
    refine StI_nil ?_
    obtain ⟨cb, hcb⟩ : ∃ v, decide (wy.cars < uu + 1) = v := ⟨_, rfl⟩
    rw [hcb]
    cases cb
    · have hle : uu + 1 ≤ wy.cars := by have := of_decide_eq_false hcb; omega
      have hres : takesIs T r x k = true := by rw [Hhval.out]; simpa using hle
      have hr6 := Hhr5.out.drew HhN.out
      have hkeys : GoodKeys goodU r.used := fun y hy => by have := HhU.out.key y hy; unfold goodU I64; omega
      have hml := MapE.lt hr6.run.used
      have hrm := map_ne hr6.run.blk hr6.run.used
      have hqm : q8 ≠ m := map_ne (heap_drew' Hxq.out) hr6.run.used
      have Hhle := Lib.hid hle; clear hle; have Hhres := Lib.hid hres; clear hres; have Hhcb := Lib.hid hcb; clear hcb
      go_upto_region 7 with fail
      have hr7 := hr6.drew HhN.out
      obtain ⟨st, o1, he1, hm1, hst⟩ := MapE.entry use_ok Try.underlying159 hr7.run.used hkeys HhU.out.nodup (z := (0 : Int)) zero_int ⟨1, k⟩ Hhgu.out
      obtain ⟨o2, hes, hm2⟩ := hst (uu + 1)
      rw [← kgetU_mget, Hhuu.out] at he1 hm1
      obtain ⟨w6, hw6⟩ : ∃ W, setBlock w4.drew.drew m o1 = W := ⟨_, rfl⟩
      have hk6 : Keeps [m] w4.drew.drew w6 := by rw [← hw6]; exact keeps_setBlock _ _ _
      rw [hw6] at he1 hm1 hes hm2
      obtain ⟨w7, hw7⟩ : ∃ W, setBlock w6 m o2 = W := ⟨_, rfl⟩
      have hk7 : Keeps [m] w6 w7 := by rw [← hw7]; exact keeps_setBlock _ _ _
      rw [hw7] at hes hm2
      clear hst hw6 hw7
      have hI6 : TakS A.rb q8 1 k m uu w4 w4.drew.drew := ⟨(Keeps.refl _ _).drew.drew, by have := Hhlk.out w4.drew.drew ((Below.refl _ _).drew.drew); exact this⟩
      have hI7 : TakS A.rb q8 1 k m uu w4 w6 := by
        refine ⟨(Keeps.refl _ _).drew.drew.trans hk6, ?_⟩
        have hl2 := MapE.look use_ok Try.underlying159 hm1 (hkeys.mput Hhgu.out) (Apart.mput HhU.out.nodup) (zero_int w6) ⟨1, k⟩ Hhgu.out false
        rw [mget_mput, if_pos rfl] at hl2
        exact hl2
      have n1 : ¬ A.rb ∈ [m] := by simpa using hrm
      have n2 : ¬ q8 ∈ [m] := by simpa using hqm
      have Hhr6 := Lib.hid hr6; clear hr6; have Hhr7 := Lib.hid hr7; clear hr7; have Hhm1 := Lib.hid hm1; clear hm1; have Hhm2 := Lib.hid hm2; clear hm2; have Hhk6 := Lib.hid hk6; clear hk6; have Hhk7 := Lib.hid hk7; clear hk7; have Hhkeys := Lib.hid hkeys; clear hkeys
      refine wp_region_ord (TakS A.rb q8 1 k m uu w4) [([0, 1, 2, 3, 4, 5, 6, 7], 8)] [9] (some 10) (by kernel_rfl) (by kernel_rfl) hI6 ?_
      refine OrdI_cons ?_
      (apply StI_plain (w0 := _) hI6 rfl rfl rfl rfl; (focus (intro W hW K hK; have := hW.kp.cell A.rb hal5 n1; have := hW.kp.cell q8 xql n2; have hl := hW.lk; go_step; exact hK)); (focus rfl)); (apply StI_plain (w0 := _) hI6 rfl rfl rfl rfl; (focus (intro W hW K hK; have := hW.kp.cell A.rb hal5 n1; have := hW.kp.cell q8 xql n2; have hl := hW.lk; go_step; exact hK)); (focus rfl)); (apply StI_plain (w0 := _) hI6 rfl rfl rfl rfl; (focus (intro W hW K hK; have := hW.kp.cell A.rb hal5 n1; have := hW.kp.cell q8 xql n2; have hl := hW.lk; go_step; exact hK)); (focus rfl)); (apply StI_plain (w0 := _) hI6 rfl rfl rfl rfl; (focus (intro W hW K hK; have := hW.kp.cell A.rb hal5 n1; have := hW.kp.cell q8 xql n2; have hl := hW.lk; go_step; exact hK)); (focus rfl)); (apply StI_plain (w0 := _) hI6 rfl rfl rfl rfl; (focus (intro W hW K hK; have := hW.kp.cell A.rb hal5 n1; have := hW.kp.cell q8 xql n2; have hl := hW.lk; go_step; exact hK)); (focus rfl)); (apply StI_plain (w0 := _) hI6 rfl rfl rfl rfl; (focus (intro W hW K hK; have := hW.kp.cell A.rb hal5 n1; have := hW.kp.cell q8 xql n2; have hl := hW.lk; go_step; exact hK)); (focus rfl)); (apply StI_plain (w0 := _) hI6 rfl rfl rfl rfl; (focus (intro W hW K hK; have := hW.kp.cell A.rb hal5 n1; have := hW.kp.cell q8 xql n2; have hl := hW.lk; go_step; exact hK)); (focus rfl)); (apply StI_plain (w0 := _) hI6 rfl rfl rfl rfl; (focus (intro W hW K hK; have := hW.kp.cell A.rb hal5 n1; have := hW.kp.cell q8 xql n2; have hl := hW.lk; go_step; exact hK)); (focus rfl))
      (apply StI_eff rfl; refine wpList_mapEntry_run _ w6 rfl _ _ _ rfl _ _ _ rfl rfl he1 ?_; go_wp2_with fail)
      refine onNormal_mk hI7 (OrdI_snk ?_)
      (apply StI_plain (w0 := _) hI7 rfl rfl rfl rfl; (focus (intro W hW K hK; skip; go_step; exact hK)); (focus rfl))
      (apply StI_eff rfl; refine wpList_entryStore_run _ w7 rfl _ _ _ _ rfl _ _ _ rfl rfl rfl hes ?_; go_wp2_with fail)
      refine onNormal_last ?_
      go_wp2_with fail
      go_ret
      have hfin := Hhr7.out.setUsed HhN.out hmB (mput r.used ⟨1, k⟩ (uu + 1)) Hhm2.out (Hhk6.out.trans Hhk7.out)
      have huse : takesUse r x k = { r with used := mput r.used ⟨1, k⟩ (uu + 1) } := by unfold takesUse; rw [HhuK.out, HhuN.out, kaddU_mput, Hhuu.out]
      exact ⟨by rw [Hhres.out]; rfl, by unfold takesRes; rw [Hhres.out, if_pos rfl, huse]; exact hfin.1, (Fr.of_below Hhbw.out).trans ((Fr.of_below (Below.refl _ _).drew.drew).trans hfin.2)⟩
    · have hle : ¬ uu + 1 ≤ wy.cars := by have := of_decide_eq_true hcb; omega
      have hres : takesIs T r x k = false := by rw [Hhval.out]; simpa using hle
      have Hhle := Lib.hid hle; clear hle; have Hhres := Lib.hid hres; clear hres; have Hhcb := Lib.hid hcb; clear hcb
      go_wp2_with fail
      go_ret
      exact ⟨by rw [Hhres.out]; rfl, by unfold takesRes; rw [Hhres.out, if_neg (by simp)]; exact Hhr5.out.drew HhN.out, (Fr.of_below Hhbw.out).trans (Fr.of_below (Below.refl _ _).drew)⟩

end Go.Proofs.Ytjoihijlcpnhoaa
