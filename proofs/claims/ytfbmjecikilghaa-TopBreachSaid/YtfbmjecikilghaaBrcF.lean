/- TopBreach: the levels behind some winds, in centimetres. -/
import Derived.Test.YtfbmjecikilghaaSurK
import Derived.Test.YtfbmjecikilghaaTopC
import Derived.Test.YtfbmjecikilghaaDikL
import Derived.Test.YtfbmjecikilghaaDikC
import Derived.Great.BuildSlice
namespace Go.Proofs.Ytfbmjecikilghaa
open Go.RowKit Go.Shelf

/-! Plain numbers. -/
theorem run_bd {W H cell : Nat} {sz s0 s1 d0 d1 l0 l1 : Int} {gr : List (Int × Int)} (hsz : 1 ≤ sz ∧ sz ≤ 10000) (hd0 : 0 ≤ d0 ∧ d0 ≤ 10000) (hd1 : 0 ≤ d1 ∧ d1 ≤ 10000) (hl0 : 0 ≤ l0 ∧ l0 ≤ 1024) (hl1 : 0 ≤ l1 ∧ l1 ≤ 1024) : ∀ (l : List WindS) (z : Sp), (∀ x ∈ l, x.ok) →
    ((-6000000000 ≤ z.1 ∧ z.1 ≤ 6000000000) ∧ (-6000000000 ≤ z.2 ∧ z.2 ≤ 6000000000)) →
    ∀ y ∈ (surOf W H sz s0 s1 d0 d1 l0 l1 gr).run cell z l, (-6000000000 ≤ y.1 ∧ y.1 ≤ 6000000000) ∧ (-6000000000 ≤ y.2 ∧ y.2 ≤ 6000000000)
  | [], z, _, hz, y, hy => by simp [SurM.run] at hy
  | x :: l, z, hx, hz, y, hy => by
    have h1 := follow_bd (lag := (l0, l1)) hl0 hl1 hz (steady_bd (W := W) (H := H) (cell := cell) (s0 := s0) (s1 := s1) (l0 := l0) (l1 := l1) (gr := gr) hsz hd0 hd1 (hx x (by simp)))
    simp only [SurM.run, List.mem_cons] at hy
    rcases hy with rfl | hy
    · exact h1
    · exact run_bd hsz hd0 hd1 hl0 hl1 l _ (fun y hy => hx y (by simp [hy])) h1 y hy
theorem two_self {l : List Sp} (h : Two sub l l) : ∀ y ∈ l, y.1 ≤ y.2 := by
  intro y hy
  induction l with
  | nil => simp at hy
  | cons a l ih =>
    cases h with
    | cons h1 h2 =>
      rcases List.mem_cons.1 hy with rfl | hy
      · exact h1.2.2
      · exact ih h2 hy
theorem two_wind : ∀ l : List WindS, (∀ x ∈ l, x.ok) → Two WindIn l l
  | [], _ => .nil
  | x :: l, h => .cons ⟨⟨Int.le_refl _, Int.le_refl _, (h x (by simp)).v⟩, (h x (by simp)).v0, rfl, rfl, (h x (by simp)).p⟩ (two_wind l fun y hy => h y (by simp [hy]))
theorem run_valid {m : SurM} (hm : m.In m) (cell : Nat) {z : Sp} (hz : z.1 ≤ z.2) {l : List WindS} (hl : ∀ x ∈ l, x.ok) : ∀ y ∈ m.run cell z l, y.1 ≤ y.2 :=
  two_self (run_in hm cell l l ⟨Int.le_refl _, Int.le_refl _, hz⟩ (two_wind l hl))
def levB (c : Sp) : Bool := decide (-20000 ≤ c.1) && decide (c.2 ≤ 20000)
theorem levB_no1 {c : Sp} (h : c.1 < -20000) : levB c = false := by simp [levB]; omega
theorem levB_no2 {c : Sp} (h : 20000 < c.2) : levB c = false := by simp [levB]; omega
theorem levB_yes {c : Sp} (h : ¬ c.1 < -20000) (h' : ¬ 20000 < c.2) : levB c = true := by simp [levB]; omega

def BrcI (w2 : World) (xs : List Sp) (lv i : Value) (wr : World) : Prop :=
  ∃ (k : Nat) (v : Value), k ≤ xs.length ∧ v = lv ∧ i = .int .i64 k ∧ (xs.take k).all levB = true ∧ wr.ownsRow w2.heap.size 46 2 v k (wcells (xs.take k)) ∧ Below w2.heap.size w2 wr

set_option maxHeartbeats 16000000 in
set_option maxRecDepth 100000 in
theorem blevels_ok {W H : Nat} {sz d0 d1 l0 l1 : Int} {gr : List (Int × Int)} {g : Nat} {gcs : Array Value} {gf : Nat × Nat} (P : PlcM W H 0 sz (-50) 50 d0 d1 l0 l1 gr g gcs gf) (cap : Nat) (l : List WindS) (al : Option Addr) (cl B : Nat) (w : World) (hl : Sl WindE 5 B w al l) (hB : B ≤ w.heap.size) (hok : ∀ x ∈ l, x.ok) (hn : l.length ≤ 100)
    (hd : vldB d0 d1 1 10000 = true) (hlg : vldB l0 l1 1 1024 = true) (x5 : w.heap[g]? = some (.cells gcs 46 gf)) (xs : List Sp) (hxs : ((surOf W H sz (-50) 50 d0 d1 l0 l1 gr).run 0 (0, 0) l).map cmS = xs) :
    Calls Try.prog 15 #[.agg #[.int .i64 W, .int .i64 H, .int .i64 sz, .slice (some ⟨g, 0, none⟩) gr.length cap], .agg #[.int .i64 d0, .int .i64 d1, .int .i64 l0, .int .i64 l1], .slice al l.length cl] w fun e w' =>
      ∃ v, e = .returned (.tuple #[v, .bool (xs.all levB)]) ∧ (xs.all levB = true → w'.ownsRow w.heap.size 46 2 v l.length (wcells xs)) ∧ Below w.heap.size w w' := by
  have hval : ∀ y ∈ (surOf W H sz (-50) 50 d0 d1 l0 l1 gr).run 0 (0, 0) l, y.1 ≤ y.2 := by
    refine run_valid ⟨rfl, rfl, rfl, by have := P.sz1; show 0 ≤ sz; omega, fun c hc => ?_, rfl, by show (-50 : Int) ≤ 50; omega, ?_, by have := P.d0; show 0 ≤ d0; omega, ?_, by have := P.l0; show 0 ≤ l0; omega, by have := P.l1; show l1 ≤ 1024; omega⟩ 0 (Int.le_refl _) hok
    · have hc' : c < gr.length := by rw [P.len]; exact hc
      have := P.ok gr[c] (List.getElem_mem hc')
      show sub (gr.getD c (0, 0)) (gr.getD c (0, 0))
      rw [List.getD_eq_getElem?_getD, List.getElem?_eq_getElem hc']
      exact ⟨Int.le_refl _, Int.le_refl _, this.1⟩
    · simp only [vldB, Bool.and_eq_true, decide_eq_true_eq] at hd
      exact ⟨Int.le_refl _, Int.le_refl _, hd.1.1⟩
    · simp only [vldB, Bool.and_eq_true, decide_eq_true_eq] at hlg
      exact ⟨Int.le_refl _, Int.le_refl _, hlg.1.1⟩
  have hbd := run_bd (W := W) (H := H) (cell := 0) (s0 := -50) (s1 := 50) (gr := gr) P.sz1 P.d0 P.d1 P.l0 P.l1 l (0, 0) hok (by simp)
  have hrl := run_length (surOf W H sz (-50) 50 d0 d1 l0 l1 gr) 0 (0, 0) l
  have hrun := fun V (hV : Below w.heap.size w V) => run_ok P cap 0 0 l al cl B V (hl.below (ek_wind B) (hV.mono hB)) (by have := hV.size; omega) hok hn (by decide) hd hlg (by omega) (heap_below hV x5)
  obtain ⟨ys, hys⟩ : ∃ ys, (surOf W H sz (-50) 50 d0 d1 l0 l1 gr).run 0 (0, 0) l = ys := ⟨_, rfl⟩
  rw [hys] at hval hbd hxs hrl
  simp only [hys] at hrun
  obtain ⟨n, hnn⟩ : ∃ n, gr.length = n := ⟨_, rfl⟩
  obtain ⟨ln, hln⟩ : ∃ n, l.length = n := ⟨_, rfl⟩
  rw [hnn, hln] at hrun
  rw [hln] at hrl hn
  rw [hnn, hln]
  have hxl : xs.length = ln := by rw [← hxs, List.length_map, hrl]
  have hxk : ∀ k (hk : k < ys.length), xs[k]? = some (cmS ys[k]) := fun k hk => by rw [← hxs]; simp [hk]
  have hsp := fun a b V => tspan_any a b V
  clear P hl hok hd hlg x5 hys hnn hln hB
  have Hhval := Lib.hid hval; clear hval; have Hhbd := Lib.hid hbd; clear hbd; have Hhrun := Lib.hid hrun; clear hrun; have Hhxs := Lib.hid hxs; clear hxs; have Hhrl := Lib.hid hrl; clear hrl; have Hhxl := Lib.hid hxl; clear hxl; have Hhxk := Lib.hid hxk; clear hxk
  go_enter Try.func15, Try.ntmps15
  go_upto_region 1 with fail
  have y3 : ((w.alloc (.cells #[.int .i64 W, .int .i64 H, .int .i64 sz, .slice (some ⟨g, 0, none⟩) n cap] 36)).alloc (.cells #[.int .i64 d0, .int .i64 d1, .int .i64 l0, .int .i64 l1] 63)).heap[w.heap.size]? = some (.cells #[.int .i64 W, .int .i64 H, .int .i64 sz, .slice (some ⟨g, 0, none⟩) n cap] 36 (0, 0)) := heap_alloc_off (heap_alloc_at _ _) _
  have y4 : ((w.alloc (.cells #[.int .i64 W, .int .i64 H, .int .i64 sz, .slice (some ⟨g, 0, none⟩) n cap] 36)).alloc (.cells #[.int .i64 d0, .int .i64 d1, .int .i64 l0, .int .i64 l1] 63)).heap[w.heap.size + 1]? = some (.cells #[.int .i64 d0, .int .i64 d1, .int .i64 l0, .int .i64 l1] 63 (0, 0)) := heap_alloc_at' _ _ (by simp)
  have hbw : Below w.heap.size w ((w.alloc (.cells #[.int .i64 W, .int .i64 H, .int .i64 sz, .slice (some ⟨g, 0, none⟩) n cap] 36)).alloc (.cells #[.int .i64 d0, .int .i64 d1, .int .i64 l0, .int .i64 l1] 63)) := (by repeat (first | exact Below.refl _ _ | (refine bl_setCell ?_ _ _ ?_; rotate_left; focus (first | omega | (simp; done) | (simp; omega))) | refine bl_alloc ?_ _ | refine bl_step ?_ (by assumption) | refine bl_drew ?_ | refine bl_drewN ?_ _))
  generalize ((w.alloc (.cells #[.int .i64 W, .int .i64 H, .int .i64 sz, .slice (some ⟨g, 0, none⟩) n cap] 36)).alloc (.cells #[.int .i64 d0, .int .i64 d1, .int .i64 l0, .int .i64 l1] 63)) = w1 at y3 y4 hbw ⊢
  have y3c := cells_of y3
  have y3l := lt_of_heap y3
  have y4c := cells_of y4
  have y4l := lt_of_heap y4
  have hI : Below w1.heap.size w1 w1.drew := (Below.refl _ _).drew
  have Hy3 := Lib.hid y3; clear y3; have Hy4 := Lib.hid y4; clear y4; have Hhbw := Lib.hid hbw; clear hbw; have Hhsp := Lib.hid hsp; clear hsp
  refine wp_region_ord (fun W => Below w1.heap.size w1 W) [([0, 2, 4], 1), ([], 3), ([], 5)] [6, 7, 8, 9, 10] none (by kernel_rfl) (by kernel_rfl) hI ?_
  refine OrdI_cons ?_
  (apply StI_plain (w0 := w1.drew) hI rfl rfl rfl rfl; (focus (intro W hW K hK; obtain ⟨_, _⟩ := bk w.heap.size hW y3l; obtain ⟨_, _⟩ := bk (w.heap.size + 1) hW y4l; go_step; exact hK)); (focus rfl)); (apply StI_plain (w0 := w1.drew) hI rfl rfl rfl rfl; (focus (intro W hW K hK; obtain ⟨_, _⟩ := bk w.heap.size hW y3l; obtain ⟨_, _⟩ := bk (w.heap.size + 1) hW y4l; go_step; exact hK)); (focus rfl)); (apply StI_plain (w0 := w1.drew) hI rfl rfl rfl rfl; (focus (intro W hW K hK; obtain ⟨_, _⟩ := bk w.heap.size hW y3l; obtain ⟨_, _⟩ := bk (w.heap.size + 1) hW y4l; go_step; exact hK)); (focus rfl))
  (apply StI_eff rfl; go_wp2_with (first | (go_at_call 8; refine (Hhsp.out _ _ _).mono ?_; rintro e w2 ⟨rfl, hb2⟩)))
  have hI2 : Below w1.heap.size w1 w2 := below_mid hI (Nat.le_refl _) hb2
  refine onNormal_mk hI2 (OrdI_cons ?_)
  (apply StI_eff rfl; go_wp2_with (first | (go_at_call 8; refine (Hhsp.out _ _ _).mono ?_; rintro e w3 ⟨rfl, hb3⟩)))
  have hI3 : Below w1.heap.size w1 w3 := below_mid hI2 (Nat.le_refl _) hb3
  refine onNormal_mk hI3 (OrdI_cons ?_)
  (apply StI_eff rfl; go_wp2_with (first | (go_at_call 25; refine Calls.mono (Hhrun.out _ (bl_step Hhbw.out hI3)) ?_; rintro e w4 ⟨vr, rfl, hrow, hb4⟩)))
  have hI4 : Below w1.heap.size w1 w4 := below_mid hI3 (Nat.le_refl _) hb4
  refine onNormal_mk hI4 (OrdI_fin ?_)
  (apply StI_plain (w0 := w4) hI4 rfl rfl rfl rfl; (focus (intro W hW K hK; skip; go_step; exact hK)); (focus rfl)); (apply StI_plain (w0 := w4) hI4 rfl rfl rfl rfl; (focus (intro W hW K hK; skip; go_step; exact hK)); (focus rfl)); (apply StI_plain (w0 := w4) hI4 rfl rfl rfl rfl; (focus (intro W hW K hK; skip; go_step; exact hK)); (focus rfl)); (apply StI_plain (w0 := w4) hI4 rfl rfl rfl rfl; (focus (intro W hW K hK; skip; go_step; exact hK)); (focus rfl)); (apply StI_plain (w0 := w4) hI4 rfl rfl rfl rfl; (focus (intro W hW K hK; skip; go_step; exact hK)); (focus rfl))
  refine StI_nil ?_
  have hb := bl_step Hhbw.out hI4
  rw [← Hhrl.out] at hrow
  obtain ⟨ar, cr, rfl, hS⟩ := sl_spans hrow (by have := Hhrl.out; omega)
  clear hI hI2 hI3 hI4 hb2 hb3 hb4 y3c y3l y4c y4l Hy3 Hy4 Hhbw Hhrun hrow Hhsp
  have Hhb := Lib.hid hb; clear hb; have HhS := Lib.hid hS; clear hS
  go_wp2_with fail
  go_loopw [10, 28] (fun v i wr => BrcI w4 xs v i wr) (fun _ i _ => xs.length - (intOf i).toNat)
  case atStart => exact ⟨0, _, Nat.zero_le _, rfl, rfl, rfl, World.ownsRow_nil _ _ _ _, Below.refl _ _⟩
  case round =>
    obtain ⟨k, v, hk, rfl, rfl, hall, hrow, hbk⟩ := hrel
    have hyl : ys.length = xs.length := by rw [Hhrl.out, Hhxl.out]
    by_cases hlt : k < ys.length
    · obtain ⟨b, off, rfl, hbB, he⟩ := (HhS.out.below (ek_span _) hbk).2 k hlt
      have hv := Hhval.out _ (List.getElem_mem hlt)
      have hd := Hhbd.out _ (List.getElem_mem hlt)
      have hxx := Hhxk.out k hlt
      obtain ⟨⟨u1, u2⟩, hu⟩ : ∃ u, ys[k] = u := ⟨_, rfl⟩
      rw [hu] at he hv hd hxx
      obtain ⟨e0, e1⟩ := he
      simp only at e0 e1 hv hd
      obtain ⟨⟨d1', d2⟩, d3, d4⟩ := hd
      have hcm := ucm_any u1 u2 hv (by omega) (by omega)
      obtain ⟨C1, hC1⟩ : ∃ x, u1 / 256 = x := ⟨_, rfl⟩
      obtain ⟨C2, hC2⟩ : ∃ x, sceil u2 256 = x := ⟨_, rfl⟩
      rw [hC1, hC2] at hcm
      have hxc : xs[k]? = some (C1, C2) := by rw [hxx, ← hC1, ← hC2]; rfl
      have hkx : k < xs.length := by omega
      have htk : xs.take (k + 1) = xs.take k ++ [(C1, C2)] := by
        rw [List.take_add_one, hxc]; rfl
      have hmem : (C1, C2) ∈ xs := List.mem_of_getElem? hxc
      clear hu hC1 hC2 hxx hyl
      have Hhall := Lib.hid hall; clear hall; have Hhrow := Lib.hid hrow; clear hrow; have Hhbk := Lib.hid hbk; clear hbk; have Hhxc := Lib.hid hxc; clear hxc; have Hhtk := Lib.hid htk; clear htk; have Hhmem := Lib.hid hmem; clear hmem
      go_wp2_with fail
      refine (hcm _).mono ?_
      rintro e w5 ⟨rfl, hb5⟩
      have hb6 : Below w4.heap.size w4 w5 := bl_step (bl_alloc Hhbk.out _) hb5
      have hrow5 := (Hhrow.out.alloc (.cells #[.int .i64 u1, .int .i64 u2] 46)).kept (below_grown hb5) (by cases v.ownBlock <;> simp)
      clear hb5 hcm e0 e1
      have Hhb6 := Lib.hid hb6; clear hb6; have Hhrow5 := Lib.hid hrow5; clear hrow5
      by_cases c1 : C1 < -20000
      · have hno : xs.all levB = false := by
          rw [List.all_eq_false]
          exact ⟨_, Hhmem.out, by rw [levB_no1 c1]; simp⟩
        go_wp2_with fail
        ((try simp only [Exit.inBlock, Exit.then]); refine bodyPost_ret (v := .tuple #[.slice none 0 0, .bool false]) (by simp [results, Try.results15, go_sem, *]) rfl ?_)
        exact ⟨_, by rw [hno], fun h => (by rw [hno] at h; cases h), bl_alloc (bl_step Hhb.out Hhb6.out) _⟩
      · by_cases c2 : 20000 < C2
        · have hno : xs.all levB = false := by
            rw [List.all_eq_false]
            exact ⟨_, Hhmem.out, by rw [levB_no2 c2]; simp⟩
          go_wp2_with fail
          ((try simp only [Exit.inBlock, Exit.then]); refine bodyPost_ret (v := .tuple #[.slice none 0 0, .bool false]) (by simp [results, Try.results15, go_sem, *]) rfl ?_)
          exact ⟨_, by rw [hno], fun h => (by rw [hno] at h; cases h), bl_alloc (bl_step Hhb.out Hhb6.out) _⟩
        · have hall' : (xs.take (k + 1)).all levB = true := by
            rw [Hhtk.out, List.all_append, Hhall.out]
            simp [levB_yes (c := (C1, C2)) c1 c2]
          obtain ⟨i0, hinf, hz0, hz1, hz2⟩ := info_parts info36
          have hk100 : k ≤ 100 := by have := Hhrl.out; omega
          have hmax : k + 1 ≤ maxLen := by unfold maxLen; omega
          have Hhall' := Lib.hid hall'; clear hall'
          go_upto_region 9 with fail
          have hb7 : Below w4.heap.size w4 (w5.alloc (.cells #[.int .i64 C1, .int .i64 C2] 46)) := bl_alloc Hhb6.out _
          have mrow := Hhrow5.out.alloc (.cells #[.int .i64 C1, .int .i64 C2] 46)
          have mq := heap_alloc_at w5 (.cells #[.int .i64 C1, .int .i64 C2] 46)
          have hs7 : w4.heap.size ≤ (w5.alloc (.cells #[.int .i64 C1, .int .i64 C2] 46)).heap.size := hb7.size
          obtain ⟨q, hq⟩ : ∃ q, w5.heap.size = q := ⟨_, rfl⟩
          rw [hq] at mq ⊢
          generalize (w5.alloc (.cells #[.int .i64 C1, .int .i64 C2] 46)) = w6 at hb7 mrow mq hs7 ⊢
          have mqc := cells_of mq
          have mql := lt_of_heap mq
          have hnews := news2 w6 (.int .i64 C1) (.int .i64 C2) 46
          have hlt0 := fun g (hg : v.ownBlock = some g) => (mrow.lt g hg).1
          clear hq Hhb6 Hhrow5 Hhbk
          have Hmq := Lib.hid mq; clear mq; have Hhb7 := Lib.hid hb7; clear hb7
          go_wp2_with (at_builtin; refine wpList_append_own _ rfl _ _ 34 rfl w4.heap.size 46 i0 (.agg #[.int .i64 0, .int .i64 0]) 2 16 Try.underlying34 hinf hz0 hz1 hz2 rfl (by decide) _ _ _ rfl (mrow.alloc _) ⟨w6.heap.size, 0, none⟩ 1 1 [.int .i64 C1, .int .i64 C2] rfl rfl hnews (by simp [Value.oneCell']) (by omega) (by omega) (by simp; omega) ?_; intro v' w7 hown' hgrow _; obtain ⟨g', cap', rfl⟩ := ownsRow_succ hown'; replace hgrow : (w6.alloc (.cells #[.int .i64 C1, .int .i64 C2] 46)).grownBy w7 v.ownBlock := hgrow; have hb8 : Below w4.heap.size w4 w7 := (bl_alloc Hhb7.out _).grown hgrow (by simp; omega) (fun k hk => by have := hlt0 k hk; omega); clear hnews mrow mqc mql; have Hhb8 := Lib.hid hb8; clear hb8; have Hown := Lib.hid hown'; clear hown' hgrow)
          refine ⟨⟨k + 1, _, by omega, rfl, by go_num, Hhall'.out, ?_, Hhb8.out⟩, by simp [intOf]; omega⟩
          rw [Hhtk.out, wcells_snoc]; exact Hown.out
    · obtain rfl : k = xs.length := by omega
      have hnl : ¬ ((xs.length : Int) < ys.length) := by omega
      clear hyl
      rw [List.take_length] at hrow hall
      obtain ⟨av, cv, rfl⟩ := row_len hrow
      have Hhall := Lib.hid hall; clear hall; have Hhrow := Lib.hid hrow; clear hrow; have Hhbk := Lib.hid hbk; clear hbk
      go_wp2_with fail
      ((try simp only [Exit.inBlock, Exit.then]); refine bodyPost_ret (v := .tuple #[.slice av xs.length cv, .bool true]) (by simp [results, Try.results15, go_sem, *]) rfl ?_)
      refine ⟨_, by rw [Hhall.out], fun _ => ?_, bl_step Hhb.out Hhbk.out⟩
      have e := Hhrow.out
      rw [Hhxl.out] at e ⊢
      exact row_mono e Hhb.out.size
end Go.Proofs.Ytfbmjecikilghaa
namespace Go.Proofs.Ytfbmjecikilghaa
open Go.RowKit Go.Shelf

/-- A block of spans reads as the spans. -/
theorem rowAt_lit (g : Nat) (gr : List (Int × Int)) (hl : gr.length ≤ 1000) : RowAt g (.cells (wcells gr).toArray 46 (0, 0)) gr := by
  intro W hW
  have hc := cells_of hW
  refine ⟨by omega, fun k hk => ⟨g, 0, rfl, Nat.lt_succ_self g, ?_⟩⟩
  obtain ⟨e0, e1⟩ := wcells_get gr k hk
  constructor
  · rw [Nat.zero_add, hc]; simpa using e0
  · rw [Nat.zero_add, hc]; simpa using e1

abbrev wksM : SurM := surOf 3 1 1000 (-50) 50 3000 3000 1024 1024 [(-300, -300), (-300, -300), (-300, -300)]
abbrev wksL : List WindS := [⟨(100, 100), 16, (0, 0)⟩, ⟨(9000, 9000), 16, (0, 0)⟩]
abbrev wksS : SecS := ⟨(90, 90), (90, 90), 0, (0, 0)⟩
theorem wks_dirs : dirsL 16 = [4] := by decide
theorem wks_levels : ((wksM.run 0 (0, 0) wksL).map cmS) = [(0, 1), (141, 199)] := by decide +kernel
theorem wks_hold : (holdAt wksS [(0, 1), (141, 199)] (List.length (α := Sp) [(0, 1), (141, 199)])).may = 1 ∧ (holdAt wksS [(0, 1), (141, 199)] (List.length (α := Sp) [(0, 1), (141, 199)])).must = 1 := by decide +kernel
theorem wks_winds (B g : Nat) (w : World) (hg : w.heap[g]? = some (.cells #[.int .i64 100, .int .i64 100, .int .i64 16, .int .i64 0, .int .i64 0, .int .i64 9000, .int .i64 9000, .int .i64 16, .int .i64 0, .int .i64 0] 67 (0, 0))) (hB : g < B) : Sl WindE 5 B w (some ⟨g, 0, none⟩) wksL := by
  have hc := cells_of hg
  refine ⟨by decide, fun k hk => ⟨g, 0, rfl, hB, ?_⟩⟩
  have hk2 : k = 0 ∨ k = 1 := by simp at hk; omega
  rcases hk2 with rfl | rfl
  · exact ⟨hc 0, hc 1, hc 2, hc 3, hc 4⟩
  · exact ⟨hc 5, hc 6, hc 7, hc 8, hc 9⟩
theorem wks_ok : ∀ x ∈ wksL, x.ok := by
  intro x hx
  simp at hx
  rcases hx with rfl | rfl <;> exact ⟨by decide, by decide, by decide, by decide, by decide, by decide, by decide, by decide⟩

abbrev wksG : List (Int × Int) := [(-300, -300), (-300, -300), (-300, -300)]
abbrev wksGC : Array Value := #[.int .i64 (-300), .int .i64 (-300), .int .i64 (-300), .int .i64 (-300), .int .i64 (-300), .int .i64 (-300)]
theorem wks_plc (g : Nat) : PlcM 3 1 0 1000 (-50) 50 3000 3000 1024 1024 wksG g wksGC (0, 0) where
  w1 := by decide
  w4 := by decide
  h1 := by decide
  h4 := by decide
  hc := by decide
  sz1 := by decide
  s0 := by decide
  s1 := by decide
  d0 := by decide
  d1 := by decide
  l0 := by decide
  l1 := by decide
  row := rowAt_lit g wksG (by decide)
  ok := by intro u hu; simp [wksG] at hu; subst hu; exact ⟨by decide, by decide, by decide⟩
  len := rfl
theorem wks_breach (g gw : Nat) (w : World) (hg : w.heap[g]? = some (.cells wksGC 46 (0, 0))) (hw : w.heap[gw]? = some (.cells #[.int .i64 100, .int .i64 100, .int .i64 16, .int .i64 0, .int .i64 0, .int .i64 9000, .int .i64 9000, .int .i64 16, .int .i64 0, .int .i64 0] 67 (0, 0))) :
    Calls Try.prog 15 #[.agg #[.int .i64 3, .int .i64 1, .int .i64 1000, .slice (some ⟨g, 0, none⟩) 3 3], .agg #[.int .i64 3000, .int .i64 3000, .int .i64 1024, .int .i64 1024], .slice (some ⟨gw, 0, none⟩) 2 2] w fun e w' =>
      ∃ v, e = .returned (.tuple #[v, .bool true]) ∧ w'.ownsRow w.heap.size 46 2 v 2 (wcells [(0, 1), (141, 199)]) ∧ Below w.heap.size w w' := by
  have h := blevels_ok (wks_plc g) 3 wksL (some ⟨gw, 0, none⟩) 2 w.heap.size w (wks_winds _ gw w hw (lt_of_heap hw)) (Nat.le_refl _) wks_ok (by decide) (by decide) (by decide) hg _ wks_levels
  refine Calls.mono h ?_
  rintro e w' ⟨v, rfl, hr, hb⟩
  exact ⟨v, rfl, hr (by decide), hb⟩
theorem wks_spans : ∀ p ∈ ([(0, 1), (141, 199)] : List Sp), vldB p.1 p.2 (-20000) 20000 = true := by decide
theorem wks_secok : wksS.ok := ⟨by decide, by decide, by decide, by decide, by decide, by decide, by decide, by decide, by decide, by decide, by decide⟩

set_option maxHeartbeats 8000000 in
set_option maxRecDepth 100000 in
theorem bworks_ok (w : World) : Calls Try.prog 13 #[] w fun e w' => e = .returned (.bool true) ∧ Below w.heap.size w w' := by
  go_enter Try.func13, Try.ntmps13
  go_wp2_with fail
  refine (tspan_any _ _ _).mono ?_
  rintro e w1 ⟨rfl, hb1⟩
  go_wp2_with fail
  refine (tspan_any _ _ _).mono ?_
  rintro e w2 ⟨rfl, hb2⟩
  go_wp2_with fail
  refine (tspan_any _ _ _).mono ?_
  rintro e w3 ⟨rfl, hb3⟩
  have hb := bl_step (bl_step hb1 hb2) hb3
  clear hb1 hb2 hb3
  have Hhb := Lib.hid hb; clear hb
  go_wp2_with fail
  refine (tspan_any _ _ _).mono ?_
  rintro e w4 ⟨rfl, hb4⟩
  obtain ⟨g, hg⟩ : ∃ g, w3.heap.size = g := ⟨_, rfl⟩
  have x0 : w4.heap[g]? = some (.cells #[.int .i64 (-300), .int .i64 (-300), .int .i64 (-300), .int .i64 (-300), .int .i64 (-300), .int .i64 (-300)] 46 (0, 0)) := heap_below hb4 (heap_alloc_off (heap_alloc_at' _ _ hg.symm) _)
  have x1 : w4.heap[g + 1]? = some (.cells #[.int .i64 3, .int .i64 1, .int .i64 1000, .slice (some ⟨g, 0, none⟩) 3 3] 36 (0, 0)) := by
    have := heap_below hb4 (heap_alloc_at (w3.alloc (.cells #[.int .i64 (-300), .int .i64 (-300), .int .i64 (-300), .int .i64 (-300), .int .i64 (-300), .int .i64 (-300)] 46)) (.cells #[.int .i64 3, .int .i64 1, .int .i64 1000, .slice (some ⟨w3.heap.size, 0, none⟩) 3 3] 36))
    rw [World.size_alloc, hg] at this
    exact this
  have hbw : Below w.heap.size w w4 := bl_step (bl_alloc (bl_alloc Hhb.out _) _) hb4
  have hgw : w.heap.size ≤ g := by rw [← hg]; exact Hhb.out.size
  rw [hg]
  clear hb4 hg Hhb
  have Hx0 := Lib.hid x0; clear x0; have Hx1 := Lib.hid x1; clear x1; have Hhbw := Lib.hid hbw; clear hbw
  go_wp2_with fail
  refine (tspan_any _ _ _).mono ?_
  rintro e w5 ⟨rfl, hb5⟩
  have y0 := heap_below hb5 Hx0.out
  have y1 := heap_below hb5 Hx1.out
  have hbv := bl_step Hhbw.out hb5
  clear hb5 Hx0 Hx1 Hhbw
  have Hy0 := Lib.hid y0; clear y0; have Hy1 := Lib.hid y1; clear y1; have Hhbv := Lib.hid hbv; clear hbv
  go_upto_region 3 with fail
  have z0 := heap_alloc_off Hy0.out (.cells #[.int .i64 3000, .int .i64 3000, .int .i64 1024, .int .i64 1024] 63)
  have z1 := heap_alloc_off Hy1.out (.cells #[.int .i64 3000, .int .i64 3000, .int .i64 1024, .int .i64 1024] 63)
  have z2 := heap_alloc_at w5 (.cells #[.int .i64 3000, .int .i64 3000, .int .i64 1024, .int .i64 1024] 63)
  have hbu := bl_alloc Hhbv.out (.cells #[.int .i64 3000, .int .i64 3000, .int .i64 1024, .int .i64 1024] 63)
  obtain ⟨q, hq⟩ : ∃ q, w5.heap.size = q := ⟨_, rfl⟩
  rw [hq] at z2 ⊢
  generalize w5.alloc (.cells #[.int .i64 3000, .int .i64 3000, .int .i64 1024, .int .i64 1024] 63) = w6 at z0 z1 z2 hbu ⊢
  have z1c := cells_of z1
  have z1l := lt_of_heap z1
  have z2c := cells_of z2
  have z2l := lt_of_heap z2
  clear hq Hy0 Hy1 Hhbv
  have hI : Below w6.heap.size w6 w6.drew := (Below.refl _ _).drew
  have Hz0 := Lib.hid z0; clear z0; have Hz1 := Lib.hid z1; clear z1; have Hz2 := Lib.hid z2; clear z2; have Hhbu := Lib.hid hbu; clear hbu
  refine wp_region_ord (fun W => Below w6.heap.size w6 W) [([0, 1], 2), ([3], 4), ([5], 6), ([], 7)] [8, 9, 10, 11, 12] none (by kernel_rfl) (by kernel_rfl) hI ?_
  refine OrdI_cons ?_
  (apply StI_plain (w0 := w6.drew) hI rfl rfl rfl rfl; (focus (intro W hW K hK; obtain ⟨_, _⟩ := bk (g + 1) hW z1l; obtain ⟨_, _⟩ := bk q hW z2l; go_step; exact hK)); (focus rfl)); (apply StI_plain (w0 := w6.drew) hI rfl rfl rfl rfl; (focus (intro W hW K hK; obtain ⟨_, _⟩ := bk (g + 1) hW z1l; obtain ⟨_, _⟩ := bk q hW z2l; go_step; exact hK)); (focus rfl))
  (apply StI_eff rfl; go_wp2_with (first | (go_at_call 8; refine (tspan_any _ _ _).mono ?_; rintro e w7 ⟨rfl, hb7⟩)))
  have hI7 : Below w6.heap.size w6 w7 := below_mid hI (Nat.le_refl _) hb7
  refine onNormal_mk hI7 (OrdI_cons ?_)
  (apply StI_plain (w0 := w7) hI7 rfl rfl rfl rfl; (focus (intro W hW K hK; skip; go_step; exact hK)); (focus rfl))
  (apply StI_eff rfl; go_wp2_with (first | (go_at_call 8; refine (tspan_any _ _ _).mono ?_; rintro e w8 ⟨rfl, hb8⟩)))
  have hI8 : Below w6.heap.size w6 w8 := below_mid hI7 (Nat.le_refl _) hb8
  refine onNormal_mk hI8 (OrdI_cons ?_)
  (apply StI_plain (w0 := w8) hI8 rfl rfl rfl rfl; (focus (intro W hW K hK; skip; go_step; exact hK)); (focus rfl))
  (apply StI_eff rfl; go_wp2_with (first | fail))
  have hI9 : Below w6.heap.size w6 (w8.alloc (.cells #[.int .i64 100, .int .i64 100, .int .i64 16, .int .i64 0, .int .i64 0, .int .i64 9000, .int .i64 9000, .int .i64 16, .int .i64 0, .int .i64 0] 67)) := hI8.alloc hI8.size _
  have hgw9 := heap_alloc_at w8 (.cells #[.int .i64 100, .int .i64 100, .int .i64 16, .int .i64 0, .int .i64 0, .int .i64 9000, .int .i64 9000, .int .i64 16, .int .i64 0, .int .i64 0] 67)
  obtain ⟨gw, hgwe⟩ : ∃ g, w8.heap.size = g := ⟨_, rfl⟩
  rw [hgwe] at hgw9 ⊢
  generalize w8.alloc (.cells #[.int .i64 100, .int .i64 100, .int .i64 16, .int .i64 0, .int .i64 0, .int .i64 9000, .int .i64 9000, .int .i64 16, .int .i64 0, .int .i64 0] 67) = w9 at hI9 hgw9 ⊢
  refine onNormal_mk hI9 (OrdI_cons ?_)
  (apply StI_eff rfl; go_wp2_with (first | (go_at_call 15; refine Calls.mono (wks_breach g gw _ (heap_below hI9 Hz0.out) hgw9) ?_; rintro e w10 ⟨v, rfl, hrow, hb10⟩)))
  have hI10 : Below w6.heap.size w6 w10 := below_mid hI9 (Nat.le_refl _) hb10
  refine onNormal_mk hI10 (OrdI_fin ?_)
  (apply StI_plain (w0 := w10) hI10 rfl rfl rfl rfl; (focus (intro W hW K hK; skip; go_step; exact hK)); (focus rfl)); (apply StI_plain (w0 := w10) hI10 rfl rfl rfl rfl; (focus (intro W hW K hK; skip; go_step; exact hK)); (focus rfl)); (apply StI_plain (w0 := w10) hI10 rfl rfl rfl rfl; (focus (intro W hW K hK; skip; go_step; exact hK)); (focus rfl)); (apply StI_plain (w0 := w10) hI10 rfl rfl rfl rfl; (focus (intro W hW K hK; skip; go_step; exact hK)); (focus rfl)); (apply StI_plain (w0 := w10) hI10 rfl rfl rfl rfl; (focus (intro W hW K hK; skip; go_step; exact hK)); (focus rfl))
  refine StI_nil ?_
  have hbt := bl_step Hhbu.out hI10
  obtain ⟨a, c, rfl, hSl⟩ := sl_spans (ws := [(0, 1), (141, 199)]) hrow (by decide)
  obtain ⟨b0, o0, rfl, hbl0, e00, e01⟩ := hSl.2 0 (by decide)
  obtain ⟨b1, o1, ha1, hbl1, e10, e11⟩ := hSl.2 1 (by decide)
  simp only [Option.some.injEq, Addr.mk.injEq, and_true] at ha1
  obtain ⟨rfl, rfl⟩ := ha1
  have hhold := hold_ok wksS wks_secok 0 [(0, 1), (141, 199)] (some ⟨b0, o0, none⟩) c
  clear hI hI7 hI8 hI9 hI10 hb7 hb8 hb10 hgw9 hgwe hrow z1c z1l z2c z2l Hz0 Hz1 Hz2 Hhbu
  have Hhbt := Lib.hid hbt; clear hbt; have HhSl := Lib.hid hSl; clear hSl; have Hhhold := Lib.hid hhold; clear hhold
  go_wp2_with fail
  refine (tspan_any _ _ _).mono ?_
  rintro e w11 ⟨rfl, hb11⟩
  go_wp2_with fail
  refine (tspan_any _ _ _).mono ?_
  rintro e w12 ⟨rfl, hb12⟩
  have hb13 := bl_step hb11 hb12
  have hS := HhSl.out.below (ek_span _) hb13
  have hbs := bl_step Hhbt.out hb13
  have hho := Hhhold.out w10.heap.size w12 hS hb13.size wks_spans (by decide)
  rw [wks_hold.1, wks_hold.2] at hho
  clear hb11 hb12 hb13 hS HhSl Hhhold Hhbt e00 e01 e10 e11
  have Hhbs := Lib.hid hbs; clear hbs; have Hhho := Lib.hid hho; clear hho
  go_wp2_with fail
  refine Calls.mono Hhho.out ?_
  rintro e w14 ⟨vc, vs, rfl, hr1, hr2, hb14⟩
  obtain ⟨a1, c1, rfl⟩ := row_len hr1
  obtain ⟨a2, c2, rfl⟩ := row_len hr2
  have hbf := bl_step Hhbs.out hb14
  clear hr1 hr2 hb14 Hhho Hhbs
  have Hhbf := Lib.hid hbf; clear hbf
  go_wp2_with fail
  go_ret
  exact ⟨rfl, bl_alloc Hhbf.out _⟩
end Go.Proofs.Ytfbmjecikilghaa
namespace Go.Proofs.Ytfbmjecikilghaa
open Go.RowKit Go.Shelf

/-! Grids whose rows are cells. -/
def RowC (g : Nat) (o : Obj) (l : List (Int × Int)) : Prop := RowAt g o l ∧ ∃ cs, o = .cells cs 46 (0, 0)
theorem shore_rowC {w w' : World} {v : Value} {l : List (Int × Int)} {N : Nat} (hl : l.length = N) (h0 : 0 < N) (h1 : N ≤ 1000) (h : w'.ownsRow w.heap.size 46 2 v l.length (wcells l)) :
    ∃ g c o, v = .slice (some ⟨g, 0, none⟩) N c ∧ w.heap.size ≤ g ∧ w'.heap[g]? = some o ∧ RowC g o l := by
  obtain ⟨a, cap, rfl, hS⟩ := sl_spans h (by omega)
  rcases h.2 with ⟨_, h0'⟩ | ⟨g, cap', cur, hv, hb, hg, _⟩
  · omega
  · simp only [Value.slice.injEq] at hv
    obtain ⟨rfl, _, rfl⟩ := hv
    rw [hl]
    exact ⟨g, cap, _, rfl, hb, hg, rowAt_of hg hS, cur, rfl⟩
theorem known_rowC (B : Nat) (w : World) (s : ShoreL) (al am aw : Option Addr) (cl cm cw : Nat) (hs : s.ok) (hM : ShoreW B w s al am aw) (hB : B ≤ w.heap.size) (N : Nat) (hN : s.wd * s.ht = N) :
    Calls Try.prog 6 #[.agg #[.int .u8 s.wide, .int .u8 s.high, .slice al s.low.length cl, .slice am s.more.length cm, .slice aw s.where_.length cw]] w fun e w' => ∃ g c o, e = .returned (.agg #[.int .i64 s.wd, .int .i64 s.ht, .int .i64 500, .slice (some ⟨g, 0, none⟩) N c]) ∧ w.heap.size ≤ g ∧ w'.heap[g]? = some o ∧ RowC g o s.known ∧ Below w.heap.size w w' := by
  obtain ⟨d1, d2, d3, d4⟩ := s.dims hs
  have hp : 0 < N := by rw [← hN]; exact Nat.mul_pos d1 d3
  have hq : N ≤ 16 := by rw [← hN]; exact Nat.mul_le_mul d2 d4
  refine Calls.mono (known_ok B w s al am aw cl cm cw hs hM hB) ?_
  rintro e w' ⟨v, rfl, hr, hb⟩
  obtain ⟨g, c, o, rfl, h1, h2, h3⟩ := shore_rowC (s.known_len.trans hN) hp (by omega) hr
  exact ⟨g, c, o, rfl, h1, h2, h3, hb⟩
theorem truth_rowC (B : Nat) (w : World) (s : ShoreL) (al am aw : Option Addr) (cl cm cw : Nat) (hs : s.ok) (hM : ShoreW B w s al am aw) (hB : B ≤ w.heap.size) (N : Nat) (hN : s.wd * s.ht = N) :
    Calls Try.prog 7 #[.agg #[.int .u8 s.wide, .int .u8 s.high, .slice al s.low.length cl, .slice am s.more.length cm, .slice aw s.where_.length cw]] w fun e w' => ∃ g c o, e = .returned (.agg #[.int .i64 s.wd, .int .i64 s.ht, .int .i64 500, .slice (some ⟨g, 0, none⟩) N c]) ∧ w.heap.size ≤ g ∧ w'.heap[g]? = some o ∧ RowC g o s.truth ∧ Below w.heap.size w w' := by
  obtain ⟨d1, d2, d3, d4⟩ := s.dims hs
  have hp : 0 < N := by rw [← hN]; exact Nat.mul_pos d1 d3
  have hq : N ≤ 16 := by rw [← hN]; exact Nat.mul_le_mul d2 d4
  refine Calls.mono (truth_ok B w s al am aw cl cm cw hs hM hB) ?_
  rintro e w' ⟨v, rfl, hr, hb⟩
  obtain ⟨g, c, o, rfl, h1, h2, h3⟩ := shore_rowC (s.truth_len.trans hN) hp (by omega) hr
  exact ⟨g, c, o, rfl, h1, h2, h3, hb⟩
def GridsC (s : ShoreL) (N : Nat) (wd : World) (v3 v4 : Value) (wx : World) : Prop :=
  ∃ p q g3 c3 g4 c4 o3 o4, v3 = .pointer (some ⟨p, 0, none⟩) ∧ v4 = .pointer (some ⟨q, 0, none⟩) ∧ RowC g3 o3 s.known ∧ RowC g4 o4 s.truth ∧ GS wd wx p q g3 g4 (gridV s g3 N c3) (gridV s g4 N c4) o3 o4 ∧ g3 ≠ g4 ∧ wd.heap.size ≤ g4

/-- What is laid out ahead of the winds. -/
structure BM (w : World) (bx P Q : Array Value) (p3 p4 g3 g4 p5 : Nat) (k3 k4 : Array Value) (cnt : Int) (W : World) : Prop where
  box : W.heap[w.heap.size]? = some (.cells bx 60 (0, 0))
  hp : W.heap[p3]? = some (.cells P 36 (0, 0))
  hq : W.heap[p4]? = some (.cells Q 36 (0, 0))
  hk : W.heap[g3]? = some (.cells k3 46 (0, 0))
  ht : W.heap[g4]? = some (.cells k4 46 (0, 0))
  cn : W.heap[p5]? = some (.cells #[.int .i64 cnt] 3 (0, 0))
  lt5 : w.heap.size < p5
  below : Below w.heap.size w W
theorem BM.step {w : World} {bx P Q : Array Value} {p3 p4 g3 g4 p5 : Nat} {k3 k4 : Array Value} {cnt : Int} {W W' : World} (h : BM w bx P Q p3 p4 g3 g4 p5 k3 k4 cnt W) (hb : Below W.heap.size W W') : BM w bx P Q p3 p4 g3 g4 p5 k3 k4 cnt W' :=
  ⟨heap_below hb h.box, heap_below hb h.hp, heap_below hb h.hq, heap_below hb h.hk, heap_below hb h.ht, heap_below hb h.cn, h.lt5, bl_step h.below hb⟩
theorem keeps_other {p5 : Nat} {W W' : World} {n : Int} (hk : Keeps [p5] W W') (hc : W.heap[p5]? = some (.cells #[.int .i64 n] 3 (0, 0))) {q : Nat} {cs : Array Value} {t : TypeId} (h : W.heap[q]? = some (.cells cs t (0, 0))) (ht : t ≠ 3) : W'.heap[q]? = some (.cells cs t (0, 0)) :=
  hk.heap h (by
    intro hm
    have e : q = p5 := by simpa using hm
    rw [e, hc] at h
    cases h
    exact ht rfl)
theorem BM.keeps {w : World} {bx P Q : Array Value} {p3 p4 g3 g4 p5 : Nat} {k3 k4 : Array Value} {cnt n : Int} {W W' : World} (h : BM w bx P Q p3 p4 g3 g4 p5 k3 k4 cnt W) (hk : Keeps [p5] W W') (hc : W'.heap[p5]? = some (.cells #[.int .i64 n] 3 (0, 0))) : BM w bx P Q p3 p4 g3 g4 p5 k3 k4 n W' :=
  ⟨keeps_other hk h.cn h.box (by decide), keeps_other hk h.cn h.hp (by decide), keeps_other hk h.cn h.hq (by decide), keeps_other hk h.cn h.hk (by decide), keeps_other hk h.cn h.ht (by decide), hc, h.lt5,
    h.below.trans (hk.below h.below.size (by have := h.lt5; simp; omega))⟩
theorem BM.row {w : World} {bx P Q : Array Value} {p3 p4 g3 g4 p5 : Nat} {k3 k4 : Array Value} {cnt : Int} {W W' : World} (h : BM w bx P Q p3 p4 g3 g4 p5 k3 k4 cnt W) (hk : Keeps [p5] W W') {base size n : Nat} {e : TypeId} {v : Value} {xs : List Value} (hr : W.ownsRow base e size v n xs) (he : e ≠ 3) : W'.ownsRow base e size v n xs := by
  refine row_sameS hr fun g hg => hk.block g (hr.lt g hg).2 ?_
  intro hm
  have hgp : g = p5 := by simpa using hm
  subst hgp
  exact cells_not_row h.cn (Ne.symm he) hr hg

/-- A row of another type written keeps all this. -/
theorem brow {w : World} {bx P Q : Array Value} {p3 p4 g3 g4 p5 : Nat} {k3 k4 : Array Value} {cnt : Int} {W : World} (h : BM w bx P Q p3 p4 g3 g4 p5 k3 k4 cnt W) {q : Nat} {cs : Array Value} {t : TypeId} (hq : W.heap[q]? = some (.cells cs t (0, 0)))
    (ht : t ≠ 60 ∧ t ≠ 36 ∧ t ≠ 46 ∧ t ≠ 3) (hn : w.heap.size ≤ q) (vals : Array Value) : BM w bx P Q p3 p4 g3 g4 p5 k3 k4 cnt (W.setRow q vals) := by
  have o : ∀ {b : Nat} {c : Array Value} {u : TypeId}, W.heap[b]? = some (.cells c u (0, 0)) → t ≠ u → (W.setRow q vals).heap[b]? = some (.cells c u (0, 0)) := fun {b c u} hb hne =>
    (setRow_other _ _ _ _ (fun e => by rw [e, hq] at hb; cases hb; exact hne rfl)).trans hb
  exact ⟨o h.box ht.1, o h.hp ht.2.1, o h.hq ht.2.1, o h.hk ht.2.2.1, o h.ht ht.2.2.1, o h.cn ht.2.2.2, h.lt5, below_setRow h.below hn vals⟩

/-! Winds that are drawn. -/
def U8E (w : World) (b o : Nat) (x : U3) : Prop := w.cell? ⟨b, o, none⟩ = some (.int .u8 x.a) ∧ w.cell? ⟨b, o + 1, none⟩ = some (.int .u8 x.b) ∧ w.cell? ⟨b, o + 2, none⟩ = some (.int .u8 x.c)
theorem ek_u8 (B : Nat) : EK B U8E := fun _ _ _ _ _ hB hb ⟨h0, h1, h2⟩ => ⟨ek_cell hB hb h0, ek_cell hB hb h1, ek_cell hB hb h2⟩
def windOf (x : U3) : WindS := ⟨(x.a * 20, x.a * 20 + x.b * 8), max 1 x.c, (0, x.b * 10)⟩
theorem windOf_ok {x : U3} (h : x.ok 256) : (windOf x).ok := by
  obtain ⟨h0, h1, h2, h3, h4, h5⟩ := h
  constructor <;> simp only [windOf] <;> omega
def vcells (l : List WindS) : List Value := l.flatMap fun x => [.int .i64 x.speed.1, .int .i64 x.speed.2, .int .i64 x.dirs, .int .i64 x.low.1, .int .i64 x.low.2]
theorem vcells_snoc (f : List WindS) (x : WindS) : vcells (f ++ [x]) = vcells f ++ [.int .i64 x.speed.1, .int .i64 x.speed.2, .int .i64 x.dirs, .int .i64 x.low.1, .int .i64 x.low.2] := by simp [vcells]
theorem vcells_get (l : List WindS) (k : Nat) (h : k < l.length) : (vcells l)[k * 5]? = some (.int .i64 l[k].speed.1) ∧ (vcells l)[k * 5 + 1]? = some (.int .i64 l[k].speed.2) ∧ (vcells l)[k * 5 + 2]? = some (.int .i64 l[k].dirs) ∧ (vcells l)[k * 5 + 3]? = some (.int .i64 l[k].low.1) ∧ (vcells l)[k * 5 + 4]? = some (.int .i64 l[k].low.2) := by
  induction l generalizing k with
  | nil => simp at h
  | cons u l ih =>
    have hw : vcells (u :: l) = .int .i64 u.speed.1 :: .int .i64 u.speed.2 :: .int .i64 u.dirs :: .int .i64 u.low.1 :: .int .i64 u.low.2 :: vcells l := by simp [vcells]
    cases k with
    | zero => rw [hw]; exact ⟨rfl, rfl, rfl, rfl, rfl⟩
    | succ k =>
      have := ih k (by simpa using h)
      rw [hw, show (k + 1) * 5 = k * 5 + 1 + 1 + 1 + 1 + 1 from by omega]
      simpa using this
theorem sl_winds {w : World} {base : Nat} {v : Value} {ws : List WindS} (h : w.ownsRow base 67 5 v ws.length (vcells ws)) (hn : ws.length ≤ 1000) : ∃ a cap, v = .slice a ws.length cap ∧ Sl WindE 5 w.heap.size w a ws := by
  by_cases h0 : ws.length = 0
  · obtain ⟨a, cap, hv⟩ := row_len h
    exact ⟨a, cap, hv, by omega, fun k hk => by omega⟩
  · obtain ⟨g, cap, hv, hb, hg⟩ := row_form' h (by omega)
    subst hv
    refine ⟨_, cap, rfl, by omega, fun k hk => ⟨g, 0, rfl, hg, ?_⟩⟩
    obtain ⟨e0, e1, e2, e3, e4⟩ := vcells_get ws k hk
    have c0 := (h.cellAt (k * 5) (by omega)).trans e0
    have c1 := (h.cellAt (k * 5 + 1) (by omega)).trans e1
    have c2 := (h.cellAt (k * 5 + 2) (by omega)).trans e2
    have c3 := (h.cellAt (k * 5 + 3) (by omega)).trans e3
    have c4 := (h.cellAt (k * 5 + 4) (by omega)).trans e4
    unfold WindE
    rw [Nat.zero_add]
    exact ⟨c0, c1, c2, c3, c4⟩
theorem two_snoc {α β : Type} {R : α → β → Prop} {a : α} {b : β} : ∀ {l : List α} {l' : List β}, Two R l l' → R a b → Two R (l ++ [a]) (l' ++ [b])
  | _, _, .nil, h => .cons h .nil
  | _, _, .cons h0 h1, h => .cons h0 (two_snoc h1 h)
theorem two_len {α β : Type} {R : α → β → Prop} : ∀ {l : List α} {l' : List β}, Two R l l' → l.length = l'.length
  | _, _, .nil => rfl
  | _, _, .cons _ h => by simp [two_len h]
theorem two_map {α β γ δ : Type} {R : α → β → Prop} {S : γ → δ → Prop} {f : α → γ} {g : β → δ} (hf : ∀ a b, R a b → S (f a) (g b)) : ∀ {l : List α} {l' : List β}, Two R l l' → Two S (l.map f) (l'.map g)
  | _, _, .nil => .nil
  | _, _, .cons h0 h1 => .cons (hf _ _ h0) (two_map hf h1)
theorem two_at {l l' : List Sp} (h : Two sub l l') : ∀ k : Nat, k < l'.length → sub (l.getD k (0, 0)) (l'.getD k (0, 0)) := by
  induction h with
  | nil => intro k hk; simp at hk
  | cons h0 h1 ih =>
    intro k hk
    cases k with
    | zero => simpa using h0
    | succ k => simpa using ih k (by simpa using hk)
theorem two_lev {l l' : List Sp} (h : Two sub l l') (hl : l'.all levB = true) : l.all levB = true := by
  induction h with
  | nil => rfl
  | cons h0 h1 ih =>
    simp only [List.all_cons, Bool.and_eq_true] at hl ⊢
    refine ⟨?_, ih hl.2⟩
    have := hl.1
    obtain ⟨s1, s2, s3⟩ := h0
    simp only [levB, Bool.and_eq_true, decide_eq_true_eq] at this ⊢
    omega
def WindI (w w1 : World) (bx P Q : Array Value) (p3 p4 g3 g4 p5 : Nat) (k3 k4 : Array Value) (q7 q8 : Nat) (m7 m8 : Array Value) (ws : List U3) (l1 l2 i : Value) (W : World) : Prop :=
  ∃ (k : Nat) (v1 v2 : Value) (cnt : Int) (tl : List WindS), k ≤ ws.length ∧ v1 = l1 ∧ v2 = l2 ∧ i = .int .i64 k ∧ 0 ≤ cnt ∧ cnt ≤ 2 + k ∧ BM w bx P Q p3 p4 g3 g4 p5 k3 k4 cnt W ∧ W.heap[q7]? = some (.cells m7 63 (0, 0)) ∧ W.heap[q8]? = some (.cells m8 63 (0, 0)) ∧
    W.ownsRow w1.heap.size 67 5 v1 k (vcells ((ws.take k).map windOf)) ∧ W.ownsRow w1.heap.size 67 5 v2 k (vcells tl) ∧ (∀ g, v1.ownBlock = some g → v2.ownBlock ≠ some g) ∧ tl.length = k ∧ (∀ x ∈ tl, x.ok) ∧ Two WindIn tl ((ws.take k).map windOf) ∧ w1.heap.size ≤ W.heap.size

/-! The plain law of the floods. -/
theorem breach_floods {W H : Nat} {sea : List Nat} {grR grT : List Sp} (hs : ∀ c ∈ sea, c < W * H) (hg : ∀ c, c < W * H → loOf grR c ≤ loOf grT c ∧ loOf grT c ≤ hiOf grT c ∧ hiOf grT c ≤ hiOf grR c ∧ hiOf grR c ≤ 1200000)
    {loR hiR loT hiT : List Int} (h1 : SillOk W H sea (loOf grR) loR) (h2 : SillOk W H sea (hiOf grR) hiR) (h3 : SillOk W H sea (loOf grT) loT) (h4 : SillOk W H sea (hiOf grT) hiT) {l0 l1 t0 t1 : Int} (ht : sub (t0, t1) (l0, l1)) {c : Nat} (hc : c < W * H) :
    (hiR.getD c 0 < l0 → hiT.getD c 0 < t0) ∧ (hiT.getD c 0 < t0 → loT.getD c 0 < t1) ∧ (loT.getD c 0 < t1 → loR.getD c 0 < l1) := by
  have a1 := h4.mono h2 (fun d hd => (hg d hd).2.2.1) (fun d hd => (hg d hd).2.2.2) hs hc
  have a2 := h3.mono h4 (fun d hd => (hg d hd).2.1) (fun d hd => by have := hg d hd; omega) hs hc
  have a3 := h1.mono h3 (fun d hd => (hg d hd).1) (fun d hd => by have := hg d hd; omega) hs hc
  obtain ⟨b1, b2, b3⟩ := ht
  simp only at b1 b2 b3
  omega
/-- A row with one span written. -/
theorem rowAt_set {g : Nat} {cs : Array Value} {f : Nat × Nat} {gr : List Sp} (h : RowAt g (.cells cs 46 f) gr) {w : World} (hw : w.heap[g]? = some (.cells cs 46 f)) {c : Nat} (hc : c < gr.length) (a b : Int) :
    RowAt g (.cells ((cs.setIfInBounds (c * 2) (.int .i64 a)).setIfInBounds (c * 2 + 1) (.int .i64 b)) 46 f) (gr.set c (a, b)) := by
  have h0 := h w hw
  have hcs := cells_of hw
  have key : ∀ k (hk : k < gr.length), cs[k * 2]? = some (.int .i64 gr[k].1) ∧ cs[k * 2 + 1]? = some (.int .i64 gr[k].2) := by
    intro k hk
    obtain ⟨b', off, ha, _, e0, e1⟩ := h0.2 k hk
    simp only [Option.some.injEq, Addr.mk.injEq, and_true] at ha
    obtain ⟨rfl, rfl⟩ := ha
    rw [Nat.zero_add, hcs] at e0 e1
    exact ⟨e0, e1⟩
  intro W hW
  have hWc := cells_of hW
  refine ⟨by rw [List.length_set]; exact h0.1, fun k hk => ⟨g, 0, rfl, Nat.lt_succ_self g, ?_⟩⟩
  have hk' : k < gr.length := by simpa using hk
  obtain ⟨e0, e1⟩ := key k hk'
  obtain ⟨d0, d1⟩ := key c hc
  have s0 : c * 2 < cs.size := (Array.getElem?_eq_some_iff.1 d0).1
  have s1 : c * 2 + 1 < cs.size := (Array.getElem?_eq_some_iff.1 d1).1
  rw [List.getElem_set]
  unfold SpanE
  rw [Nat.zero_add, hWc, hWc]
  by_cases hck : c = k
  · subst hck
    rw [if_pos rfl]
    constructor
    · rw [Array.getElem?_setIfInBounds_ne (by omega), Array.getElem?_setIfInBounds_self_of_lt s0]
    · rw [Array.getElem?_setIfInBounds_self_of_lt (by simpa using s1)]
  · rw [if_neg hck]
    constructor
    · rw [Array.getElem?_setIfInBounds_ne (by omega), Array.getElem?_setIfInBounds_ne (by omega)]; exact e0
    · rw [Array.getElem?_setIfInBounds_ne (by omega), Array.getElem?_setIfInBounds_ne (by omega)]; exact e1
end Go.Proofs.Ytfbmjecikilghaa
namespace Go.Proofs.Ytfbmjecikilghaa
open Go.RowKit Go.Shelf

theorem info67 : (Try.prog.info? 67).map (fun i => (i.zero, i.size, i.bytes)) = some (some (.agg #[.int .i64 0, .int .i64 0, .int .i64 0, .int .i64 0, .int .i64 0]), 5, 40) := by kernel_rfl
theorem news5 (w : World) (q : Nat) (a b c d e : Value) (t : TypeId) (hq : w.heap[q]? = some (.cells #[a, b, c, d, e] t (0, 0))) : ∀ j u, [a, b, c, d, e][j]? = some u → w.cell? ((⟨q, 0, none⟩ : Addr).add j) = some u := by
  intro j u hj
  have hc := cells_of hq
  rcases j with _ | _ | _ | _ | _ | j
  · exact (hc 0).trans hj
  · exact (hc 1).trans hj
  · exact (hc 2).trans hj
  · exact (hc 3).trans hj
  · exact (hc 4).trans hj
  · simp at hj
theorem BM.grown {w w5 : World} {bx P Q : Array Value} {p3 p4 g3 g4 p5 : Nat} {k3 k4 : Array Value} {c0 cnt : Int} {W W' : World} (h0 : BM w bx P Q p3 p4 g3 g4 p5 k3 k4 c0 w5) (h : BM w bx P Q p3 p4 g3 g4 p5 k3 k4 cnt W) {row : Option Nat} (hg : W.grownBy W' row) (hr : ∀ r, row = some r → w5.heap.size ≤ r) : BM w bx P Q p3 p4 g3 g4 p5 k3 k4 cnt W' := by
  have o : ∀ {b : Nat} {x y : Obj}, w5.heap[b]? = some y → W.heap[b]? = some x → W'.heap[b]? = some x := fun {b x y} h1 h2 => (hg.block b (lt_of_heap h2) (fun e => by have := hr b e.symm; have := lt_of_heap h1; omega)).trans h2
  refine ⟨o h0.box h.box, o h0.hp h.hp, o h0.hq h.hq, o h0.hk h.hk, o h0.ht h.ht, o h0.cn h.cn, h.lt5, h.below.grown hg h.below.size (fun k hk => ?_)⟩
  have := hr k hk
  have := h0.below.size
  omega

def WBox (qa qb : Nat) (ca cb : Array Value) (V : World) : Prop := V.heap[qa]? = some (.cells ca 67 (0, 0)) ∧ V.heap[qb]? = some (.cells cb 67 (0, 0))
theorem wind_all {tl : List WindS} {A0 A1 D L vv : Int} (hok : ∀ x ∈ tl, x.ok) (hw : WindS.ok ⟨(A0, A1), D, (0, L)⟩) (vlo : A0 ≤ vv) (vhi : vv ≤ A1) : ∀ x ∈ tl ++ [⟨(vv, vv), D, (0, L)⟩], x.ok := by
  intro y hy
  rcases List.mem_append.1 hy with hy | hy
  · exact hok y hy
  · have e : y = ⟨(vv, vv), D, (0, L)⟩ := by simpa using hy
    subst e
    have k1 := hw.v0
    have k2 := hw.v1
    simp only at k1 k2
    exact ⟨Int.le_refl _, by simp only; omega, by simp only; omega, hw.d0, hw.d1, hw.p, hw.p0, hw.p1⟩
/-- A new slice of one wind. -/
theorem wind_build {ops : Array Oper} {e : Nat} {o : Oper} {a : Act} {w : World} {K : Act → World → Prop} (ho : ops[e]? = some o) (hg : o.guard = none) (x : Operand) (hop : o.op = .buildSlice 64 1 #[(0, x)]) (d : Option Tmp) (hd : o.dst = d) (v0 v1 v2 v3 v4 : Int)
    (hp : a.eval x = .agg #[.int .i64 v0, .int .i64 v1, .int .i64 v2, .int .i64 v3, .int .i64 v4]) {a' : Act} (ha : a.put d (.slice (some ⟨w.heap.size, 0, none⟩) 1 1) = a') (h : K a' (w.alloc (.cells #[.int .i64 v0, .int .i64 v1, .int .i64 v2, .int .i64 v3, .int .i64 v4] 67))) : wpOp Try.prog ops NoExit e K a w := by
  obtain ⟨i0, hinf, hz0, hz1, _⟩ := info_parts info67
  subst hd ha
  refine wpOp_eff ho (wpList_buildSlice hg 64 67 1 _ hop #[.int .i64 v0, .int .i64 v1, .int .i64 v2, .int .i64 v3, .int .i64 v4] i0 _ Try.underlying64 hinf hz0 (by rw [hz1]; decide) (by rw [hz1]; decide) ?_ (wpList_nil ?_))
  · rw [hz1]
    simp only [List.map_toArray, List.map_cons, List.map_nil, hp]
    kernel_rfl
  · exact h
set_option maxRecDepth 100000 in
/-- One wind more. -/
theorem wind_append {ops : Array Oper} {e : Nat} {o : Oper} {a : Act} {w : World} {K : Act → World → Prop} (ho : ops[e]? = some o) (hg : o.guard = none) (x y : Operand) (hop : o.op = .call { callee := .builtin .append, args := #[x, y], argTypes := #[64, 64] }) (d : Option Tmp) (hd : o.dst = d)
    (base : Nat) (v : Value) (n : Nat) (xs : List Value) (hx : a.eval x = v) (hown : w.ownsRow base 67 5 v n xs) (q c : Nat) (hy : a.eval y = .slice (some ⟨q, 0, none⟩) 1 c) (v0 v1 v2 v3 v4 : Int) (hq : w.heap[q]? = some (.cells #[.int .i64 v0, .int .i64 v1, .int .i64 v2, .int .i64 v3, .int .i64 v4] 67 (0, 0)))
    (hn : n ≤ 1000) (hbase : base ≤ w.heap.size) {a' : Value → Act} (ha : ∀ u, a.put d u = a' u)
    (h : ∀ g' c' w', w'.ownsRow base 67 5 (.slice (some ⟨g', 0, none⟩) (n + 1) c') (n + 1) (xs ++ [.int .i64 v0, .int .i64 v1, .int .i64 v2, .int .i64 v3, .int .i64 v4]) → w.grownBy w' v.ownBlock →
      ((Value.slice (some ⟨g', 0, none⟩) (n + 1) c').ownBlock = v.ownBlock ∨ (Value.slice (some ⟨g', 0, none⟩) (n + 1) c').ownBlock = some w.heap.size) → K (a' (.slice (some ⟨g', 0, none⟩) (n + 1) c')) w') : wpOp Try.prog ops NoExit e K a w := by
  obtain ⟨i0, hinf, hz0, hz1, hz2⟩ := info_parts info67
  subst hd
  refine wpOp_eff ho (wpList_append_own_at w hg x y 64 hop base 67 i0 _ 5 40 Try.underlying64 hinf hz0 hz1 hz2 rfl (by decide) v n xs hx hown ⟨q, 0, none⟩ 1 c [.int .i64 v0, .int .i64 v1, .int .i64 v2, .int .i64 v3, .int .i64 v4] hy rfl (news5 _ _ _ _ _ _ _ _ hq) (by simp [Value.oneCell']) (by unfold maxLen; omega) (by omega) hbase ?_)
  intro v' w' hown' hgrow _ hloc
  obtain ⟨g', c', rfl⟩ := ownsRow_succ hown'
  refine wpList_nil ?_
  rw [ha]
  exact h g' c' w' hown' hgrow hloc
/-- A cell of another type written keeps all this. -/
theorem bmset {w : World} {bx P Q : Array Value} {p3 p4 g3 g4 p5 : Nat} {k3 k4 : Array Value} {cnt : Int} {W : World} (h : BM w bx P Q p3 p4 g3 g4 p5 k3 k4 cnt W) {q : Nat} {cs : Array Value} {t : TypeId} (hq : W.heap[q]? = some (.cells cs t (0, 0)))
    (ht : t ≠ 60 ∧ t ≠ 36 ∧ t ≠ 46 ∧ t ≠ 3) (hn : w.heap.size ≤ q) (o : Nat) (v : Value) : BM w bx P Q p3 p4 g3 g4 p5 k3 k4 cnt (W.setCell ⟨q, o, none⟩ v) := by
  have f : ∀ {b : Nat} {c : Array Value} {u : TypeId}, W.heap[b]? = some (.cells c u (0, 0)) → t ≠ u → (W.setCell ⟨q, o, none⟩ v).heap[b]? = some (.cells c u (0, 0)) := fun {b c u} hb hne =>
    heap_setCell_off hb _ (fun e => by rw [e, hb] at hq; cases hq; exact hne rfl)
  exact ⟨f h.box ht.1, f h.hp ht.2.1, f h.hq ht.2.1, f h.hk ht.2.2.1, f h.ht ht.2.2.1, f h.cn ht.2.2.2, h.lt5, bl_setCell h.below _ _ hn⟩
theorem row_off {W : World} {base size n : Nat} {e : TypeId} {v : Value} {xs : List Value} (h : W.ownsRow base e size v n xs) {q : Nat} (hq : ∀ g, v.ownBlock = some g → g ≠ q) (o : Nat) (u : Value) : (W.setCell ⟨q, o, none⟩ u).ownsRow base e size v n xs :=
  row_sameS h fun g hg => Below.heap_setCell _ _ _ _ (hq g hg)

/-- Two rows, two boxes, and all that was laid out. -/
structure AppM (w w5 : World) (bx P Q : Array Value) (p3 p4 g3 g4 p5 : Nat) (k3 k4 : Array Value) (q7 q8 : Nat) (m7 m8 : Array Value) (qa qb : Nat) (ca cb : Array Value) (v1 v2 : Value) (n1 n2 : Nat) (xs1 xs2 : List Value) (cnt : Int) (W : World) : Prop where
  bm : BM w bx P Q p3 p4 g3 g4 p5 k3 k4 cnt W
  h7 : W.heap[q7]? = some (.cells m7 63 (0, 0))
  h8 : W.heap[q8]? = some (.cells m8 63 (0, 0))
  ha : W.heap[qa]? = some (.cells ca 67 (0, 0))
  hb : W.heap[qb]? = some (.cells cb 67 (0, 0))
  r1 : W.ownsRow w5.heap.size 67 5 v1 n1 xs1
  r2 : W.ownsRow w5.heap.size 67 5 v2 n2 xs2
  sep : ∀ g, v1.ownBlock = some g → v2.ownBlock ≠ some g
  s1 : ∀ g, v1.ownBlock = some g → g ≠ qa ∧ g ≠ qb
  s2 : ∀ g, v2.ownBlock = some g → g ≠ qa ∧ g ≠ qb
  sz : w5.heap.size ≤ W.heap.size
section
variable {w w5 : World} {bx P Q : Array Value} {p3 p4 g3 g4 p5 : Nat} {k3 k4 : Array Value} {q7 q8 : Nat} {m7 m8 : Array Value} {qa qb : Nat} {ca cb : Array Value} {v1 v2 : Value} {n1 n2 : Nat} {xs1 xs2 : List Value} {cnt c0 : Int} {W W' : World}
theorem AppM.alloc (h : AppM w w5 bx P Q p3 p4 g3 g4 p5 k3 k4 q7 q8 m7 m8 qa qb ca cb v1 v2 n1 n2 xs1 xs2 cnt W) (o : Obj) : AppM w w5 bx P Q p3 p4 g3 g4 p5 k3 k4 q7 q8 m7 m8 qa qb ca cb v1 v2 n1 n2 xs1 xs2 cnt (W.alloc o) :=
  ⟨h.bm.step (bl_alloc (Below.refl _ _) _), heap_alloc_off h.h7 _, heap_alloc_off h.h8 _, heap_alloc_off h.ha _, heap_alloc_off h.hb _, h.r1.alloc _, h.r2.alloc _, h.sep, h.s1, h.s2, by have := h.sz; simp; omega⟩
theorem AppM.drew (h : AppM w w5 bx P Q p3 p4 g3 g4 p5 k3 k4 q7 q8 m7 m8 qa qb ca cb v1 v2 n1 n2 xs1 xs2 cnt W) : AppM w w5 bx P Q p3 p4 g3 g4 p5 k3 k4 q7 q8 m7 m8 qa qb ca cb v1 v2 n1 n2 xs1 xs2 cnt W.drew :=
  ⟨h.bm.step (Below.refl _ _).drew, h.h7, h.h8, h.ha, h.hb, h.r1.drew, h.r2.drew, h.sep, h.s1, h.s2, h.sz⟩
theorem AppM.app1 (h : AppM w w5 bx P Q p3 p4 g3 g4 p5 k3 k4 q7 q8 m7 m8 qa qb ca cb v1 v2 n1 n2 xs1 xs2 cnt W) (h0 : BM w bx P Q p3 p4 g3 g4 p5 k3 k4 c0 w5) (l7 : q7 < w5.heap.size) (l8 : q8 < w5.heap.size) {v1' : Value} {n' : Nat} {xs' : List Value}
    (hg : W.grownBy W' v1.ownBlock) (hr : W'.ownsRow w5.heap.size 67 5 v1' n' xs') (hloc : v1'.ownBlock = v1.ownBlock ∨ v1'.ownBlock = some W.heap.size) : AppM w w5 bx P Q p3 p4 g3 g4 p5 k3 k4 q7 q8 m7 m8 qa qb ca cb v1' v2 n' n2 xs' xs2 cnt W' := by
  have hlo := fun r (e : v1.ownBlock = some r) => (h.r1.lt r e).1
  refine ⟨h0.grown h.bm hg hlo, (hg.block q7 (lt_of_heap h.h7) (fun e => by have := hlo q7 e.symm; omega)).trans h.h7, (hg.block q8 (lt_of_heap h.h8) (fun e => by have := hlo q8 e.symm; omega)).trans h.h8,
    (hg.block qa (lt_of_heap h.ha) (fun e => (h.s1 qa e.symm).1 rfl)).trans h.ha, (hg.block qb (lt_of_heap h.hb) (fun e => (h.s1 qb e.symm).2 rfl)).trans h.hb, hr, h.r2.kept hg (sep_l h.sep), fun g e e2 => ?_, fun g e => ?_, h.s2, Nat.le_trans h.sz hg.size⟩
  · rcases hloc with e1 | e1
    · exact h.sep g (e1 ▸ e) e2
    · rw [e1] at e
      have := (h.r2.lt g e2).2
      simp at e
      omega
  · rcases hloc with e1 | e1
    · exact h.s1 g (e1 ▸ e)
    · rw [e1] at e
      have := lt_of_heap h.ha
      have := lt_of_heap h.hb
      simp at e
      omega
theorem AppM.app2 (h : AppM w w5 bx P Q p3 p4 g3 g4 p5 k3 k4 q7 q8 m7 m8 qa qb ca cb v1 v2 n1 n2 xs1 xs2 cnt W) (h0 : BM w bx P Q p3 p4 g3 g4 p5 k3 k4 c0 w5) (l7 : q7 < w5.heap.size) (l8 : q8 < w5.heap.size) {v2' : Value} {n' : Nat} {xs' : List Value}
    (hg : W.grownBy W' v2.ownBlock) (hr : W'.ownsRow w5.heap.size 67 5 v2' n' xs') (hloc : v2'.ownBlock = v2.ownBlock ∨ v2'.ownBlock = some W.heap.size) : AppM w w5 bx P Q p3 p4 g3 g4 p5 k3 k4 q7 q8 m7 m8 qa qb ca cb v1 v2' n1 n' xs1 xs' cnt W' := by
  have hlo := fun r (e : v2.ownBlock = some r) => (h.r2.lt r e).1
  refine ⟨h0.grown h.bm hg hlo, (hg.block q7 (lt_of_heap h.h7) (fun e => by have := hlo q7 e.symm; omega)).trans h.h7, (hg.block q8 (lt_of_heap h.h8) (fun e => by have := hlo q8 e.symm; omega)).trans h.h8,
    (hg.block qa (lt_of_heap h.ha) (fun e => (h.s2 qa e.symm).1 rfl)).trans h.ha, (hg.block qb (lt_of_heap h.hb) (fun e => (h.s2 qb e.symm).2 rfl)).trans h.hb, h.r1.kept hg (sep_r h.sep), hr, fun g e e2 => ?_, h.s1, fun g e => ?_, Nat.le_trans h.sz hg.size⟩
  · rcases hloc with e1 | e1
    · exact h.sep g e (e1 ▸ e2)
    · rw [e1] at e2
      have := (h.r1.lt g e).2
      simp at e2
      omega
  · rcases hloc with e1 | e1
    · exact h.s2 g (e1 ▸ e)
    · rw [e1] at e
      have := lt_of_heap h.ha
      have := lt_of_heap h.hb
      simp at e
      omega
end
end Go.Proofs.Ytfbmjecikilghaa
namespace Go.Proofs.Ytfbmjecikilghaa
open Go.RowKit Go.Shelf

theorem span_rowC {w w' : World} {v : Value} {l : List (Int × Int)} {N : Nat} (hl : l.length = N) (h0 : 0 < N) (h1 : N ≤ 1000) (h : w'.ownsRow w.heap.size 46 2 v N (wcells l)) :
    ∃ g c k, v = .slice (some ⟨g, 0, none⟩) N c ∧ w.heap.size ≤ g ∧ w'.heap[g]? = some (.cells k 46 (0, 0)) ∧ RowAt g (.cells k 46 (0, 0)) l ∧ N ≤ c := by
  have h' := h
  rw [← hl] at h
  obtain ⟨g, c, o, hv, hb, hg, hR, k, rfl⟩ := shore_rowC hl h0 h1 h
  refine ⟨g, c, k, hv, hb, hg, hR, ?_⟩
  rcases h'.2 with ⟨_, h0'⟩ | ⟨g', cap', cur, hv', _, _, hcap, _⟩
  · omega
  · rw [hv] at hv'
    cases hv'
    exact hcap

/-- All that the truth and the floods read. -/
structure LM (w : World) (bx P Q : Array Value) (p3 p4 g3 g4 p5 : Nat) (k3 k4 : Array Value) (p23 p27 g5 gx gy : Nat) (sc rc k5 kx ky : Array Value) (cnt : Int) (W : World) : Prop where
  bm : BM w bx P Q p3 p4 g3 g4 p5 k3 k4 cnt W
  sec : W.heap[p23]? = some (.cells sc 71 (0, 0))
  rg : W.heap[p27]? = some (.cells rc 36 (0, 0))
  r5 : W.heap[g5]? = some (.cells k5 46 (0, 0))
  lx : W.heap[gx]? = some (.cells kx 46 (0, 0))
  ly : W.heap[gy]? = some (.cells ky 46 (0, 0))
section
variable {w : World} {bx P Q : Array Value} {p3 p4 g3 g4 p5 : Nat} {k3 k4 : Array Value} {p23 p27 g5 gx gy : Nat} {sc rc k5 kx ky : Array Value} {cnt n : Int} {W W' : World}
theorem LM.step (h : LM w bx P Q p3 p4 g3 g4 p5 k3 k4 p23 p27 g5 gx gy sc rc k5 kx ky cnt W) (hb : Below W.heap.size W W') : LM w bx P Q p3 p4 g3 g4 p5 k3 k4 p23 p27 g5 gx gy sc rc k5 kx ky cnt W' :=
  ⟨h.bm.step hb, heap_below hb h.sec, heap_below hb h.rg, heap_below hb h.r5, heap_below hb h.lx, heap_below hb h.ly⟩
theorem LM.keeps (h : LM w bx P Q p3 p4 g3 g4 p5 k3 k4 p23 p27 g5 gx gy sc rc k5 kx ky cnt W) (hk : Keeps [p5] W W') (hc : W'.heap[p5]? = some (.cells #[.int .i64 n] 3 (0, 0))) : LM w bx P Q p3 p4 g3 g4 p5 k3 k4 p23 p27 g5 gx gy sc rc k5 kx ky n W' :=
  ⟨h.bm.keeps hk hc, keeps_other hk h.bm.cn h.sec (by decide), keeps_other hk h.bm.cn h.rg (by decide), keeps_other hk h.bm.cn h.r5 (by decide), keeps_other hk h.bm.cn h.lx (by decide), keeps_other hk h.bm.cn h.ly (by decide)⟩
theorem LM.set4 (h : LM w bx P Q p3 p4 g3 g4 p5 k3 k4 p23 p27 g5 gx gy sc rc k5 kx ky cnt W) (n3 : g3 ≠ g4) (n5 : g5 ≠ g4) (nx : gx ≠ g4) (ny : gy ≠ g4) (hw : w.heap.size ≤ g4) (o : Nat) (v : Value) :
    LM w bx P Q p3 p4 g3 g4 p5 k3 (k4.setIfInBounds o v) p23 p27 g5 gx gy sc rc k5 kx ky cnt (W.setCell ⟨g4, o, none⟩ v) := by
  have f : ∀ {b : Nat} {c : Array Value} {u : TypeId}, W.heap[b]? = some (.cells c u (0, 0)) → u ≠ 46 → (W.setCell ⟨g4, o, none⟩ v).heap[b]? = some (.cells c u (0, 0)) := fun {b c u} hb hne =>
    heap_setCell_off hb _ (fun e => by have := h.bm.ht; rw [e, hb] at this; cases this; exact hne rfl)
  exact ⟨⟨f h.bm.box (by decide), f h.bm.hp (by decide), f h.bm.hq (by decide), heap_setCell_off h.bm.hk _ (Ne.symm n3), heap_setCell_at h.bm.ht _, f h.bm.cn (by decide), h.bm.lt5, bl_setCell h.bm.below _ _ hw⟩,
    f h.sec (by decide), f h.rg (by decide), heap_setCell_off h.r5 _ (Ne.symm n5), heap_setCell_off h.lx _ (Ne.symm nx), heap_setCell_off h.ly _ (Ne.symm ny)⟩
end
theorem crests_at (s : SecS) (l : List Sp) {n k : Nat} (h : k < n) : (crestsL s l n)[k]? = some ((holdAt s l k).weak.1, (holdAt s l k).strong.1) := by
  unfold crestsL
  rw [List.getElem?_map, List.getElem?_range h]
  rfl
theorem crests_len (s : SecS) (l : List Sp) (n : Nat) : (crestsL s l n).length = n := by simp [crestsL]
/-- Between two levels of the truth. -/
def TruI (w : World) (bx P Q : Array Value) (p3 p4 g3 g4 p5 : Nat) (k3 k4 : Array Value) (p23 p27 g5 gx gy : Nat) (sc rc k5 kx ky : Array Value) (S : SecS) (xs : List Sp) (at_ : Nat) (c t f i : Value) (W : World) : Prop :=
  ∃ (k : Nat) (cv tv cnt : Int) (fv : Bool), k ≤ at_ ∧ c = .int .i64 cv ∧ t = .int .i64 tv ∧ f = .bool fv ∧ i = .int .i64 k ∧ 0 ≤ cnt ∧ cnt ≤ 20 + 2 * k ∧ WallI S xs k cv tv fv ∧ LM w bx P Q p3 p4 g3 g4 p5 k3 k4 p23 p27 g5 gx gy sc rc k5 kx ky cnt W
theorem spans_ok {xs ys : List Sp} (h : Two sub ys xs) (hl : xs.all levB = true) : ∀ p ∈ xs, vldB p.1 p.2 (-20000) 20000 = true := by
  induction h with
  | nil => intro p hp; simp at hp
  | cons h0 h1 ih =>
    simp only [List.all_cons, Bool.and_eq_true] at hl
    intro p hp
    rcases List.mem_cons.1 hp with rfl | hp
    · have := hl.1
      obtain ⟨s1, s2, s3⟩ := h0
      simp only [levB, Bool.and_eq_true, decide_eq_true_eq] at this
      simp [vldB]
      omega
    · exact ih hl.2 p hp

/-- The truth is known better. -/
theorem shore_in {s : ShoreL} (hs : s.ok) {dr lg : Int} (dr0 : 2000 ≤ dr) (dr1 : dr ≤ 3000) (lg0 : 500 ≤ lg) (lg1 : lg ≤ 700) : (surOf s.wd s.ht 500 (-50) 50 dr 3000 lg 700 s.truth).In (surOf s.wd s.ht 500 (-50) 50 2000 3000 500 700 s.known) := by
  refine ⟨rfl, rfl, rfl, by show (0 : Int) ≤ 500; omega, fun c hc => ?_, rfl, by show (-50 : Int) ≤ 50; omega, ⟨dr0, Int.le_refl _, dr1⟩, by show (0 : Int) ≤ 2000; omega, ⟨lg0, Int.le_refl _, lg1⟩, by show (0 : Int) ≤ 500; omega, by show (700 : Int) ≤ 1024; omega⟩
  have hc' : c < s.wd * s.ht := hc
  have h1 := s.of_known hc'
  have h2 := s.of_truth hc'
  have h3 := s.pick_bd hs c
  unfold loOf hiOf at h1 h2
  show sub (s.truth.getD c (0, 0)) (s.known.getD c (0, 0))
  refine ⟨?_, ?_, ?_⟩
  · rw [h1.1, h2.1]; exact h3.1
  · rw [h1.2, h2.2]; exact h3.2
  · rw [h2.1, h2.2]; exact Int.le_refl _
theorem shore_plc {s : ShoreL} (hs : s.ok) {gr : List Sp} (hok : ∀ u ∈ gr, gok u) (hl : gr.length = s.wd * s.ht) {d0 l0 : Int} (hd : 0 ≤ d0 ∧ d0 ≤ 10000) (hl0 : 0 ≤ l0 ∧ l0 ≤ 1024) {g : Nat} {k : Array Value} (hR : RowAt g (.cells k 46 (0, 0)) gr) :
    PlcM s.wd s.ht 0 500 (-50) 50 d0 3000 l0 700 gr g k (0, 0) := by
  obtain ⟨e1, e2, e3, e4⟩ := s.dims hs
  exact ⟨e1, e2, e3, e4, Nat.mul_pos e1 e3, by omega, by omega, by omega, hd, by omega, hl0, by omega, hR, hok, hl⟩
theorem wall_yes {S : SecS} (hS : S.ok) {T W3 : Int} (hT : S.toe = T) (hW : S.wear = (0, W3)) {xs : List Sp} {k : Nat} {c t : Int} {f : Bool} (h : WallI S xs k c t f) {y v : Int} (y0 : (xs.getD k (0, 0)).1 ≤ y) (y1 : y ≤ (xs.getD k (0, 0)).2) (hy : T < y) (v0 : 0 ≤ v) (v1 : v ≤ W3) : WallI S xs (k + 1) (c - v) (t - v) (f || decide (c < y) || decide (t < y)) := by
  have := h.step hS y0 y1 (v := v) (fun _ => by rw [hW]; exact ⟨v0, v1⟩)
  rw [if_pos (by rw [hT]; exact hy), if_pos (by rw [hT]; exact hy)] at this
  exact this
theorem wall_no {S : SecS} (hS : S.ok) {T : Int} (hT : S.toe = T) {xs : List Sp} {k : Nat} {c t : Int} {f : Bool} (h : WallI S xs k c t f) {y : Int} (y0 : (xs.getD k (0, 0)).1 ≤ y) (y1 : y ≤ (xs.getD k (0, 0)).2) (hy : ¬ T < y) : WallI S xs (k + 1) c t (f || decide (c < y) || decide (t < y)) := by
  have := h.step hS y0 y1 (v := 0) (fun h => absurd (hT ▸ h) hy)
  rw [if_neg (by rw [hT]; exact hy), if_neg (by rw [hT]; exact hy)] at this
  exact this
/-- The ground with the section, ahead of a step. -/
def raisedG (s : ShoreL) (S : SecS) (xs : List Sp) (AT J may must : Int) : List Sp :=
  s.known.set J.toNat (raiseS AT may must ((holdAt S xs AT.toNat).weak.1, (holdAt S xs AT.toNat).strong.1) (s.known.getD J.toNat (0, 0)))
theorem spans_ord {xs : List Sp} (h : ∀ p ∈ xs, vldB p.1 p.2 (-20000) 20000 = true) : ∀ j, (xs.getD j (0, 0)).1 ≤ (xs.getD j (0, 0)).2 := fun j => by
  rw [List.getD_eq_getElem?_getD]
  by_cases hj : j < xs.length
  · have := h _ (List.getElem_mem hj)
    rw [List.getElem?_eq_getElem hj]
    simp only [vldB, Bool.and_eq_true, decide_eq_true_eq] at this
    exact this.1.1
  · rw [List.getElem?_eq_none (by omega)]; exact Int.le_refl _
theorem raisedG_len (s : ShoreL) (S : SecS) (xs : List Sp) (AT J may must : Int) : (raisedG s S xs AT J may must).length = s.wd * s.ht := by
  unfold raisedG
  rw [List.length_set, s.known_len]
theorem brc_raise (s : ShoreL) (hs : s.ok) (N n : Nat) (hN : s.wd * s.ht = N) (S : SecS) (hS : S.ok) (xs : List Sp) (hsp : ∀ p ∈ xs, vldB p.1 p.2 (-20000) 20000 = true) (J AT : Int) (J0 : 0 ≤ J) (J1 : J < N) (AT0 : 0 ≤ AT) (AT1 : AT < n) (hn8 : n ≤ 8) (g3 k3 gc cc ns cs5 : Nat) (kc3 kc : Array Value) (as5 : Option Addr)
    (hR3 : RowAt g3 (.cells kc3 46 (0, 0)) s.known) (hRc : RowAt gc (.cells kc 46 (0, 0)) (crestsL S xs (n + 1))) (may must : Int) (q r : Nat) (V : World) (h3 : V.heap[g3]? = some (.cells kc3 46 (0, 0))) (hc : V.heap[gc]? = some (.cells kc 46 (0, 0)))
    (hq : V.heap[q]? = some (.cells (secC J S) 71 (0, 0))) (hr : V.heap[r]? = some (.cells (fateC (some ⟨gc, 0, none⟩) (n + 1) cc as5 ns cs5 may must) 73 (0, 0))) :
    Calls Try.prog 17 #[.agg #[.int .i64 s.wd, .int .i64 s.ht, .int .i64 500, .slice (some ⟨g3, 0, none⟩) N k3], .slice (some ⟨q, 0, none⟩) 1 1, .slice (some ⟨r, 0, none⟩) 1 1, .int .i64 AT] V fun e w' =>
      ∃ g' cap', e = .returned (.tuple #[.agg #[.int .i64 s.wd, .int .i64 s.ht, .int .i64 500, .slice (some ⟨g', 0, none⟩) N cap'], .int .i64 0]) ∧
        w'.ownsRow V.heap.size 46 2 (.slice (some ⟨g', 0, none⟩) N cap') N (wcells (raisedG s S xs AT J may must)) ∧ Below V.heap.size V w' := by
  obtain ⟨d1, d2, d3, d4⟩ := s.dims hs
  obtain ⟨an, han⟩ : ∃ a : Nat, (a : Int) = AT := ⟨AT.toNat, by omega⟩
  obtain ⟨jn, hjn⟩ : ∃ a : Nat, (a : Int) = J := ⟨J.toNat, by omega⟩
  have hann : an < n := by omega
  have hkl : s.known.length = N := s.known_len.trans hN
  have hjnN : jn < s.known.length := by omega
  have hhb := (holdAt_bd hS (spans_ord hsp) an).1
  have e1 : AT.toNat = an := by omega
  have e2 : J.toNat = jn := by omega
  have hG : GridM V.heap.size V s.wd s.ht 500 s.known (some ⟨g3, 0, none⟩) :=
    ⟨(hR3 V h3).mono (by have := lt_of_heap h3; omega), s.gok_known hs, by omega, by omega, by omega, by omega, by omega, by omega, by rw [s.known_len]; push_cast; rfl⟩
  have hx : s.known[jn]? = some ((s.known.getD jn (0, 0)).1, (s.known.getD jn (0, 0)).2) := by rw [List.getD_eq_getElem?_getD, List.getElem?_eq_getElem hjnN]; rfl
  have h := raised_ok V.heap.size V s.wd s.ht 500 g3 N k3 s.known hG hkl S hS jn (by omega) q 1 r 1 (n + 1) cc (some ⟨gc, 0, none⟩) as5 ns cs5 may must (crestsL S xs (n + 1)) an (by rw [hjn]; exact hq) hr ((hRc V hc).mono (by have := lt_of_heap hc; omega)) (crests_len _ _ _) (by omega) (by omega) (Nat.le_refl _) _ _ _ _ (crests_at S xs (show an < n + 1 by omega)) hx (by omega) (by omega) (by omega)
  unfold raisedG
  rw [e1, e2]
  rw [han] at h
  exact h
end Go.Proofs.Ytfbmjecikilghaa
namespace Go.Proofs.Ytfbmjecikilghaa
open Go.RowKit Go.Shelf

/-- The true ground ahead of a step. -/
def trueG (s : ShoreL) (J c : Int) (f : Bool) : List Sp := if f = true then s.truth else s.truth.set J.toNat (max (s.truth.getD J.toNat (0, 0)).1 c, max (s.truth.getD J.toNat (0, 0)).1 c)
theorem trueG_len (s : ShoreL) (J c : Int) (f : Bool) : (trueG s J c f).length = s.wd * s.ht := by
  unfold trueG
  split
  · exact s.truth_len
  · rw [List.length_set, s.truth_len]
theorem getD_set_sp (l : List Sp) (i d : Nat) (x : Sp) (hi : i < l.length) : (l.set i x).getD d (0, 0) = if d = i then x else l.getD d (0, 0) := by
  rw [List.getD_eq_getElem?_getD, List.getD_eq_getElem?_getD, List.getElem?_set]
  by_cases h : i = d
  · subst h; simp [hi]
  · rw [if_neg h, if_neg (Ne.symm h)]
theorem ground_at {s : ShoreL} (hs : s.ok) {S : SecS} (hS : S.ok) {xs : List Sp} (hsp : ∀ p ∈ xs, vldB p.1 p.2 (-20000) 20000 = true) {J AT c t : Int} {f : Bool} {n : Nat} (J1 : J.toNat < s.wd * s.ht) (A0 : 0 ≤ AT) (hA : AT.toNat ≤ n) (h8 : n ≤ 8) (h : WallI S xs AT.toNat c t f) {d : Nat} (hd : d < s.wd * s.ht) :
    ((raisedG s S xs AT J (holdAt S xs n).may (holdAt S xs n).must).getD d (0, 0)).1 ≤ ((trueG s J c f).getD d (0, 0)).1 ∧ ((trueG s J c f).getD d (0, 0)).1 = ((trueG s J c f).getD d (0, 0)).2 ∧
    ((trueG s J c f).getD d (0, 0)).2 ≤ ((raisedG s S xs AT J (holdAt S xs n).may (holdAt S xs n).must).getD d (0, 0)).2 ∧ -1200000 ≤ ((raisedG s S xs AT J (holdAt S xs n).may (holdAt S xs n).must).getD d (0, 0)).1 ∧ ((raisedG s S xs AT J (holdAt S xs n).may (holdAt S xs n).must).getD d (0, 0)).2 ≤ 1200000 := by
  have hk := s.of_known hd
  have ht := s.of_truth hd
  have b1 := s.lo_bd d
  have b2 := s.add_bd hs d
  have b3 := s.pick_bd hs d
  unfold loOf hiOf at hk ht
  have hhb := (holdAt_bd hS (spans_ord hsp) AT.toNat).1
  unfold raisedG trueG
  rw [getD_set_sp _ _ _ _ (by rw [s.known_len]; exact J1)]
  by_cases hdj : d = J.toNat
  · subst hdj
    rw [if_pos rfl]
    have hr := raise_in hA h (x := s.known.getD J.toNat (0, 0)) (y := s.pick J.toNat) (by rw [hk.1]; exact b3.1) (by rw [hk.2]; exact b3.2)
    have ho := raise_ok (k := AT) (may := (holdAt S xs n).may) (must := (holdAt S xs n).must) (c := ((holdAt S xs AT.toNat).weak.1, (holdAt S xs AT.toNat).strong.1)) (x := s.known.getD J.toNat (0, 0)) hhb.2.1 (by rw [hk.1, hk.2]; omega)
    rw [show ((AT.toNat : Nat) : Int) = AT from by omega] at hr
    have e5 : (if f = true then s.truth else s.truth.set J.toNat (max (s.truth.getD J.toNat (0, 0)).1 c, max (s.truth.getD J.toNat (0, 0)).1 c)).getD J.toNat (0, 0) = ((if f = true then s.pick J.toNat else max (s.pick J.toNat) c), (if f = true then s.pick J.toNat else max (s.pick J.toNat) c)) := by
      cases f with
      | true => exact Prod.ext ht.1 ht.2
      | false =>
        simp only [Bool.false_eq_true, if_false]
        rw [getD_set_sp _ _ _ _ (by rw [s.truth_len]; exact J1), if_pos rfl, ht.1]
    rw [e5]
    obtain ⟨o1, o2, o3⟩ := ho
    obtain ⟨r1, r2⟩ := hr
    simp only at o3
    rw [hk.1] at o2
    rw [hk.2] at o3
    refine ⟨r1, rfl, r2, by omega, by omega⟩
  · rw [if_neg hdj]
    have e5 : (if f = true then s.truth else s.truth.set J.toNat (max (s.truth.getD J.toNat (0, 0)).1 c, max (s.truth.getD J.toNat (0, 0)).1 c)).getD d (0, 0) = s.truth.getD d (0, 0) := by
      cases f with
      | true => rfl
      | false =>
        simp only [Bool.false_eq_true, if_false]
        rw [getD_set_sp _ _ _ _ (by rw [s.truth_len]; exact J1), if_neg hdj]
    rw [e5, hk.1, hk.2, ht.1, ht.2]
    omega
theorem gok_of {l : List Sp} {n : Nat} (hl : l.length = n) (h : ∀ d, d < n → (l.getD d (0, 0)).1 ≤ (l.getD d (0, 0)).2 ∧ -1200000 ≤ (l.getD d (0, 0)).1 ∧ (l.getD d (0, 0)).2 ≤ 1200000) : ∀ u ∈ l, gok u := by
  intro u hu
  obtain ⟨d, hd, rfl⟩ := List.mem_iff_getElem.1 hu
  have := h d (by omega)
  rw [List.getD_eq_getElem?_getD, List.getElem?_eq_getElem hd] at this
  exact this
theorem sl_zero {w : World} {q : Nat} (h : w.heap[q]? = some (.cells #[.int .i64 0] 3 (0, 0))) : Sl IntE 1 w.heap.size w (some ⟨q, 0, none⟩) [0] :=
  ⟨by simp, fun k hk => ⟨q, 0, rfl, lt_of_heap h, by
    have : k = 0 := by simp at hk; omega
    subst this
    exact (cells_of h 0).trans rfl⟩⟩
/-- A flood from the first cell. -/
theorem flood_zero {s : ShoreL} (hs : s.ok) {N : Nat} (hN : s.wd * s.ht = N) {gr : List Sp} (hgl : gr.length = N) (hok : ∀ u ∈ gr, gok u) {g : Nat} {cs : Array Value} (hR : RowAt g (.cells cs 46 (0, 0)) gr) (k q : Nat) (l0 l1 : Int) (h01 : l0 ≤ l1) (h0 : -20000 ≤ l0) (h1 : l1 ≤ 20000)
    (W : World) (hg : W.heap[g]? = some (.cells cs 46 (0, 0))) (hq : W.heap[q]? = some (.cells #[.int .i64 0] 3 (0, 0))) :
    Calls Try.prog 10 #[.agg #[.int .i64 s.wd, .int .i64 s.ht, .int .i64 500, .slice (some ⟨g, 0, none⟩) N k], .slice (some ⟨q, 0, none⟩) 1 1, .agg #[.int .i64 l0, .int .i64 l1]] W fun e w' => ∃ lo hi a0 a1 c0 c1,
      e = .returned (.tuple #[.slice a0 N c0, .slice a1 N c1, .int .i64 0]) ∧ SillOk s.wd s.ht [0] (loOf gr) lo ∧ SillOk s.wd s.ht [0] (hiOf gr) hi ∧
      Sl BoolE 1 w'.heap.size w' a0 (sureOf l0 hi) ∧ Sl BoolE 1 w'.heap.size w' a1 (sureOf l1 lo) ∧ Below W.heap.size W w' := by
  obtain ⟨d1, d2, d3, d4⟩ := s.dims hs
  have hN0 : 0 < N := by rw [← hN]; exact Nat.mul_pos d1 d3
  exact flood_row hs hN hgl hok hR k 1 (sea := [0]) (fun c hc => by have h : c = 0 := (by simpa using hc); omega) (by simp) l0 l1 h01 h0 h1 W.heap.size W hg (Nat.le_refl _) (sl_zero hq)
theorem within_yes {a b c d : Int} (h1 : c ≤ a) (h2 : b ≤ d) (h3 : a ≤ b) (w : World) :
    Calls Try.prog 12 #[.agg #[.int .i64 a, .int .i64 b], .agg #[.int .i64 c, .int .i64 d]] w fun e w' => e = .returned (.bool true) ∧ Below w.heap.size w w' := by
  have h := within_any a b c d w
  rw [decide_eq_true h1, decide_eq_true h2, decide_eq_true h3] at h
  exact h
end Go.Proofs.Ytfbmjecikilghaa
