/- surge: a place. -/
import Derived.Test.YtfbmjecikilghaaSurU
import Derived.Great.BuildSlice
import Derived.Laws.CopyOwn
import Derived.Test.YtfbmjecikilghaaAround
import Derived.RangeFuncNested
import Derived.Outline
import Derived.Test.YtfbmjecikilghaaTopC
namespace Go.Proofs.Ytfbmjecikilghaa
open Go.RowKit

set_option maxHeartbeats 4000000 in
set_option maxRecDepth 100000 in
theorem uwcheck_any (B : Nat) (W H sz : Int) (gr : List (Int × Int)) (ga : Option Addr) (gc : Nat) (s0 s1 : Int) (w : World) (hG : GridM B w W H sz gr ga) (hB : B ≤ w.heap.size) (hs : vldB s0 s1 (-20000) 20000 = true) :
    Calls Try.prog 76 #[.agg #[.int .i64 W, .int .i64 H, .int .i64 sz, .slice ga gr.length gc, .int .i64 s0, .int .i64 s1]] w fun e w' => e = .returned (.int .i64 0) ∧ Below w.heap.size w w' := by
  have h1 := uwithin_any s0 s1 (-20000) 20000
  rw [hs] at h1
  have hck := fun V (hV : Below w.heap.size w V) => gcheck_ok W H sz gr ga gc B V ((hG.below (hV.mono hB)).cells) (by have := hV.size; omega) hG.ok hG.w1 hG.w4 hG.h1 hG.h4 hG.s1 hG.s2 hG.len
  obtain ⟨n, hn⟩ : ∃ n, gr.length = n := ⟨_, rfl⟩
  rw [hn] at hck ⊢
  clear hG hn
  go_enter Try.func76, Try.ntmps76
  go_wp2_with fail
  refine (hck _ (by repeat (first | exact Below.refl _ _ | (refine bl_setCell ?_ _ _ ?_; rotate_left; focus (first | omega | (simp; done) | (simp; omega))) | refine bl_alloc ?_ _ | refine bl_step ?_ (by assumption) | refine bl_drew ?_ | refine bl_drewN ?_ _))).mono ?_
  rintro x w1 ⟨rfl, hb1⟩
  have y := heap_below hb1 (heap_alloc_at w (.cells #[.int .i64 W, .int .i64 H, .int .i64 sz, .slice ga n gc, .int .i64 s0, .int .i64 s1] 117))
  have hbw : Below w.heap.size w w1 := (by repeat (first | exact Below.refl _ _ | (refine bl_setCell ?_ _ _ ?_; rotate_left; focus (first | omega | (simp; done) | (simp; omega))) | refine bl_alloc ?_ _ | refine bl_step ?_ (by assumption) | refine bl_drew ?_ | refine bl_drewN ?_ _))
  have yc := cells_of y
  have yl := lt_of_heap y
  clear hb1 y hck
  have Hhbw := Lib.hid hbw; clear hbw
  go_wp2_with fail
  refine (h1 _).mono ?_
  rintro x w2 ⟨rfl, hb2⟩
  have hbv := bl_step Hhbw.out hb2
  go_wp2_with fail
  go_ret
  exact ⟨rfl, hbv⟩

set_option maxHeartbeats 8000000 in
set_option maxRecDepth 100000 in
theorem uat_any (B : Nat) (W H sz : Int) (gr : List (Int × Int)) (ga : Option Addr) (gc : Nat) (s0 s1 d0 d1 l0 l1 cell : Int) (w : World) (hG : GridM B w W H sz gr ga) (hB : B ≤ w.heap.size) (hs : vldB s0 s1 (-20000) 20000 = true) (hd : vldB d0 d1 1 10000 = true) (hl : vldB l0 l1 1 1024 = true) (hc0 : 0 ≤ cell) (hc1 : cell < W * H) :
    Calls Try.prog 52 #[.agg #[.int .i64 W, .int .i64 H, .int .i64 sz, .slice ga gr.length gc], .agg #[.int .i64 s0, .int .i64 s1], .agg #[.int .i64 d0, .int .i64 d1, .int .i64 l0, .int .i64 l1], .int .i64 cell] w fun e w' =>
      e = .returned (.tuple #[.agg #[.int .i64 W, .int .i64 H, .int .i64 sz, .slice ga gr.length gc, .int .i64 s0, .int .i64 s1, .int .i64 d0, .int .i64 d1, .int .i64 l0, .int .i64 l1, .int .i64 cell], .int .i64 0]) ∧ Below w.heap.size w w' := by
  have h1 := fun V (hV : Below w.heap.size w V) => uwcheck_any B W H sz gr ga gc s0 s1 V (hG.below (hV.mono hB)) (by have := hV.size; omega) hs
  have h2 := ucheck_any d0 d1 l0 l1 hd hl
  have h16 : W * H ≤ 16 := by
    have := Int.mul_le_mul hG.w4 hG.h4 (by have := hG.h1; omega) (by omega)
    omega
  have h3 := fun V => uhas_any W H sz ga gr.length gc s0 s1 (W * H) cell rfl (by omega) hc0 hc1 V
  obtain ⟨n, hn⟩ : ∃ n, gr.length = n := ⟨_, rfl⟩
  rw [hn] at h1 h3 ⊢
  clear hG hn h16 hc1 hs hd hl
  go_enter Try.func52, Try.ntmps52
  go_wp2_with fail
  refine (h1 _ (by repeat (first | exact Below.refl _ _ | (refine bl_setCell ?_ _ _ ?_; rotate_left; focus (first | omega | (simp; done) | (simp; omega))) | refine bl_alloc ?_ _ | refine bl_step ?_ (by assumption) | refine bl_drew ?_ | refine bl_drewN ?_ _))).mono ?_
  rintro x w1 ⟨rfl, hb1⟩
  have y6 : w1.heap[w.heap.size + 1 + 1]? = some (.cells #[.int .i64 d0, .int .i64 d1, .int .i64 l0, .int .i64 l1] 63 (0, 0)) := heap_below hb1 (by repeat (first | (refine heap_alloc_at' _ _ ?_; focus (simp; done)) | refine heap_alloc_off ?_ _))
  have y8 : w1.heap[w.heap.size + 1 + 1 + 1]? = some (.cells #[.int .i64 0, .int .i64 0, .int .i64 0, .slice none 0 0, .int .i64 0, .int .i64 0, .int .i64 0, .int .i64 0, .int .i64 0, .int .i64 0, .int .i64 0] 119 (0, 0)) := heap_below hb1 (by repeat (first | (refine heap_alloc_at' _ _ ?_; focus (simp; done)) | refine heap_alloc_off ?_ _))
  have y10 : w1.heap[w.heap.size + 1 + 1 + 1 + 1]? = some (.cells #[.int .i64 W, .int .i64 H, .int .i64 sz, .slice ga n gc, .int .i64 s0, .int .i64 s1, .int .i64 d0, .int .i64 d1, .int .i64 l0, .int .i64 l1, .int .i64 cell] 119 (0, 0)) := heap_below hb1 (by repeat (first | (refine heap_alloc_at' _ _ ?_; focus (simp; done)) | refine heap_alloc_off ?_ _))
  have hbw : Below w.heap.size w w1 := (by repeat (first | exact Below.refl _ _ | (refine bl_setCell ?_ _ _ ?_; rotate_left; focus (first | omega | (simp; done) | (simp; omega))) | refine bl_alloc ?_ _ | refine bl_step ?_ (by assumption) | refine bl_drew ?_ | refine bl_drewN ?_ _))
  have y6c := cells_of y6
  have y6l := lt_of_heap y6
  clear hb1 h1 y6
  have Hy8 := Lib.hid y8; clear y8; have Hy10 := Lib.hid y10; clear y10; have Hhbw := Lib.hid hbw; clear hbw
  go_wp2_with fail
  refine (h2 _).mono ?_
  rintro x w2 ⟨rfl, hb2⟩
  have z8 := heap_below hb2 Hy8.out
  have z10 := heap_below hb2 Hy10.out
  have hbv := bl_step Hhbw.out hb2
  clear y6c y6l hb2 h2
  have z10c := cells_of z10
  have z10l := lt_of_heap z10
  have hI : w2.drew.heap[w.heap.size + 1 + 1 + 1 + 1]? = some (.cells #[.int .i64 W, .int .i64 H, .int .i64 sz, .slice ga n gc, .int .i64 s0, .int .i64 s1, .int .i64 d0, .int .i64 d1, .int .i64 l0, .int .i64 l1, .int .i64 cell] 119 (0, 0)) := z10
  have Hz8 := Lib.hid z8; clear z8; have Hz10 := Lib.hid z10; clear z10; have Hhbv := Lib.hid hbv; clear hbv
  go_upto_region 8 with fail
  refine wp_region_ord (fun V => V.heap[w.heap.size + 1 + 1 + 1 + 1]? = some (.cells #[.int .i64 W, .int .i64 H, .int .i64 sz, .slice ga n gc, .int .i64 s0, .int .i64 s1, .int .i64 d0, .int .i64 d1, .int .i64 l0, .int .i64 l1, .int .i64 cell] 119 (0, 0))) [([0, 1, 2, 3], 4), ([], 5)] [6] none (by kernel_rfl) (by kernel_rfl) hI ?_
  refine OrdI_cons ?_
  (apply StI_plain (w0 := w2.drew) hI rfl rfl rfl rfl; (focus (intro W hW K hK; have := cells_of hW; go_step; exact hK)); (focus rfl)); (apply StI_plain (w0 := w2.drew) hI rfl rfl rfl rfl; (focus (intro W hW K hK; have := cells_of hW; go_step; exact hK)); (focus rfl)); (apply StI_plain (w0 := w2.drew) hI rfl rfl rfl rfl; (focus (intro W hW K hK; have := cells_of hW; go_step; exact hK)); (focus rfl)); (apply StI_plain (w0 := w2.drew) hI rfl rfl rfl rfl; (focus (intro W hW K hK; have := cells_of hW; go_step; exact hK)); (focus rfl))
  (apply StI_eff rfl; go_wp2_with (first | (go_at_call 78; refine (h3 _).mono ?_; rintro x w3 ⟨rfl, hb3⟩)))
  have hD : Below w2.heap.size w2 w2.drew := (Below.refl _ _).drew
  have hI3 := heap_below hb3 hI
  have hB3 : Below w2.heap.size w2 w3 := below_mid hD (Nat.le_refl _) hb3
  have v8 := heap_below hB3 Hz8.out
  have hbu := bl_step Hhbv.out hB3
  refine onNormal_mk hI3 (OrdI_cons (StI_nil ?_))
  apply wpOp_eff rfl
  refine wpList_store_rowTo rfl 119 _ _ rfl rfl (w.heap.size + 1 + 1 + 1) #[.int .i64 W, .int .i64 H, .int .i64 sz, .slice ga n gc, .int .i64 s0, .int .i64 s1, .int .i64 d0, .int .i64 d1, .int .i64 l0, .int .i64 l1, .int .i64 cell] (by kernel_rfl) (by kernel_rfl) _ _ v8 (by kernel_rfl) rfl (by simp [Value.oneCell']) ?_
  apply wpList_nil
  have hI4 := (setRow_other w3 (w.heap.size + 1 + 1 + 1) (w.heap.size + 1 + 1 + 1 + 1) #[.int .i64 W, .int .i64 H, .int .i64 sz, .slice ga n gc, .int .i64 s0, .int .i64 s1, .int .i64 d0, .int .i64 d1, .int .i64 l0, .int .i64 l1, .int .i64 cell] (by omega)).trans hI3
  have v8' := setRow_heap w3 (w.heap.size + 1 + 1 + 1) _ #[.int .i64 W, .int .i64 H, .int .i64 sz, .slice ga n gc, .int .i64 s0, .int .i64 s1, .int .i64 d0, .int .i64 d1, .int .i64 l0, .int .i64 l1, .int .i64 cell] _ _ v8
  have hbt := below_setRow hbu (show w.heap.size ≤ w.heap.size + 1 + 1 + 1 by omega) #[.int .i64 W, .int .i64 H, .int .i64 sz, .slice ga n gc, .int .i64 s0, .int .i64 s1, .int .i64 d0, .int .i64 d1, .int .i64 l0, .int .i64 l1, .int .i64 cell]
  generalize w3.setRow (w.heap.size + 1 + 1 + 1) #[.int .i64 W, .int .i64 H, .int .i64 sz, .slice ga n gc, .int .i64 s0, .int .i64 s1, .int .i64 d0, .int .i64 d1, .int .i64 l0, .int .i64 l1, .int .i64 cell] = w4 at hI4 v8' hbt ⊢
  refine onNormal_mk hI4 (OrdI_fin ?_)
  (apply StI_plain (w0 := w4) hI4 rfl rfl rfl rfl; (focus (intro W hW K hK; skip; go_step; exact hK)); (focus rfl))
  refine StI_nil ?_
  have v8c := cells_of v8'
  clear z10c z10l hI hI3 hI4 hB3 hD hb3 v8
  have Hv8' := Lib.hid v8'; clear v8'; have Hhbt := Lib.hid hbt; clear hbt; have Hhbu := Lib.hid hbu; clear hbu
  go_wp2_with fail
  ((try simp only [Exit.inBlock, Exit.then]); refine bodyPost_ret (v := .tuple #[.agg #[.int .i64 W, .int .i64 H, .int .i64 sz, .slice ga n gc, .int .i64 s0, .int .i64 s1, .int .i64 d0, .int .i64 d1, .int .i64 l0, .int .i64 l1, .int .i64 cell], .int .i64 0]) (by simp [results, Try.results52, go_sem, *]) rfl ?_)
  exact ⟨rfl, Hhbt.out⟩
end Go.Proofs.Ytfbmjecikilghaa
namespace Go.Proofs.Ytfbmjecikilghaa
open Go.RowKit Go.Shelf

/-- An iterator for consumers that never stop it. -/
def IterO {α : Type} (F : Fence) (n : Nat) (P : Program) (g : Nat) (lb : Array Value) (encs : α → Array Value) (Kp : World → World → Prop) (S : List α → Prop) (N : Nat) (w : World) : Prop :=
  ∀ (l : Nat) (J : List α → World → Prop) (W : World), Below w.heap.size w W → OwnFrom W.heap.size J →
    (∀ pre x W1, J pre W1 → pre.length < N → YieldAt F (n - 1) P l (encs x) W1 fun e W' => e = .returned (.bool true) ∧ J (pre ++ [x]) W' ∧ Kp W1 W' ∧ KeepsFrom W.heap.size W1 W') → J [] W →
    CallsIn F n P g (#[.func (.yield l) #[] #[]] ++ lb) W fun e W' => (∃ v, e = .returned v) ∧ ∃ xs, S xs ∧ J xs W'

theorem rangeThrough {α : Type} {F : Fence} {n : Nat} {P : Program} {g : Operand} {ps : Array Tmp} {assign body : Code} {Q : Exit → Act → World → Prop} {a : Act} {w : World}
    (hro : F.round = none) (h1 : 1 ≤ n) {gf : Nat} {lb : Array Value} (hg : a.eval g = .func (.func gf) #[] lb) (hFg : F.fn gf) (eg : ∀ args w, (callFunc gf args).run P w = .ok (.enter gf args) w)
    {encs : α → Array Value} {Kp : World → World → Prop} (hps : ∀ x, (encs x).size = ps.size) {S : List α → Prop} {N : Nat} (hit : IterO F (n - 1) P gf lb encs Kp S N w)
    (I : List α → World → Prop) (hI : OwnFrom w.heap.size I) (h0 : I [] w)
    (hround : ∀ (l : Nat) (pre : List α) (x : α) (W : World) (K : Act → World → Prop), w.heap.size < l → (∃ r, W.heap[l]? = some (.loop r)) → I pre W → pre.length < N →
      (∀ a' W', KeepsFrom w.heap.size W W' →
        (∀ r : Loop, W'.heap[l]? = some (.loop r) → body.wpIn (F.inRound l) (n - 1 - 1) P (fun e _ W3 => e = .normal ∧ KeepsFrom w.heap.size (W'.putObj l (.loop { r with state := .busy })) W3 ∧ I (pre ++ [x]) W3 ∧ ∀ o, Kp W (W3.putObj l (.loop o))) a' (W'.putObj l (.loop { r with state := .busy }))) → K a' W') →
      assign.wpIn (F.inRound l) (n - 1 - 1) P (Exit.then K (fun _ _ _ => False)) { tmps := (ps.zip (encs x)).foldl (fun t (p, v) => t.setIfInBounds p v) a.tmps, defers := [] } W)
    (hdone : ∀ (D : Nat) (xs : List α) (W : World), w.heap.size ≤ D → S xs → I xs W → W.heap[D]? = some (.deferred (some [])) → Q .normal { a with defers := { target := .collected D, args := #[] } :: a.defers } W) :
    (Code.rangeFunc g ps assign body).wpIn F n P Q a w := by
  refine wpIn_rangeFunc fun fn hfn => ?_
  rw [hro]
  obtain ⟨rc, hrc⟩ : ∃ rc : LoopState → Loop, rc = fun st => { state := st, pending := none, fn, tmps := a.tmps, params := ps, assign, body, defers := w.heap.size } := ⟨_, rfl⟩
  have hrcs : ∀ st, (rc st).state = st := fun st => by rw [hrc]
  have hrcp : ∀ st, (rc st).pending = none := fun st => by rw [hrc]
  have hset : ∀ st st', { rc st with state := st' } = rc st' := fun st st' => by rw [hrc]
  have hent := run_enterLoop_outer (P := P) (w := w) fn a.tmps ps assign body
  obtain ⟨V, hV⟩ : ∃ V, (w.alloc (.deferred (some []))).alloc (.loop { state := .ready, pending := none, fn, tmps := a.tmps, params := ps, assign, body, defers := w.heap.size }) = V := ⟨_, rfl⟩
  rw [hV] at hent
  have hVs : V.heap.size = w.heap.size + 2 := by rw [← hV]; simp
  have hVl : V.heap[w.heap.size + 1]? = some (.loop (rc .ready)) := by rw [← hV, hrc]; exact heap_alloc_at' _ _ (by simp)
  have hVd : V.heap[w.heap.size]? = some (.deferred (some [])) := by rw [← hV]; exact heap_alloc_off (heap_alloc_at _ _) _
  have hVb : Below w.heap.size w V := by rw [← hV]; exact bl_alloc (bl_alloc (Below.refl _ _) _) _
  have hVi : I [] V := by rw [← hV]; exact hI.alloc _ (hI.alloc _ h0)
  refine ⟨w.heap.size + 1, _, V, { target := .fn (.func gf) lb, args := #[.func (.yield (w.heap.size + 1)) #[] #[]] }, V, gf, #[.func (.yield (w.heap.size + 1)) #[] #[]] ++ lb, V, hent, ?_, ?_, ?_, fun _ => h1, ?_⟩
  · simp only [resolve, hg]
    simp [go_sem]
  · intro f' hf'
    simp [Target.leads] at hf'
    subst hf'
    exact hFg
  · simp [invoke, go_sem, eg]
  · have hOwn : OwnFrom V.heap.size (fun (pre : List α) W => I pre W ∧ W.heap[w.heap.size + 1]? = some (.loop (rc .ready)) ∧ W.heap[w.heap.size]? = some (.deferred (some []))) := by
      intro s A C row ⟨h2, h3, h4⟩ hgr hr
      refine ⟨hI s A C row h2 hgr fun r e => ⟨by have := (hr r e).1; omega, (hr r e).2⟩, (hgr.block _ (lt_of_heap h3) fun e => ?_).trans h3, (hgr.block _ (lt_of_heap h4) fun e => ?_).trans h4⟩
      · have := (hr _ e.symm).1; omega
      · have := (hr _ e.symm).1; omega
    refine (hit (w.heap.size + 1) _ V hVb hOwn (fun pre x W ⟨hi, hl, hd⟩ hN => ?_) ⟨hVi, hVl, hVd⟩).mono ?_
    · have hy := run_yield (P := P) (args := encs x) hl (by rw [hrc]; exact hps x)
      rw [hrc] at hy
      refine ⟨fn, _, assign, body, hy, roundIn_of_wpIn hfn (hround _ pre x W _ (by omega) ⟨_, hl⟩ hi hN fun a' W' hk hb => ?_)⟩
      have hl' := hk.same _ _ (by omega) hl rfl
      have hd' := hk.same _ _ (Nat.le_refl _) hd rfl
      have hlt := lt_of_heap hl'
      refine ⟨_, run_beginRound hl' (hrcs _), wpIn_mono (hb _ hl') ?_⟩
      rintro e a3 W3 ⟨rfl, hk3, hi3, hkp⟩
      have hl3 := hk3.same _ _ (by omega) (World.putObj_heap_same hlt) rfl
      have hd3 := hk3.same _ _ (Nat.le_refl _) ((World.putObj_heap_other (by omega)).trans hd') rfl
      refine ⟨_, _, run_endRound none hl3, rfl, ⟨hI.putObj _ hi3 (by omega) hl3 rfl, ?_, (World.putObj_heap_other (by omega)).trans hd3⟩, hkp _, ?_⟩
      · rw [World.putObj_heap_same (lt_of_heap hl3)]
        rw [hrc]
        rfl
      · refine ⟨by have := hk.size; have := hk3.size; simp at *; omega, fun k o hB ho hc => ?_⟩
        have hne : k ≠ w.heap.size + 1 := by omega
        exact (World.putObj_heap_other hne).trans (hk3.same _ _ (by omega) ((World.putObj_heap_other hne).trans (hk.same _ _ (by omega) ho hc)) hc)
    · rintro e W2 ⟨⟨v, rfl⟩, xs, hS, hi, hl, hd⟩
      have he := run_endLoop (P := P) hl (by rw [hrcs]; simp)
      rw [hrcp] at he
      exact ⟨none, _, he, hdone _ xs _ (Nat.le_refl _) hS (hI.putObj _ hi (by omega) hl rfl) ((World.putObj_heap_other (by omega)).trans hd)⟩
end Go.Proofs.Ytfbmjecikilghaa
namespace Go.Proofs.Ytfbmjecikilghaa
open Go.RowKit Go.Shelf
attribute [local go_sem] Oper.semAt_some

theorem anyDepthR {F : Fence} (hd : F.depth = none) {m m' : Nat} {P : Program} {l : Nat} {f : FuncId} {tmps : Array Value} {assign body : Code} {w : World} {R : Ending → World → Prop} (h : RoundIn F m P l f tmps assign body w R) : RoundIn F m' P l f tmps assign body w R :=
  ⟨h.1, fun c cs _ => h.2 c cs fun d e => by rw [hd] at e; cases e⟩
theorem anyDepthY {F : Fence} (hd : F.depth = none) {m : Nat} (m' : Nat) {P : Program} {l : Nat} {args : Array Value} {W : World} {R : Ending → World → Prop} (h : YieldAt F m P l args W R) : YieldAt F m' P l args W R := by
  obtain ⟨fn, tmps, assign, body, hy, hR⟩ := h
  exact ⟨fn, tmps, assign, body, hy, anyDepthR hd hR⟩

set_option maxHeartbeats 2000000 in
set_option maxRecDepth 100000 in
theorem ray_any (W H sz s0 s1 c d : Int) (a : Option Addr) (n cap : Nat) (w : World) :
    Calls Try.prog 107 #[.agg #[.int .i64 W, .int .i64 H, .int .i64 sz, .slice a n cap, .int .i64 s0, .int .i64 s1], .int .i64 c, .int .i64 d] w fun e w' => e = .returned (.func (.func 110) #[] #[.pointer (some ⟨w.heap.size + 2, 0, none⟩), .pointer (some ⟨w.heap.size + 1, 0, none⟩), .pointer (some ⟨w.heap.size, 0, none⟩)]) ∧
      Below w.heap.size w w' ∧ w'.heap.size = w.heap.size + 3 ∧ w'.heap[w.heap.size]? = some (.cells #[.int .i64 W, .int .i64 H, .int .i64 sz, .slice a n cap, .int .i64 s0, .int .i64 s1] 117 (0, 0)) ∧ w'.heap[w.heap.size + 1]? = some (.cells #[.int .i64 c] 3 (0, 0)) ∧ w'.heap[w.heap.size + 2]? = some (.cells #[.int .i64 d] 3 (0, 0)) := by
  go_enter Try.func107, Try.ntmps107
  go_wp2
  go_ret
  exact ⟨rfl, (by repeat (first | exact Below.refl _ _ | (refine bl_setCell ?_ _ _ ?_; rotate_left; focus (first | omega | (simp; done) | (simp; omega))) | refine bl_alloc ?_ _ | refine bl_step ?_ (by assumption) | refine bl_drew ?_ | refine bl_drewN ?_ _)), by simp, (by repeat (first | (refine heap_alloc_at' _ _ ?_; focus (simp; done)) | refine heap_alloc_off ?_ _)), (by repeat (first | (refine heap_alloc_at' _ _ ?_; focus (simp; done)) | refine heap_alloc_off ?_ _)), heap_alloc_at' _ _ (by simp)⟩

set_option maxHeartbeats 2000000 in
set_option maxRecDepth 100000 in
theorem fetch_any (W H sz s0 s1 c d : Int) (sure : Bool) (a : Option Addr) (n cap : Nat) (w : World) :
    Calls Try.prog 100 #[.agg #[.int .i64 W, .int .i64 H, .int .i64 sz, .slice a n cap, .int .i64 s0, .int .i64 s1], .int .i64 c, .int .i64 d, .bool sure] w fun e w' => e = .returned (.func (.func 106) #[] #[.pointer (some ⟨w.heap.size, 0, none⟩), .pointer (some ⟨w.heap.size + 1, 0, none⟩), .pointer (some ⟨w.heap.size + 2, 0, none⟩), .pointer (some ⟨w.heap.size + 3, 0, none⟩)]) ∧
      Below w.heap.size w w' ∧ w'.heap.size = w.heap.size + 4 ∧ w'.heap[w.heap.size]? = some (.cells #[.int .i64 W, .int .i64 H, .int .i64 sz, .slice a n cap, .int .i64 s0, .int .i64 s1] 117 (0, 0)) ∧ w'.heap[w.heap.size + 1]? = some (.cells #[.int .i64 c] 3 (0, 0)) ∧ w'.heap[w.heap.size + 2]? = some (.cells #[.int .i64 d] 3 (0, 0)) ∧ w'.heap[w.heap.size + 3]? = some (.cells #[.bool sure] 4 (0, 0)) := by
  go_enter Try.func100, Try.ntmps100
  go_wp2
  go_ret
  exact ⟨rfl, (by repeat (first | exact Below.refl _ _ | (refine bl_setCell ?_ _ _ ?_; rotate_left; focus (first | omega | (simp; done) | (simp; omega))) | refine bl_alloc ?_ _ | refine bl_step ?_ (by assumption) | refine bl_drew ?_ | refine bl_drewN ?_ _)), by simp, (by repeat (first | (refine heap_alloc_at' _ _ ?_; focus (simp; done)) | refine heap_alloc_off ?_ _)), (by repeat (first | (refine heap_alloc_at' _ _ ?_; focus (simp; done)) | refine heap_alloc_off ?_ _)), (by repeat (first | (refine heap_alloc_at' _ _ ?_; focus (simp; done)) | refine heap_alloc_off ?_ _)), heap_alloc_at' _ _ (by simp)⟩

/-! The depths ahead. -/
def depthX (sea : Int × Int) (gr : Nat → Int × Int) (c : Nat) : Nat × (Int × Int) := (c, depthS sea gr c)
def fetchX (sea : Int × Int) (gr : Nat → Int × Int) (sure : Bool) (l : List Nat) : List (Nat × (Int × Int)) := (l.map (depthX sea gr)).takeWhile fun x => overS sure x.2
theorem fetchX_snd (sea : Int × Int) (gr : Nat → Int × Int) (sure : Bool) : ∀ l : List Nat, (fetchX sea gr sure l).map Prod.snd = fetchL sea gr sure l
  | [] => rfl
  | c :: l => by
    have ih := fetchX_snd sea gr sure l
    unfold fetchX fetchL at *
    simp only [List.map_cons, List.takeWhile_cons, depthX]
    split
    · simp only [List.map_cons]; rw [ih]
    · rfl
abbrev Fx (sea : Int × Int) (gr : Nat → Int × Int) (sure : Bool) (l : List Nat) := { x : Nat × (Int × Int) // x ∈ l.map (depthX sea gr) ∧ overS sure x.2 = true }
theorem takeWhile_all {α : Type} {p : α → Bool} : ∀ (a : List α), (∀ y ∈ a, p y = true) → a.takeWhile p = a
  | [], _ => rfl
  | y :: a, ha => by rw [List.takeWhile_cons, if_pos (ha y (by simp)), takeWhile_all a fun z hz => ha z (by simp [hz])]
theorem fetchX_all {sea : Int × Int} {gr : Nat → Int × Int} {sure : Bool} {l : List Nat} {ys : List (Fx sea gr sure l)} (h : ys.map Subtype.val = l.map (depthX sea gr)) : ys.map Subtype.val = fetchX sea gr sure l := by
  refine h.trans (takeWhile_all _ fun x hx => ?_).symm
  rw [← h] at hx
  obtain ⟨y, _, rfl⟩ := List.mem_map.1 hx
  exact y.2.2
theorem takeWhile_pre {α : Type} {p : α → Bool} : ∀ (a : List α) (x : α) (r : List α), (∀ y ∈ a, p y = true) → p x = false → (a ++ x :: r).takeWhile p = a
  | [], x, r, _, hx => by simp [hx]
  | y :: a, x, r, ha, hx => by
    rw [List.cons_append, List.takeWhile_cons, if_pos (ha y (by simp)), takeWhile_pre a x r (fun z hz => ha z (by simp [hz])) hx]
theorem fetchX_stop {sea : Int × Int} {gr : Nat → Int × Int} {sure : Bool} {l p : List Nat} {c : Nat} {ys : List (Fx sea gr sure l)} (h : ys.map Subtype.val = p.map (depthX sea gr)) (hp : p ++ [c] <+: l) (hc : overS sure (depthS sea gr c) = false) : ys.map Subtype.val = fetchX sea gr sure l := by
  have hall : ∀ y ∈ p.map (depthX sea gr), overS sure y.2 = true := fun y hy => by
    rw [← h] at hy
    obtain ⟨z, _, rfl⟩ := List.mem_map.1 hy
    exact z.2.2
  refine h.trans ?_
  obtain ⟨r, hr⟩ := hp
  unfold fetchX
  rw [← hr, List.append_assoc, List.map_append]
  simp only [List.singleton_append, List.map_cons]
  exact (takeWhile_pre _ _ _ hall hc).symm

/-- A round keeps all cells but one box. -/
def KpQ (q : Nat) (W W' : World) : Prop := W.heap.size ≤ W'.heap.size ∧ ∀ (k : Nat) (cs : Array Value) (t : TypeId) (f : Nat × Nat), (k ≠ q ∨ t ≠ 3) → W.heap[k]? = some (.cells cs t f) → W'.heap[k]? = some (.cells cs t f)
end Go.Proofs.Ytfbmjecikilghaa
namespace Go.Proofs.Ytfbmjecikilghaa
open Go.RowKit Go.Shelf
attribute [local go_sem] Oper.semAt_some

/-- What the iterator reads. -/
structure FM (wcs gcs : Array Value) (gf : Nat × Nat) (cell dir : Int) (sure : Bool) (yv : Value) (bw bs q5 s g : Nat) (W : World) : Prop where
  hw : W.heap[bw]? = some (.cells wcs 117 (0, 0))
  hs : W.heap[bs]? = some (.cells #[.bool sure] 4 (0, 0))
  hy : W.heap[q5]? = some (.cells #[yv] 184 (0, 0))
  r0 : W.heap[s]? = some (.cells wcs 117 (0, 0))
  r1 : W.heap[s + 1]? = some (.cells #[.int .i64 cell] 3 (0, 0))
  r2 : W.heap[s + 2]? = some (.cells #[.int .i64 dir] 3 (0, 0))
  hg : W.heap[g]? = some (.cells gcs 46 gf)
theorem cells_grown {W W' : World} {row : Option Nat} {k : Nat} {cs : Array Value} {t : TypeId} {f : Nat × Nat} (hg : W.grownBy W' row) (hr : ∀ r, row = some r → ∃ o : Obj, W.heap[r]? = some o ∧ o.isCells = false) (h : W.heap[k]? = some (.cells cs t f)) : W'.heap[k]? = some (.cells cs t f) :=
  (hg.block k (lt_of_heap h) fun e => by obtain ⟨o, ho, hc⟩ := hr k e.symm; rw [h] at ho; cases ho; cases hc).trans h
theorem FM.grown {wcs gcs : Array Value} {gf : Nat × Nat} {cell dir : Int} {sure : Bool} {yv : Value} {bw bs q5 s g : Nat} {W W' : World} {row : Option Nat} (h : FM wcs gcs gf cell dir sure yv bw bs q5 s g W) (hg : W.grownBy W' row) (hr : ∀ r, row = some r → ∃ o : Obj, W.heap[r]? = some o ∧ o.isCells = false) : FM wcs gcs gf cell dir sure yv bw bs q5 s g W' :=
  ⟨cells_grown hg hr h.hw, cells_grown hg hr h.hs, cells_grown hg hr h.hy, cells_grown hg hr h.r0, cells_grown hg hr h.r1, cells_grown hg hr h.r2, cells_grown hg hr h.hg⟩
theorem FM.below {wcs gcs : Array Value} {gf : Nat × Nat} {cell dir : Int} {sure : Bool} {yv : Value} {bw bs q5 s g : Nat} {W W' : World} (h : FM wcs gcs gf cell dir sure yv bw bs q5 s g W) (hb : Below W.heap.size W W') : FM wcs gcs gf cell dir sure yv bw bs q5 s g W' :=
  ⟨heap_below hb h.hw, heap_below hb h.hs, heap_below hb h.hy, heap_below hb h.r0, heap_below hb h.r1, heap_below hb h.r2, heap_below hb h.hg⟩
theorem FM.kpq {wcs gcs : Array Value} {gf : Nat × Nat} {cell dir : Int} {sure : Bool} {yv : Value} {bw bs q5 s g q : Nat} {W W' : World} (h : FM wcs gcs gf cell dir sure yv bw bs q5 s g W) (hk : KpQ q W W') (h1 : s + 1 ≠ q) (h2 : s + 2 ≠ q) : FM wcs gcs gf cell dir sure yv bw bs q5 s g W' :=
  ⟨hk.2 _ _ _ _ (.inr (by decide)) h.hw, hk.2 _ _ _ _ (.inr (by decide)) h.hs, hk.2 _ _ _ _ (.inr (by decide)) h.hy, hk.2 _ _ _ _ (.inr (by decide)) h.r0, hk.2 _ _ _ _ (.inl h1) h.r1, hk.2 _ _ _ _ (.inl h2) h.r2, hk.2 _ _ _ _ (.inr (by decide)) h.hg⟩
theorem FM.kpr {wcs gcs : Array Value} {gf : Nat × Nat} {cell dir : Int} {sure : Bool} {yv : Value} {bw bs q5 s g q : Nat} {W W' : World} (h : FM wcs gcs gf cell dir sure yv bw bs q5 s g W) (hk : KpQ q W W') (h1 : s + 1 ≠ q) (h2 : s + 2 ≠ q) : KpR (s + 2) (s + 1) s W W' := by
  have h' := h.kpq hk h1 h2
  exact ⟨hk.1, h'.r2.trans h.r2.symm, h'.r1.trans h.r1.symm, h'.r0.trans h.r0.symm, fun k cs hc => hk.2 _ _ _ _ (.inr (by decide)) hc⟩
end Go.Proofs.Ytfbmjecikilghaa
namespace Go.Proofs.Ytfbmjecikilghaa
open Go.RowKit Go.Shelf
attribute [local go_sem] Oper.semAt_some

def grOf (gr : List (Int × Int)) (c : Nat) : Int × Int := gr.getD c (0, 0)

set_option maxHeartbeats 8000000 in
set_option maxRecDepth 100000 in
theorem fetch1_iter (n : Nat) (hn : 3 ≤ n) (W H cell dir : Nat) (sz s0 s1 : Int) (h0 : 1 ≤ W) (h1 : W ≤ 4) (h2 : 1 ≤ H) (h3 : H ≤ 4) (hc : cell < W * H) (hd8 : dir < 8) (gr : List (Int × Int)) (g cap : Nat) (gcs : Array Value) (gf : Nat × Nat) (hR : RowAt g (.cells gcs 46 gf) gr) (hgk : ∀ u ∈ gr, gok u) (hgl : gr.length = W * H)
    (sure : Bool) (bw bc bd bs q : Nat) (w : World) (hs0 : -1000000 ≤ s0 ∧ s0 ≤ 1000000) (hs1 : -1000000 ≤ s1 ∧ s1 ≤ 1000000)
    (x1 : w.heap[bw]? = some (.cells #[.int .i64 W, .int .i64 H, .int .i64 sz, .slice (some ⟨g, 0, none⟩) gr.length cap, .int .i64 s0, .int .i64 s1] 117 (0, 0))) (x2 : w.heap[bc]? = some (.cells #[.int .i64 cell] 3 (0, 0))) (x3 : w.heap[bd]? = some (.cells #[.int .i64 dir] 3 (0, 0))) (x4 : w.heap[bs]? = some (.cells #[.bool sure] 4 (0, 0)))
    (x5 : w.heap[g]? = some (.cells gcs 46 gf)) (hq : q < w.heap.size) :
    IterO Fence.wide n Try.prog 106 #[.pointer (some ⟨bw, 0, none⟩), .pointer (some ⟨bc, 0, none⟩), .pointer (some ⟨bd, 0, none⟩), .pointer (some ⟨bs, 0, none⟩)]
      (fun x : Fx (s0, s1) (grOf gr) sure (rayL W H cell dir) => #[.int .i64 (x.1.1 : Nat), .agg #[.int .i64 x.1.2.1, .int .i64 x.1.2.2]]) (KpQ q) (fun ys => ys.map Subtype.val = fetchX (s0, s1) (grOf gr) sure (rayL W H cell dir)) 5 w := by
  intro l J V hV hJ hY hj0
  have y1 := (hV.block _ (lt_of_heap x1)).trans x1
  have y2 := (hV.block _ (lt_of_heap x2)).trans x2
  have y3 := (hV.block _ (lt_of_heap x3)).trans x3
  have y4 := (hV.block _ (lt_of_heap x4)).trans x4
  have y5 := (hV.block _ (lt_of_heap x5)).trans x5
  have hqV : q < V.heap.size := by have := hV.size; omega
  clear x1 x2 x3 x4 x5 hV hq
  obtain ⟨gn, hgn⟩ : ∃ k, gr.length = k := ⟨_, rfl⟩
  rw [hgn] at y1 hgl
  have y1c := cells_of y1
  have y2c := cells_of y2
  have y3c := cells_of y3
  have l1 := lt_of_heap y1
  have l2 := lt_of_heap y2
  have l3 := lt_of_heap y3
  have Hy1 := Lib.hid y1; clear y1; have Hy4 := Lib.hid y4; clear y4; have Hy5 := Lib.hid y5; clear y5; have HhR := Lib.hid hR; clear hR; have Hhgk := Lib.hid hgk; clear hgk; have Hhgn := Lib.hid hgn; clear hgn; have Hhgl := Lib.hid hgl; clear hgl
  refine callsIn_of_wp_marks Try.func106 rfl trivial ?_ rfl
  simp only [Try.ntmps106, List.size_toArray, List.length_cons, List.length_nil, Nat.reduceAdd, Nat.reduceSub, Array.replicate_succ, Array.replicate_zero, List.push_toArray, List.append_toArray, List.nil_append, List.cons_append]
  refine wpIn_wide.2 ?_
  go_wp2_with fail
  refine (ray_any W H sz s0 s1 cell dir _ _ _ _).mono ?_
  rintro e w1 ⟨rfl, hb1, hz1, z0, z1, z2⟩
  have hbV : Below V.heap.size V w1 := (by repeat (first | exact Below.refl _ _ | (refine bl_setCell ?_ _ _ ?_; rotate_left; focus (first | omega | (simp; done) | (simp; omega))) | refine bl_alloc ?_ _ | refine bl_step ?_ (by assumption) | refine bl_drew ?_ | refine bl_drewN ?_ _))
  obtain ⟨s, hs⟩ : ∃ k, V.heap.size + 1 = k := ⟨_, rfl⟩
  simp only [World.size_alloc] at hz1 z0 z1 z2
  rw [hs] at hz1 z0 z1 z2
  have z5 : w1.heap[V.heap.size]? = some (.cells #[.func (.yield l) #[] #[]] 184 (0, 0)) := heap_below hb1 (by repeat (first | (refine heap_alloc_at' _ _ ?_; focus (simp; done)) | refine heap_alloc_off ?_ _))
  have hFM : FM #[.int .i64 W, .int .i64 H, .int .i64 sz, .slice (some ⟨g, 0, none⟩) gn cap, .int .i64 s0, .int .i64 s1] gcs gf cell dir sure (.func (.yield l) #[] #[]) bw bs V.heap.size s g w1 :=
    ⟨heap_below hbV Hy1.out, heap_below hbV Hy4.out, z5, z0, z1, z2, heap_below hbV Hy5.out⟩
  have hjw : J [] w1 := hJ [] V w1 none hj0 (below_grown hbV) (fun r e => by cases e)
  clear y1c y2c y3c l1 l2 l3 hb1 z5 hj0 Hy1 Hy4 Hy5 y2 y3
  have HhFM := Lib.hid hFM; clear hFM; have Hhjw := Lib.hid hjw; clear hjw
  go_wp2_with fail
  have hVw : V.heap.size ≤ w1.heap.size := hbV.size
  have hsw : s + 3 ≤ w1.heap.size := by omega
  refine (wpIn_wide (n := n)).1 ?_
  refine wpIn_rangeFunc_ownH rfl (by omega) (gf := 110) (lb := #[.pointer (some ⟨s + 2, 0, none⟩), .pointer (some ⟨s + 1, 0, none⟩), .pointer (some ⟨s, 0, none⟩)]) rfl trivial (enters_of Try.func110 (by kernel_rfl) rfl)
    (ray_stops _ (by omega) (s + 2) (s + 1) s W H cell dir sz s0 s1 (some ⟨g, 0, none⟩) gn cap h0 h1 h2 h3 hc hd8 w1 z2 z1 z0) kpR_t (kpR_b (by omega) (by omega) (by omega)) (Below.refl _ _) (fun _ => rfl)
    (fun pre X => (∃ ys : List (Fx (s0, s1) (grOf gr) sure (rayL W H cell dir)), ys.map Subtype.val = (pre.map Subtype.val).map (depthX (s0, s1) (grOf gr)) ∧ J ys X) ∧ FM #[.int .i64 W, .int .i64 H, .int .i64 sz, .slice (some ⟨g, 0, none⟩) gn cap, .int .i64 s0, .int .i64 s1] gcs gf cell dir sure (.func (.yield l) #[] #[]) bw bs V.heap.size s g X)
    (fun c pre X => c = .ret ∧ ∃ (p : List (Ry W H cell dir)) (x : Ry W H cell dir) (ys : List (Fx (s0, s1) (grOf gr) sure (rayL W H cell dir))), pre = p ++ [x] ∧ overS sure (depthS (s0, s1) (grOf gr) x.1) = false ∧ ys.map Subtype.val = (p.map Subtype.val).map (depthX (s0, s1) (grOf gr)) ∧ J ys X)
    (fun pre X X' row hh hg hr => by
      obtain ⟨⟨ys, hy, hj⟩, hm⟩ := hh
      exact ⟨⟨ys, hy, hJ ys X X' row hj hg fun r e => ⟨by have := (hr r e).1; omega, (hr r e).2⟩⟩, hm.grown hg fun r e => (hr r e).2⟩)
    (fun c pre X X' row hh hg hr => by
      obtain ⟨hc, p, x, ys, e1, e2, hy, hj⟩ := hh
      exact ⟨hc, p, x, ys, e1, e2, hy, hJ ys X X' row hj hg fun r e => ⟨by have := (hr r e).1; omega, (hr r e).2⟩⟩)
    ⟨⟨[], rfl, Hhjw.out⟩, HhFM.out⟩
    (fun x a' _ => a' = { tmps := #[.func (.yield l) #[] #[], .pointer (some ⟨bw, 0, none⟩), .pointer (some ⟨bc, 0, none⟩), .pointer (some ⟨bd, 0, none⟩), .pointer (some ⟨bs, 0, none⟩), .pointer (some ⟨V.heap.size, 0, none⟩), .int .i64 (x.1 : Nat), undef, .agg #[.int .i64 W, .int .i64 H, .int .i64 sz, .slice (some ⟨g, 0, none⟩) gn cap, .int .i64 s0, .int .i64 s1], .int .i64 cell, .int .i64 dir, .func (.func 110) #[] #[.pointer (some ⟨s + 2, 0, none⟩), .pointer (some ⟨s + 1, 0, none⟩), .pointer (some ⟨s, 0, none⟩)], .int .i64 (x.1 : Nat), undef, undef, undef, undef, undef, undef, undef, undef, undef, undef, undef, undef, undef, undef, undef, undef, undef, undef, undef, undef, undef, undef, undef], defers := [] })
    (fun x a' _ X Y row hs hg hr => hs)
    ?assign ?body ?done ?stop
  case assign =>
    intro l2 pre x W2 K2 hi2 hK2
    have HK2 := Lib.hid hK2
    have HI2 := Lib.hid hi2
    clear hK2 hi2
    gi_wp2
    exact HK2.out _ _ ((KeepsOthers.refl _).from _) ⟨Nat.le_refl _, rfl, rfl, rfl, fun _ _ h => h⟩ HI2.out rfl
  case body =>
    rintro l2 pre ⟨c, hcr⟩ a' W2 hl2 ⟨r2, hr2⟩ ⟨⟨ys, hys, hj⟩, hM⟩ rfl hpl
    have hcl : c < W * H := by have := rayF_lt _ _ _ c hcr; exact_mod_cast this
    obtain ⟨d1, hd1⟩ : ∃ d, s0 - (gr.getD c (0, 0)).2 = d := ⟨_, rfl⟩
    obtain ⟨d2, hd2⟩ : ∃ d, s1 - (gr.getD c (0, 0)).1 = d := ⟨_, rfl⟩
    have hdep : depthS (s0, s1) (grOf gr) c = (d1, d2) := by rw [← hd1, ← hd2]; rfl
    have hD := udepth_any W2.heap.size W H sz s0 s1 gr (some ⟨g, 0, none⟩) cap c W2 ((HhR.out W2 hM.hg).mono (by have := lt_of_heap hM.hg; omega)) (Nat.le_refl _) (by omega) (by have := Hhgn.out; have := Hhgl.out; omega) Hhgk.out hs0 hs1
    rw [Int.toNat_natCast, hd1, hd2, Hhgn.out] at hD
    obtain ⟨cI, hcI⟩ : ∃ z : Int, (c : Int) = z := ⟨_, rfl⟩
    have hwc := cells_of hM.hw
    have hwl := lt_of_heap hM.hw
    have hys5 : ys.length < 5 := by have := congrArg List.length hys; simp only [List.length_map] at this; omega
    have HJ := Lib.hid hj
    have HD := Lib.hid hD
    clear hj hD hd1 hd2
    have HhM := Lib.hid hM; clear hM; have Hhys := Lib.hid hys; clear hys; have Hhdep := Lib.hid hdep; clear hdep; have HhcI := Lib.hid hcI; clear hcI
    gi_wp2_with fail
    refine ⟨trivial, fun _ => by omega, ?_⟩
    refine (CallsIn.inRound l2 (callsIn_wide.2 HD.out)).mono ?_
    rintro e w6 ⟨rfl, hb6⟩
    have hM6 := HhM.out.below hb6
    have hsc := cells_of hM6.hs
    have hsl := lt_of_heap hM6.hs
    have hyc := cells_of hM6.hy
    have hyl := lt_of_heap hM6.hy
    have hj6 : J ys w6 := hJ ys W2 w6 none HJ.out (below_grown hb6) (fun r e => by cases e)
    have hwz : Below W2.heap.size W2 (w6.alloc (.cells #[.int .i64 d1, .int .i64 d2] 122)) := bl_alloc hb6 _
    have hMz := HhM.out.below hwz
    have hjz : J ys (w6.alloc (.cells #[.int .i64 d1, .int .i64 d2] 122)) := hJ ys w6 _ none hj6 (World.grownBy_alloc _ _ none) (fun r e => by cases e)
    have hkb : KpR (s + 2) (s + 1) s W2 (w6.alloc (.cells #[.int .i64 d1, .int .i64 d2] 122)) := ⟨hwz.size, hwz.block _ (lt_of_heap HhM.out.r2), hwz.block _ (lt_of_heap HhM.out.r1), hwz.block _ (lt_of_heap HhM.out.r0), fun k cs h => heap_below hwz h⟩
    have hkf : KeepsFrom w1.heap.size W2 (w6.alloc (.cells #[.int .i64 d1, .int .i64 d2] 122)) := ⟨hwz.size, fun k o _ h _ => heap_below hwz h⟩
    have hs1q : s + 1 ≠ q := by omega
    have hs2q : s + 2 ≠ q := by omega
    clear hwc hwl hwz
    by_cases ho : overS sure (d1, d2) = true
    · as_aux_lemma =>
      have hel : (c, (d1, d2)) ∈ (rayL W H cell dir).map (depthX (s0, s1) (grOf gr)) := List.mem_map.2 ⟨c, hcr, by unfold depthX; rw [Hhdep.out]⟩
      obtain ⟨fn, tmps, assign, body, hy, hR'⟩ := anyDepthY (F := Fence.wide) rfl (n - 1 - 1 - 1) (hY ys ⟨(c, (d1, d2)), hel, ho⟩ (w6.alloc (.cells #[.int .i64 d1, .int .i64 d2] 122)) hjz hys5)
      dsimp only at hy
      have ho' := ho
      have hfin : ∀ W3, (J (ys ++ [⟨(c, (d1, d2)), hel, ho⟩]) W3 ∧ KpQ q (w6.alloc (.cells #[.int .i64 d1, .int .i64 d2] 122)) W3 ∧ KeepsFrom V.heap.size (w6.alloc (.cells #[.int .i64 d1, .int .i64 d2] 122)) W3) → KeepsFrom w1.heap.size W2 W3 ∧ KpR (s + 2) (s + 1) s W2 W3 ∧ (∃ ys : List (Fx (s0, s1) (grOf gr) sure (rayL W H cell dir)), ys.map Subtype.val = ((pre ++ [(⟨c, hcr⟩ : Ry W H cell dir)]).map Subtype.val).map (depthX (s0, s1) (grOf gr)) ∧ J ys W3) ∧ FM #[.int .i64 W, .int .i64 H, .int .i64 sz, .slice (some ⟨g, 0, none⟩) gn cap, .int .i64 s0, .int .i64 s1] gcs gf cell dir sure (.func (.yield l) #[] #[]) bw bs V.heap.size s g W3 := by
        rintro W3 ⟨hj3, hk3, hkf3⟩
        refine ⟨hkf.trans ⟨hkf3.size, fun k o hB hk ho => hkf3.same k o (by omega) hk ho⟩, kpR_t hkb (hMz.kpr hk3 hs1q hs2q), ⟨_, ?_, hj3⟩, hMz.kpq hk3 hs1q hs2q⟩
        rw [List.map_append, List.map_append, List.map_append, Hhys.out]
        simp only [List.map_cons, List.map_nil, depthX]
        rw [Hhdep.out]
      have HF := Lib.hid hfin
      clear hfin hjz hkb hkf hY
      have HhM6 := Lib.hid hM6; clear hM6; have Hhj6 := Lib.hid hj6; clear hj6; have Hhb6 := Lib.hid hb6; clear hb6; have HhMz := Lib.hid hMz; clear hMz
      cases sure
      · have o2 := over_false.1 ho
        simp only at o2
        clear ho'
        gi_wp2_with fail
        refine ⟨fun _ => by omega, ?_⟩
        refine (show RoundIn (Fence.wide.inRound l2) (n - 1 - 1 - 1) Try.prog l fn tmps assign body _ _ from hR').mono ?_
        rintro e W3 ⟨rfl, h3⟩
        have H3 := Lib.hid h3
        clear h3 hR' hy
        gi_wp2_with fail
        exact HF.out _ H3.out
      · obtain ⟨o1, o2⟩ := over_true.1 ho
        simp only at o1 o2
        clear ho'
        gi_wp2_with fail
        refine ⟨fun _ => by omega, ?_⟩
        refine (show RoundIn (Fence.wide.inRound l2) (n - 1 - 1 - 1) Try.prog l fn tmps assign body _ _ from hR').mono ?_
        rintro e W3 ⟨rfl, h3⟩
        have H3 := Lib.hid h3
        clear h3 hR' hy
        gi_wp2_with fail
        exact HF.out _ H3.out
    · as_aux_lemma =>
      have hov : overS sure (depthS (s0, s1) (grOf gr) c) = false := by rw [Hhdep.out]; simpa using ho
      have HF := Lib.hid (show KeepsFrom w1.heap.size W2 (w6.alloc (.cells #[.int .i64 d1, .int .i64 d2] 122)) ∧ (Code.ret = .ret ∧ ∃ (p : List (Ry W H cell dir)) (x : Ry W H cell dir) (ys : List (Fx (s0, s1) (grOf gr) sure (rayL W H cell dir))), pre ++ [(⟨c, hcr⟩ : Ry W H cell dir)] = p ++ [x] ∧ overS sure (depthS (s0, s1) (grOf gr) x.1) = false ∧ ys.map Subtype.val = (p.map Subtype.val).map (depthX (s0, s1) (grOf gr)) ∧ J ys (w6.alloc (.cells #[.int .i64 d1, .int .i64 d2] 122))) from ⟨hkf, rfl, pre, ⟨c, hcr⟩, ys, rfl, hov, Hhys.out, hjz⟩)
      have hcase : (sure = true ∧ d1 < 1) ∨ (d2 < 1 ∧ (sure = false ∨ 1 ≤ d1)) := by
        cases sure
        · right
          have : ¬ 1 ≤ d2 := fun h => ho (over_false.2 h)
          exact ⟨by omega, .inl rfl⟩
        · by_cases h1 : d1 < 1
          · exact .inl ⟨rfl, h1⟩
          · right
            refine ⟨?_, .inr (by omega)⟩
            have : ¬ 1 ≤ d2 := fun h => ho (over_true.2 ⟨by show 1 ≤ d1; omega, h⟩)
            omega
      clear hov ho hjz hkb hkf hY
      have HhM6 := Lib.hid hM6; clear hM6; have Hhj6 := Lib.hid hj6; clear hj6; have Hhb6 := Lib.hid hb6; clear hb6; have HhMz := Lib.hid hMz; clear hMz
      rcases hcase with ⟨rfl, o1⟩ | ⟨o2, rfl | o1⟩
      · gi_wp2_with fail
        refine ⟨fun _ h => (by cases h), ?_⟩
        gi_wp2_with fail
        exact ⟨HF.out.1, rfl, HF.out.2.2⟩
      · gi_wp2_with fail
        refine ⟨fun _ h => (by cases h), ?_⟩
        gi_wp2_with fail
        exact ⟨HF.out.1, rfl, HF.out.2.2⟩
      · cases sure
        all_goals
          gi_wp2_with fail
          refine ⟨fun _ h => (by cases h), ?_⟩
          gi_wp2_with fail
          exact ⟨HF.out.1, rfl, HF.out.2.2⟩
  case done =>
    rintro D xs X hD hS ⟨⟨ys, hys, hj⟩, hM⟩ hK
    go_wp2_with fail
    refine ⟨by simp, .inl ⟨_, _, rfl, run_takeDeferred hK, ?_⟩⟩
    rw [hS] at hys
    exact ⟨_, results_none rfl _ _ _, ⟨_, rfl⟩, ys, fetchX_all hys, hJ ys X _ (some D) hj (grownBy_putObj' _ D (.deferred none)) (fun r e => by cases e; exact ⟨by omega, _, hK, rfl⟩)⟩
  case stop =>
    rintro D c pre X hD hSp ⟨rfl, p, x, ys, rfl, hov, hys, hj⟩ hK
    gi_wp2_with fail
    refine ⟨by simp, .inl ⟨_, _, rfl, run_takeDeferred hK, ?_⟩⟩
    rw [List.map_append] at hSp
    exact ⟨_, results_none rfl _ _ _, ⟨_, rfl⟩, ys, fetchX_stop hys hSp hov, hJ ys X _ (some D) hj (grownBy_putObj' _ D (.deferred none)) (fun r e => by cases e; exact ⟨by omega, _, hK, rfl⟩)⟩
end Go.Proofs.Ytfbmjecikilghaa
