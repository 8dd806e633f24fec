/- The chapter's example of a gate that waits for low water. -/
import Derived.Test.YtahoobhjabhfmaaConv
namespace Go.Proofs.Ytahoobhjabhfmaa
open Go.RowKit

def wpts : List Part := [⟨100, 3600000, 0⟩, ⟨50, 7200000, 900⟩]
theorem wpts_good : ∀ p ∈ wpts, p.good := by
  intro p hp
  simp [wpts] at hp
  rcases hp with rfl | rfl <;> (unfold Part.good; decide)
def wstp : Stp := ⟨⟨#[97]⟩, [], 1000, 2000, true⟩
theorem wstp_good : wstp.good 0 := by
  refine ⟨by decide, by decide, ?_, by decide, by simp [wstp], by simp [wstp], by decide, by decide, by decide⟩
  intro k hk
  obtain rfl : k = 0 := by have : k < 1 := hk; omega
  have h : 97 ≤ ((wstp.name[0]'(by decide)).toNat : Int) ∧ ((wstp.name[0]'(by decide)).toNat : Int) ≤ 122 := by decide
  exact h
theorem wstp_ok : StpsOk [wstp] where
  few := by decide
  each := by
    intro i hi
    obtain rfl : i = 0 := by simp at hi; omega
    exact wstp_good
  names := by intro i j hi hj h; simp at hj; omega
theorem works_ends (b : Int) (h : 1502000 ≤ b) : closeT (0, 1500000) [(1200000, b)] [wstp] = [(1201000, 1502000)] := by
  have e1 : slotT 0 1000 [(1200000, b)] = 1201000 := by simp [slotT]; omega
  have e2 : slotT 1500000 2000 [(1200000, b)] = 1502000 := by simp [slotT]; omega
  show [(endT true 0 1000 [(1200000, b)], endT true 1500000 2000 [(1200000, b)])] = _
  simp [endT, e1, e2]
theorem works_all : allT (0, 1500000) [(1201000, 1502000)] = (1201000, 1502000) := by decide

/-- The model of the example in memory. -/
def WorksM (w : World) (W : World) : Prop := Below (w.heap.size + 2) W W ∧
  W.heap[w.heap.size]? = some (.cells #[.int .i64 100, .int .i64 3600000, .int .i64 0, .int .i64 50, .int .i64 7200000, .int .i64 900] 56 (0, 0)) ∧
  W.heap[w.heap.size + 1]? = some (.cells #[.int .i64 10, .slice (some ⟨w.heap.size, 0, none⟩) 2 2] 33 (0, 0)) ∧ Below w.heap.size w W

theorem worksM_below {w W W' : World} (h : WorksM w W) (hb : Below W.heap.size W W') : WorksM w W' :=
  ⟨Below.refl _ _, heap_below hb h.2.1, heap_below hb h.2.2.1, bl_step h.2.2.2 hb⟩
theorem worksM_model {w W : World} (h : WorksM w W) : ModelM (w.heap.size + 1) W 10 wpts (some ⟨w.heap.size, 0, none⟩) := by
  have hc := cells_of h.2.1
  refine ⟨⟨by decide, fun k hk => ⟨w.heap.size, 0, rfl, by omega, ?_⟩⟩, wpts_good, by decide, by decide, by decide⟩
  have hk' : k = 0 ∨ k = 1 := by simp [wpts] at hk; omega
  rcases hk' with rfl | rfl
  · exact ⟨hc 0, hc 1, hc 2⟩
  · exact ⟨hc 3, hc 4, hc 5⟩

set_option maxHeartbeats 8000000 in
set_option maxRecDepth 100000 in
theorem slackWorks_ok (w : World) : Calls Try.prog 4 #[] w fun e w' => e = .returned (.bool true) ∧ Below w.heap.size w w' := by
  go_enter Try.func4, Try.ntmps4
  go_upto_region 2 with fail
  have hM0 : WorksM w ((w.alloc (.cells #[.int .i64 100, .int .i64 3600000, .int .i64 0, .int .i64 50, .int .i64 7200000, .int .i64 900] 56)).alloc (.cells #[.int .i64 10, .slice (some ⟨w.heap.size, 0, none⟩) 2 2] 33)) :=
    ⟨Below.refl _ _, heap_alloc_off (heap_alloc_at' _ _ rfl) _, heap_alloc_at' _ _ (by simp), (by repeat (first | exact Below.refl _ _ | (refine bl_setCell ?_ _ _ ?_; rotate_left; focus (first | omega | (simp; done) | (simp; omega))) | refine bl_alloc ?_ _ | refine bl_step ?_ (by assumption) | refine bl_drew ?_ | refine bl_drewN ?_ _))⟩
  generalize ((w.alloc (.cells #[.int .i64 100, .int .i64 3600000, .int .i64 0, .int .i64 50, .int .i64 7200000, .int .i64 900] 56)).alloc (.cells #[.int .i64 10, .slice (some ⟨w.heap.size, 0, none⟩) 2 2] 33)) = wc at hM0 ⊢
  have hbx := cells_of hM0.2.2.1
  have hbl := lt_of_heap hM0.2.2.1
  have hI : Below wc.heap.size wc wc.drew := (Below.refl _ _).drew
  have HM := Lib.hid hM0
  clear hM0
  refine wp_region_ord (fun W => Below wc.heap.size wc W) [([0], 1), ([], 2)] [3, 4, 5, 6, 7] none (by kernel_rfl) (by kernel_rfl) hI ?_
  refine OrdI_cons ?_
  (apply StI_plain (w0 := wc.drew) hI rfl rfl rfl rfl; (focus (intro W hW K hK; obtain ⟨_, _⟩ := bk (w.heap.size + 1) hW hbl; go_step; exact hK)); (focus rfl))
  (apply StI_eff rfl; go_wp2_with (first | (go_at_call 6; refine (tspan_any _ _ _).mono ?_; rintro e w1 ⟨rfl, hb1⟩)))
  have hI1 : Below wc.heap.size wc w1 := below_mid hI (Nat.le_refl _) hb1
  have hM1 := worksM_below HM.out hI1
  refine onNormal_mk hI1 (OrdI_cons ?_)
  (apply StI_eff rfl; go_wp2_with (first | (go_at_call 7; refine (windows_ok 10 wpts (some ⟨w.heap.size, 0, none⟩) 2 (w.heap.size + 1) 0 3600000 600000 20 w1 (worksM_model hM1) (by have := lt_of_heap hM1.2.2.1; omega) (by omega) (by omega) (by omega) (by omega) (by omega) (by decide) (by omega) (by omega) (by omega)).mono ?_; rintro e w2 ⟨xs, v, rfl, hcut, hrow, hb2⟩)))
  have hI2 : Below wc.heap.size wc w2 := below_mid hI1 (Nat.le_refl _) hb2
  obtain ⟨b, hout, hb0, hb1'⟩ := works_win xs hcut
  have hout' : (win 10 wpts 20 xs).out = [(1200000, b)] := hout
  rw [hout'] at hrow
  obtain ⟨aw, cw, hv, hSw⟩ := sl_spans hrow (by simp)
  subst hv
  have HSW := Lib.hid hSw
  have HB2 := Lib.hid (bl_step HM.out.2.2.2 hI2)
  clear hSw hrow hcut hout hout' hM1 hb2 hb1 hbx hbl
  refine onNormal_mk hI2 (OrdI_fin ?_)
  (apply StI_plain (w0 := w2) hI2 rfl rfl rfl rfl; (focus (intro W hW K hK; skip; go_step; exact hK)); (focus rfl)); (apply StI_plain (w0 := w2) hI2 rfl rfl rfl rfl; (focus (intro W hW K hK; skip; go_step; exact hK)); (focus rfl)); (apply StI_plain (w0 := w2) hI2 rfl rfl rfl rfl; (focus (intro W hW K hK; skip; go_step; exact hK)); (focus rfl)); (apply StI_plain (w0 := w2) hI2 rfl rfl rfl rfl; (focus (intro W hW K hK; skip; go_step; exact hK)); (focus rfl)); (apply StI_plain (w0 := w2) hI2 rfl rfl rfl rfl; (focus (intro W hW K hK; skip; go_step; exact hK)); (focus rfl))
  refine StI_nil ?_
  clear hI hI1 hI2
  go_wp2_with fail
  refine (tspan_any _ _ _).mono ?_
  rintro e w3 ⟨rfl, hb3⟩
  go_wp2_with fail
  refine (tspan_any _ _ _).mono ?_
  rintro e w4 ⟨rfl, hb4⟩
  go_wp2_with fail
  have z4 : w4.heap[w3.heap.size]? = some (.cells #[.string ⟨#[97]⟩, .slice none 0 0, .int .i64 1000, .int .i64 2000, .bool true, .bool false, .int .i64 0] 49 (0, 0)) := heap_below hb4 (by repeat (first | (refine heap_alloc_at' _ _ ?_; focus (simp; done)) | refine heap_alloc_off ?_ _))
  have hbw4 : Below w.heap.size w w4 := bl_step (bl_alloc (bl_step HB2.out hb3) _) hb4
  have hSW4 := HSW.out.below (ek_span _) (bl_step ((Below.refl _ w2).trans hb3 |>.trans (bl_alloc (Below.refl _ w3) _ |>.mono hb3.size)) hb4)
  have z4c := cells_of z4
  have z4l := lt_of_heap z4
  have hstp : Sl (StpE w4.heap.size) 7 w4.heap.size w4 (some ⟨w3.heap.size, 0, none⟩) [wstp] := ⟨by decide, fun k hk => by
    obtain rfl : k = 0 := by simp at hk; omega
    exact ⟨_, _, rfl, z4l, none, 0, Nat.le_refl 0, Nat.zero_le _, z4c 0, z4c 1, z4c 2, z4c 3, z4c 4, z4c 5, z4c 6, Nat.zero_le _, fun k hk => by simp [wstp] at hk⟩⟩
  have hsz2 : w2.heap.size ≤ w4.heap.size := by have := hb3.size; have := hb4.size; simp at this; omega
  have hcl := closing_ok [wstp] (some ⟨w3.heap.size, 0, none⟩) aw 1 cw w4.heap.size 0 1500000 [(1200000, b)] w4 (Nat.le_refl _) hstp wstp_ok (by decide) (by decide)
    ⟨by simp, fun k hk => by obtain ⟨b', o, h1, h2, h3⟩ := hSW4.2 k hk; exact ⟨b', o, h1, by omega, h3⟩⟩ ⟨by simp, by intro u hu; simp at hu; subst hu; simp; omega, by simp⟩ (by omega) (by omega) (by omega)
  rw [works_ends b hb0, works_all] at hcl
  have HB4 := Lib.hid hbw4
  clear hstp hSW4 z4c z4 hb3 hb4 HB2 HSW hbw4
  refine hcl.mono ?_
  rintro e w5 ⟨v5, rfl, hrow5, hb5⟩
  obtain ⟨a5, c5, hv5, hS5⟩ := sl_spans (ws := [(1201000, 1502000)]) hrow5 (by decide)
  subst hv5
  obtain ⟨g5, o5, ha5, hg5, he5⟩ := hS5.2 0 (by decide)
  subst ha5
  obtain ⟨e50, e51⟩ := he5
  simp only [List.getElem_cons_zero, Nat.zero_mul, Nat.add_zero] at e50 e51
  have HB5 := Lib.hid (bl_step HB4.out hb5)
  clear hcl hrow5 hS5 hb5
  go_upto_region 4 with fail
  have k0 : (w5.alloc (.cells #[.int .i64 1201000, .int .i64 1502000] 36)).heap[w5.heap.size]? = some (.cells #[.int .i64 1201000, .int .i64 1502000] 36 (0, 0)) := heap_alloc_at _ _
  have hg5' : g5 < (w5.alloc (.cells #[.int .i64 1201000, .int .i64 1502000] 36)).heap.size := by simp; omega
  have f50 : (w5.alloc (.cells #[.int .i64 1201000, .int .i64 1502000] 36)).cell? ⟨g5, o5, none⟩ = some (.int .i64 1201000) := (World.cell?_of_block (a := ⟨g5, o5, none⟩) (Below.heap_alloc _ _ _ hg5)).trans e50
  have f51 : (w5.alloc (.cells #[.int .i64 1201000, .int .i64 1502000] 36)).cell? ⟨g5, o5 + 1, none⟩ = some (.int .i64 1502000) := (World.cell?_of_block (a := ⟨g5, o5 + 1, none⟩) (Below.heap_alloc _ _ _ hg5)).trans e51
  have hB6 := Lib.hid (bl_alloc HB5.out (.cells #[.int .i64 1201000, .int .i64 1502000] 36))
  generalize hq5 : w5.heap.size = q5 at k0 ⊢
  generalize (w5.alloc (.cells #[.int .i64 1201000, .int .i64 1502000] 36)) = wz at k0 hg5' f50 f51 hB6 ⊢
  have k0c := cells_of k0
  have k0l := lt_of_heap k0
  have hI : Below wz.heap.size wz wz.drew := (Below.refl _ _).drew
  clear e50 e51 hg5 hq5
  have K0 := Lib.hid k0
  clear k0
  refine wp_region_ord (fun W => Below wz.heap.size wz W) [([0, 1, 2, 3, 4, 5, 6, 7, 8, 9, 10, 11, 12, 13, 14], 15)] [16, 17, 18, 19, 20, 21, 22, 23, 24, 25] none (by kernel_rfl) (by kernel_rfl) hI ?_
  refine OrdI_cons ?_
  (apply StI_plain (w0 := wz.drew) hI rfl rfl rfl rfl; (focus (intro W hW K hK; obtain ⟨_, _⟩ := bk g5 hW hg5'; go_step; exact hK)); (focus rfl)); (apply StI_plain (w0 := wz.drew) hI rfl rfl rfl rfl; (focus (intro W hW K hK; obtain ⟨_, _⟩ := bk g5 hW hg5'; go_step; exact hK)); (focus rfl)); (apply StI_plain (w0 := wz.drew) hI rfl rfl rfl rfl; (focus (intro W hW K hK; obtain ⟨_, _⟩ := bk g5 hW hg5'; go_step; exact hK)); (focus rfl)); (apply StI_yes (w0 := wz.drew) hI; (focus rfl); (focus rfl); (focus rfl); (focus rfl); (focus rfl); (focus rfl); (focus rfl); (focus (intro W hW K hK; obtain ⟨_, _⟩ := bk g5 hW hg5'; go_step; exact hK)); (focus rfl)); (apply StI_yes (w0 := wz.drew) hI; (focus rfl); (focus rfl); (focus rfl); (focus rfl); (focus rfl); (focus rfl); (focus rfl); (focus (intro W hW K hK; obtain ⟨_, _⟩ := bk g5 hW hg5'; go_step; exact hK)); (focus rfl)); (apply StI_plain (w0 := wz.drew) hI rfl rfl rfl rfl; (focus (intro W hW K hK; obtain ⟨_, _⟩ := bk g5 hW hg5'; go_step; exact hK)); (focus rfl)); (apply StI_plain (w0 := wz.drew) hI rfl rfl rfl rfl; (focus (intro W hW K hK; obtain ⟨_, _⟩ := bk g5 hW hg5'; go_step; exact hK)); (focus rfl)); (apply StI_yes (w0 := wz.drew) hI; (focus rfl); (focus rfl); (focus rfl); (focus rfl); (focus rfl); (focus rfl); (focus rfl); (focus (intro W hW K hK; obtain ⟨_, _⟩ := bk g5 hW hg5'; go_step; exact hK)); (focus rfl)); (apply StI_yes (w0 := wz.drew) hI; (focus rfl); (focus rfl); (focus rfl); (focus rfl); (focus rfl); (focus rfl); (focus rfl); (focus (intro W hW K hK; obtain ⟨_, _⟩ := bk g5 hW hg5'; go_step; exact hK)); (focus rfl)); (apply StI_yes (w0 := wz.drew) hI; (focus rfl); (focus rfl); (focus rfl); (focus rfl); (focus rfl); (focus rfl); (focus rfl); (focus (intro W hW K hK; obtain ⟨_, _⟩ := bk g5 hW hg5'; go_step; exact hK)); (focus rfl)); (apply StI_plain (w0 := wz.drew) hI rfl rfl rfl rfl; (focus (intro W hW K hK; obtain ⟨_, _⟩ := bk g5 hW hg5'; go_step; exact hK)); (focus rfl)); (apply StI_plain (w0 := wz.drew) hI rfl rfl rfl rfl; (focus (intro W hW K hK; obtain ⟨_, _⟩ := bk g5 hW hg5'; go_step; exact hK)); (focus rfl)); (apply StI_yes (w0 := wz.drew) hI; (focus rfl); (focus rfl); (focus rfl); (focus rfl); (focus rfl); (focus rfl); (focus rfl); (focus (intro W hW K hK; obtain ⟨_, _⟩ := bk g5 hW hg5'; go_step; exact hK)); (focus rfl)); (apply StI_yes (w0 := wz.drew) hI; (focus rfl); (focus rfl); (focus rfl); (focus rfl); (focus rfl); (focus rfl); (focus rfl); (focus (intro W hW K hK; obtain ⟨_, _⟩ := bk g5 hW hg5'; go_step; exact hK)); (focus rfl)); (apply StI_yes (w0 := wz.drew) hI; (focus rfl); (focus rfl); (focus rfl); (focus rfl); (focus rfl); (focus rfl); (focus rfl); (focus (intro W hW K hK; obtain ⟨_, _⟩ := bk g5 hW hg5'; go_step; exact hK)); (focus rfl))
  (apply StI_eff rfl; go_wp2_with (first | (go_at_call 6; refine (tspan_any _ _ _).mono ?_; rintro e w6 ⟨rfl, hb6⟩)))
  have hI6 : Below wz.heap.size wz w6 := below_mid hI (Nat.le_refl _) hb6
  refine onNormal_mk hI6 (OrdI_fin ?_)
  (apply StI_yes (w0 := w6) hI6; (focus rfl); (focus rfl); (focus rfl); (focus rfl); (focus rfl); (focus rfl); (focus rfl); (focus (intro W hW K hK; obtain ⟨_, _⟩ := bk g5 hW hg5'; obtain ⟨_, _⟩ := bk q5 hW k0l; go_step; exact hK)); (focus rfl)); (apply StI_plain (w0 := w6) hI6 rfl rfl rfl rfl; (focus (intro W hW K hK; obtain ⟨_, _⟩ := bk g5 hW hg5'; obtain ⟨_, _⟩ := bk q5 hW k0l; go_step; exact hK)); (focus rfl)); (apply StI_plain (w0 := w6) hI6 rfl rfl rfl rfl; (focus (intro W hW K hK; obtain ⟨_, _⟩ := bk g5 hW hg5'; obtain ⟨_, _⟩ := bk q5 hW k0l; go_step; exact hK)); (focus rfl)); (apply StI_yes (w0 := w6) hI6; (focus rfl); (focus rfl); (focus rfl); (focus rfl); (focus rfl); (focus rfl); (focus rfl); (focus (intro W hW K hK; obtain ⟨_, _⟩ := bk g5 hW hg5'; obtain ⟨_, _⟩ := bk q5 hW k0l; go_step; exact hK)); (focus rfl)); (apply StI_yes (w0 := w6) hI6; (focus rfl); (focus rfl); (focus rfl); (focus rfl); (focus rfl); (focus rfl); (focus rfl); (focus (intro W hW K hK; obtain ⟨_, _⟩ := bk g5 hW hg5'; obtain ⟨_, _⟩ := bk q5 hW k0l; go_step; exact hK)); (focus rfl)); (apply StI_yes (w0 := w6) hI6; (focus rfl); (focus rfl); (focus rfl); (focus rfl); (focus rfl); (focus rfl); (focus rfl); (focus (intro W hW K hK; obtain ⟨_, _⟩ := bk g5 hW hg5'; obtain ⟨_, _⟩ := bk q5 hW k0l; go_step; exact hK)); (focus rfl)); (apply StI_yes (w0 := w6) hI6; (focus rfl); (focus rfl); (focus rfl); (focus rfl); (focus rfl); (focus rfl); (focus rfl); (focus (intro W hW K hK; obtain ⟨_, _⟩ := bk g5 hW hg5'; obtain ⟨_, _⟩ := bk q5 hW k0l; go_step; exact hK)); (focus rfl)); (apply StI_yes (w0 := w6) hI6; (focus rfl); (focus rfl); (focus rfl); (focus rfl); (focus rfl); (focus rfl); (focus rfl); (focus (intro W hW K hK; obtain ⟨_, _⟩ := bk g5 hW hg5'; obtain ⟨_, _⟩ := bk q5 hW k0l; go_step; exact hK)); (focus rfl)); (apply StI_plain (w0 := w6) hI6 rfl rfl rfl rfl; (focus (intro W hW K hK; obtain ⟨_, _⟩ := bk g5 hW hg5'; obtain ⟨_, _⟩ := bk q5 hW k0l; go_step; exact hK)); (focus rfl)); (apply StI_plain (w0 := w6) hI6 rfl rfl rfl rfl; (focus (intro W hW K hK; obtain ⟨_, _⟩ := bk g5 hW hg5'; obtain ⟨_, _⟩ := bk q5 hW k0l; go_step; exact hK)); (focus rfl))
  refine StI_nil ?_
  go_wp2_with fail
  go_ret
  exact ⟨rfl, bl_step hB6.out hI6⟩
end Go.Proofs.Ytahoobhjabhfmaa
