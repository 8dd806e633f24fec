/- tide: angles of a part, levels. -/
import Derived.Test.YtfbmjecikilghaaLevB
namespace Go.Proofs.Ytfbmjecikilghaa
open Go.RowKit

def PartE (w : World) (b o : Nat) (p : Part) : Prop :=
  w.cell? ⟨b, o, none⟩ = some (.int .i64 p.amp) ∧ w.cell? ⟨b, o + 1, none⟩ = some (.int .i64 p.period) ∧ w.cell? ⟨b, o + 2, none⟩ = some (.int .i64 p.phase)
theorem ek_part (B : Nat) : EK B PartE := fun _ _ _ _ _ hB hb ⟨h0, h1, h2⟩ => ⟨ek_cell hB hb h0, ek_cell hB hb h1, ek_cell hB hb h2⟩

/-- A part within its bounds. -/
def Part.good (p : Part) : Prop := 0 ≤ p.amp ∧ p.amp ≤ 1000 ∧ 1 ≤ p.period ∧ p.period ≤ 1000000000 ∧ 0 ≤ p.phase ∧ p.phase < 3600

theorem div_bd {a b : Int} (h0 : 0 ≤ a) (hb : 1 ≤ b) : 0 ≤ a / b ∧ a / b ≤ a := ⟨Int.ediv_nonneg h0 (by omega), Int.ediv_le_self _ h0⟩
theorem up_bd {a b : Int} (h0 : 0 ≤ a) (hb : 1 ≤ b) : 0 ≤ up a b ∧ up a b ≤ a := by
  unfold up
  have h1 : -a / b ≤ 0 := by
    have := Int.ediv_le_ediv (show 0 < b by omega) (show -a ≤ 0 by omega)
    simpa using this
  have h2 := Int.mul_ediv_add_emod (-a) b
  have h3 := Int.emod_lt_of_pos (-a) (show 0 < b by omega)
  have h4 := Int.emod_nonneg (-a) (show b ≠ 0 by omega)
  refine ⟨by omega, ?_⟩
  refine Decidable.byContradiction fun hc => ?_
  have h5 : -a / b + a + 1 ≤ 0 := by omega
  have h6 := Int.mul_le_mul_of_nonneg_left h5 (show 0 ≤ b by omega)
  rw [Int.mul_add, Int.mul_add] at h6
  have h7 := Int.mul_le_mul_of_nonneg_right hb h0
  omega

set_option maxHeartbeats 2000000 in
set_option maxRecDepth 100000 in
theorem angles_any (p : Part) (hp : p.good) (lo hi c d : Int) (hc : p.alo lo = c) (hd : p.ahi hi = d) (h0 : 0 ≤ lo) (h1 : lo ≤ 1000000000) (h2 : 0 ≤ hi) (h3 : hi ≤ 1000000000) (w : World) :
    Calls Try.prog 41 #[.agg #[.int .i64 p.amp, .int .i64 p.period, .int .i64 p.phase], .agg #[.int .i64 lo, .int .i64 hi]] w fun e w' => e = .returned (.agg #[.int .i64 c, .int .i64 d]) ∧ Below w.heap.size w w' := by
  obtain ⟨amp, per, ph⟩ := p
  obtain ⟨_, _, p0, p1, f0, f1⟩ := hp
  simp only [Part.alo, Part.ahi] at *
  obtain ⟨q, hq⟩ : ∃ q, 3600 * lo / per = q := ⟨_, rfl⟩
  obtain ⟨u, hu⟩ : ∃ u, up (3600 * hi) per = u := ⟨_, rfl⟩
  have bq := div_bd (a := 3600 * lo) (by omega) p0
  have bu := up_bd (a := 3600 * hi) (by omega) p0
  rw [hq] at hc bq
  rw [hu] at hd bu
  obtain ⟨bq0, bq1⟩ := bq
  obtain ⟨bu0, bu1⟩ := bu
  subst hc hd
  have d1 := down_val (3600 * lo) per q hq (by omega) (by omega) (by omega) (by omega)
  have d2 := up_any (3600 * hi) per u (by rw [← hu]; rfl) (by omega) (by omega) (by omega) (by omega)
  have Hhq := Lib.hid hq; clear hq; have Hhu := Lib.hid hu; clear hu
  go_enter Try.func41, Try.ntmps41
  go_upto_region 1 with fail
  obtain ⟨wc, hwc⟩ : ∃ wc, (((w.alloc (.cells #[.int .i64 amp, .int .i64 per, .int .i64 ph] 43)).alloc (.cells #[.int .i64 lo, .int .i64 hi] 83)).alloc (.cells #[.int .i64 0, .int .i64 0] 83)) = wc := ⟨_, rfl⟩
  have hsz : wc.heap.size = w.heap.size + 3 := by rw [← hwc]; simp
  have x0 : wc.heap[w.heap.size]? = some (.cells #[.int .i64 amp, .int .i64 per, .int .i64 ph] 43 (0, 0)) := by rw [← hwc]; exact heap_alloc_off (heap_alloc_off (heap_alloc_at' _ _ rfl) _) _
  have x1 : wc.heap[w.heap.size + 1]? = some (.cells #[.int .i64 lo, .int .i64 hi] 83 (0, 0)) := by rw [← hwc]; exact heap_alloc_off (heap_alloc_at' _ _ (by simp)) _
  have x2 : wc.heap[w.heap.size + 1 + 1]? = some (.cells #[.int .i64 0, .int .i64 0] 83 (0, 0)) := by rw [← hwc]; exact heap_alloc_at' _ _ (by simp)
  have hbw : Below w.heap.size w wc := by rw [← hwc]; exact (by repeat (first | exact Below.refl _ _ | (refine bl_setCell ?_ _ _ ?_; rotate_left; focus (first | omega | (simp; done) | (simp; omega))) | refine bl_alloc ?_ _ | refine bl_step ?_ (by assumption) | refine bl_drew ?_ | refine bl_drewN ?_ _))
  rw [hwc]
  have x0c := cells_of x0
  have x1c := cells_of x1
  have x2c := cells_of x2
  have x2f := frozen_of x2
  have l0 := lt_of_heap x0
  have l1 := lt_of_heap x1
  have l2 := lt_of_heap x2
  have hI : Below wc.heap.size wc wc.drew := (Below.refl _ _).drew
  have Hhwc := Lib.hid hwc; clear hwc; have Hhsz := Lib.hid hsz; clear hsz; have Hx0 := Lib.hid x0; clear x0; have Hx1 := Lib.hid x1; clear x1; have Hx2 := Lib.hid x2; clear x2; have Hhbw := Lib.hid hbw; clear hbw
  refine wp_region_ord (fun W => Below wc.heap.size wc W) [([0, 1, 2, 3, 4, 5, 7, 8, 10, 11, 12, 13, 14, 15, 17, 18], 6), ([9], 16), ([19], 20)] [] (some 21) (by kernel_rfl) (by kernel_rfl) hI ?_
  refine OrdI_cons ?_
  (apply StI_plain (w0 := wc.drew) hI rfl rfl rfl rfl; (focus (intro W hW K hK; obtain ⟨_, _⟩ := bk w.heap.size hW l0; obtain ⟨_, _⟩ := bk (w.heap.size + 1) hW l1; go_step; exact hK)); (focus rfl)); (apply StI_plain (w0 := wc.drew) hI rfl rfl rfl rfl; (focus (intro W hW K hK; obtain ⟨_, _⟩ := bk w.heap.size hW l0; obtain ⟨_, _⟩ := bk (w.heap.size + 1) hW l1; go_step; exact hK)); (focus rfl)); (apply StI_plain (w0 := wc.drew) hI rfl rfl rfl rfl; (focus (intro W hW K hK; obtain ⟨_, _⟩ := bk w.heap.size hW l0; obtain ⟨_, _⟩ := bk (w.heap.size + 1) hW l1; go_step; exact hK)); (focus rfl)); (apply StI_plain (w0 := wc.drew) hI rfl rfl rfl rfl; (focus (intro W hW K hK; obtain ⟨_, _⟩ := bk w.heap.size hW l0; obtain ⟨_, _⟩ := bk (w.heap.size + 1) hW l1; go_step; exact hK)); (focus rfl)); (apply StI_plain (w0 := wc.drew) hI rfl rfl rfl rfl; (focus (intro W hW K hK; obtain ⟨_, _⟩ := bk w.heap.size hW l0; obtain ⟨_, _⟩ := bk (w.heap.size + 1) hW l1; go_step; exact hK)); (focus rfl)); (apply StI_plain (w0 := wc.drew) hI rfl rfl rfl rfl; (focus (intro W hW K hK; obtain ⟨_, _⟩ := bk w.heap.size hW l0; obtain ⟨_, _⟩ := bk (w.heap.size + 1) hW l1; go_step; exact hK)); (focus rfl)); (apply StI_plain (w0 := wc.drew) hI rfl rfl rfl rfl; (focus (intro W hW K hK; obtain ⟨_, _⟩ := bk w.heap.size hW l0; obtain ⟨_, _⟩ := bk (w.heap.size + 1) hW l1; go_step; exact hK)); (focus rfl)); (apply StI_plain (w0 := wc.drew) hI rfl rfl rfl rfl; (focus (intro W hW K hK; obtain ⟨_, _⟩ := bk w.heap.size hW l0; obtain ⟨_, _⟩ := bk (w.heap.size + 1) hW l1; go_step; exact hK)); (focus rfl)); (apply StI_plain (w0 := wc.drew) hI rfl rfl rfl rfl; (focus (intro W hW K hK; obtain ⟨_, _⟩ := bk w.heap.size hW l0; obtain ⟨_, _⟩ := bk (w.heap.size + 1) hW l1; go_step; exact hK)); (focus rfl)); (apply StI_plain (w0 := wc.drew) hI rfl rfl rfl rfl; (focus (intro W hW K hK; obtain ⟨_, _⟩ := bk w.heap.size hW l0; obtain ⟨_, _⟩ := bk (w.heap.size + 1) hW l1; go_step; exact hK)); (focus rfl)); (apply StI_plain (w0 := wc.drew) hI rfl rfl rfl rfl; (focus (intro W hW K hK; obtain ⟨_, _⟩ := bk w.heap.size hW l0; obtain ⟨_, _⟩ := bk (w.heap.size + 1) hW l1; go_step; exact hK)); (focus rfl)); (apply StI_plain (w0 := wc.drew) hI rfl rfl rfl rfl; (focus (intro W hW K hK; obtain ⟨_, _⟩ := bk w.heap.size hW l0; obtain ⟨_, _⟩ := bk (w.heap.size + 1) hW l1; go_step; exact hK)); (focus rfl)); (apply StI_plain (w0 := wc.drew) hI rfl rfl rfl rfl; (focus (intro W hW K hK; obtain ⟨_, _⟩ := bk w.heap.size hW l0; obtain ⟨_, _⟩ := bk (w.heap.size + 1) hW l1; go_step; exact hK)); (focus rfl)); (apply StI_plain (w0 := wc.drew) hI rfl rfl rfl rfl; (focus (intro W hW K hK; obtain ⟨_, _⟩ := bk w.heap.size hW l0; obtain ⟨_, _⟩ := bk (w.heap.size + 1) hW l1; go_step; exact hK)); (focus rfl)); (apply StI_plain (w0 := wc.drew) hI rfl rfl rfl rfl; (focus (intro W hW K hK; obtain ⟨_, _⟩ := bk w.heap.size hW l0; obtain ⟨_, _⟩ := bk (w.heap.size + 1) hW l1; go_step; exact hK)); (focus rfl)); (apply StI_plain (w0 := wc.drew) hI rfl rfl rfl rfl; (focus (intro W hW K hK; obtain ⟨_, _⟩ := bk w.heap.size hW l0; obtain ⟨_, _⟩ := bk (w.heap.size + 1) hW l1; go_step; exact hK)); (focus rfl))
  (apply StI_eff rfl; go_wp2_with (first | (go_at_call 43; refine (d1 _).mono ?_; rintro e w1 ⟨rfl, hb1⟩)))
  have hI1 : Below wc.heap.size wc w1 := below_mid hI (Nat.le_refl _) hb1
  refine onNormal_mk hI1 (OrdI_cons ?_)
  (apply StI_plain (w0 := w1) hI1 rfl rfl rfl rfl; (focus (intro W hW K hK; skip; go_step; exact hK)); (focus rfl))
  (apply StI_eff rfl; go_wp2_with (first | (go_at_call 44; refine (d2 _).mono ?_; rintro e w2 ⟨rfl, hb2⟩)))
  have hI2 : Below wc.heap.size wc w2 := below_mid hI1 (Nat.le_refl _) hb2
  refine onNormal_mk hI2 (OrdI_cons ?_)
  (apply StI_plain (w0 := w2) hI2 rfl rfl rfl rfl; (focus (intro W hW K hK; skip; go_step; exact hK)); (focus rfl))
  (apply StI_eff rfl; go_wp2_with (first | (go_at_call 42; refine (of_any _ _ _).mono ?_; rintro e w3 ⟨rfl, hb3⟩)))
  have hI3 : Below wc.heap.size wc w3 := below_mid hI2 (Nat.le_refl _) hb3
  refine onNormal_mk hI3 (OrdI_snk ?_)
  obtain ⟨_, _, _⟩ := bk (w.heap.size + 1 + 1) hI3 l2
  have hB := bl_step Hhbw.out hI3
  have HhB := Lib.hid hB; clear hB
  (apply StI_eff rfl; go_wp2_with (first | fail))
  refine onNormal_last ?_
  go_wp2_with fail
  ((try simp only [Exit.inBlock, Exit.then]); refine bodyPost_ret (v := .agg #[.int .i64 (q - ph), .int .i64 (u - ph)]) (by simp [results, Try.results41, go_sem, *]) rfl ?_)
  exact ⟨rfl, by have := HhB.out; repeat (first | assumption | refine bl_setCell ?_ _ _ (by first | exact Nat.le_refl _ | (simp; omega) | simp))⟩
end Go.Proofs.Ytfbmjecikilghaa
