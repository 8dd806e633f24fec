/- tide: angles of a part, levels. -/
import Derived.Test.YtfbmjecikilghaaLevB
namespace Go.Proofs.Ytfbmjecikilghaa
open Go.RowKit

def PartE (w : World) (b o : Nat) (p : Part) : Prop :=
  w.cell? ⟨b, o, none⟩ = some (.int .i64 p.amp) ∧ w.cell? ⟨b, o + 1, none⟩ = some (.int .i64 p.period) ∧ w.cell? ⟨b, o + 2, none⟩ = some (.int .i64 p.phase)
theorem ek_part (B : Nat) : EK B PartE := fun _ _ _ _ _ hB hb ⟨h0, h1, h2⟩ => ⟨ek_cell hB hb h0, ek_cell hB hb h1, ek_cell hB hb h2⟩

/-- A part within its bounds. -/
def Part.good (p : Part) : Prop := 0 ≤ p.amp ∧ p.amp ≤ 1000 ∧ 1 ≤ p.period ∧ p.period ≤ 1000000000 ∧ 0 ≤ p.phase ∧ p.phase < 3600

theorem div_bd {a b : Int} (h0 : 0 ≤ a) (hb : 1 ≤ b) : 0 ≤ a / b ∧ a / b ≤ a := ⟨Int.ediv_nonneg h0 (by omega), Int.ediv_le_self _ h0⟩
theorem up_bd {a b : Int} (h0 : 0 ≤ a) (hb : 1 ≤ b) : 0 ≤ up a b ∧ up a b ≤ a := by
  unfold up
  have h1 : -a / b ≤ 0 := by
    have := Int.ediv_le_ediv (show 0 < b by omega) (show -a ≤ 0 by omega)
    simpa using this
  have h2 := Int.mul_ediv_add_emod (-a) b
  have h3 := Int.emod_lt_of_pos (-a) (show 0 < b by omega)
  have h4 := Int.emod_nonneg (-a) (show b ≠ 0 by omega)
  refine ⟨by omega, ?_⟩
  refine Decidable.byContradiction fun hc => ?_
  have h5 : -a / b + a + 1 ≤ 0 := by omega
  have h6 := Int.mul_le_mul_of_nonneg_left h5 (show 0 ≤ b by omega)
  rw [Int.mul_add, Int.mul_add] at h6
  have h7 := Int.mul_le_mul_of_nonneg_right hb h0
  omega

set_option maxHeartbeats 2000000 in
set_option maxRecDepth 100000 in
theorem angles_any (p : Part) (hp : p.good) (lo hi c d : Int) (hc : p.alo lo = c) (hd : p.ahi hi = d) (h0 : 0 ≤ lo) (h1 : lo ≤ 1000000000) (h2 : 0 ≤ hi) (h3 : hi ≤ 1000000000) (w : World) :
    Calls Try.prog 41 #[.agg #[.int .i64 p.amp, .int .i64 p.period, .int .i64 p.phase], .agg #[.int .i64 lo, .int .i64 hi]] w fun e w' => e = .returned (.agg #[.int .i64 c, .int .i64 d]) ∧ Below w.heap.size w w' := by
  obtain ⟨amp, per, ph⟩ := p
  obtain ⟨_, _, p0, p1, f0, f1⟩ := hp
  simp only [Part.alo, Part.ahi] at *
  obtain ⟨q, hq⟩ : ∃ q, 3600 * lo / per = q := ⟨_, rfl⟩
  obtain ⟨u, hu⟩ : ∃ u, up (3600 * hi) per = u := ⟨_, rfl⟩
  have bq := div_bd (a := 3600 * lo) (by omega) p0
  have bu := up_bd (a := 3600 * hi) (by omega) p0
  rw [hq] at hc bq
  rw [hu] at hd bu
  obtain ⟨bq0, bq1⟩ := bq
  obtain ⟨bu0, bu1⟩ := bu
  subst hc hd
  have d1 := down_val (3600 * lo) per q hq (by omega) (by omega) (by omega) (by omega)
  have d2 := up_any (3600 * hi) per u (by rw [← hu]; rfl) (by omega) (by omega) (by omega) (by omega)
  have Hhq := Lib.hid hq; clear hq; have Hhu := Lib.hid hu; clear hu
  go_enter Try.func41, Try.ntmps41
  go_upto_region 1 with fail
  obtain ⟨wc, hwc⟩ : ∃ wc, (((w.alloc (.cells #[.int .i64 amp, .int .i64 per, .int .i64 ph] 43)).alloc (.cells #[.int .i64 lo, .int .i64 hi] 83)).alloc (.cells #[.int .i64 0, .int .i64 0] 83)) = wc := ⟨_, rfl⟩
  have hsz : wc.heap.size = w.heap.size + 3 := by rw [← hwc]; simp
  have x0 : wc.heap[w.heap.size]? = some (.cells #[.int .i64 amp, .int .i64 per, .int .i64 ph] 43 (0, 0)) := by rw [← hwc]; exact heap_alloc_off (heap_alloc_off (heap_alloc_at' _ _ rfl) _) _
  have x1 : wc.heap[w.heap.size + 1]? = some (.cells #[.int .i64 lo, .int .i64 hi] 83 (0, 0)) := by rw [← hwc]; exact heap_alloc_off (heap_alloc_at' _ _ (by simp)) _
  have x2 : wc.heap[w.heap.size + 1 + 1]? = some (.cells #[.int .i64 0, .int .i64 0] 83 (0, 0)) := by rw [← hwc]; exact heap_alloc_at' _ _ (by simp)
  have hbw : Below w.heap.size w wc := by rw [← hwc]; exact (by repeat (first | exact Below.refl _ _ | (refine bl_setCell ?_ _ _ ?_; rotate_left; focus (first | omega | (simp; done) | (simp; omega))) | refine bl_alloc ?_ _ | refine bl_step ?_ (by assumption) | refine bl_drew ?_ | refine bl_drewN ?_ _))
  rw [hwc]
  have x0c := cells_of x0
  have x1c := cells_of x1
  have x2c := cells_of x2
  have x2f := frozen_of x2
  have l0 := lt_of_heap x0
  have l1 := lt_of_heap x1
  have l2 := lt_of_heap x2
  have hI : Below wc.heap.size wc wc.drew := (Below.refl _ _).drew
  have Hhwc := Lib.hid hwc; clear hwc; have Hhsz := Lib.hid hsz; clear hsz; have Hx0 := Lib.hid x0; clear x0; have Hx1 := Lib.hid x1; clear x1; have Hx2 := Lib.hid x2; clear x2; have Hhbw := Lib.hid hbw; clear hbw
  refine wp_region_ord (fun W => Below wc.heap.size wc W) [([0, 1, 2, 3, 4, 5, 7, 8, 10, 11, 12, 13, 14, 15, 17, 18], 6), ([9], 16), ([19], 20)] [] (some 21) (by kernel_rfl) (by kernel_rfl) hI ?_
  refine OrdI_cons ?_
  (apply StI_plain (w0 := wc.drew) hI rfl rfl rfl rfl; (focus (intro W hW K hK; obtain ⟨_, _⟩ := bk w.heap.size hW l0; obtain ⟨_, _⟩ := bk (w.heap.size + 1) hW l1; go_step; exact hK)); (focus rfl)); (apply StI_plain (w0 := wc.drew) hI rfl rfl rfl rfl; (focus (intro W hW K hK; obtain ⟨_, _⟩ := bk w.heap.size hW l0; obtain ⟨_, _⟩ := bk (w.heap.size + 1) hW l1; go_step; exact hK)); (focus rfl)); (apply StI_plain (w0 := wc.drew) hI rfl rfl rfl rfl; (focus (intro W hW K hK; obtain ⟨_, _⟩ := bk w.heap.size hW l0; obtain ⟨_, _⟩ := bk (w.heap.size + 1) hW l1; go_step; exact hK)); (focus rfl)); (apply StI_plain (w0 := wc.drew) hI rfl rfl rfl rfl; (focus (intro W hW K hK; obtain ⟨_, _⟩ := bk w.heap.size hW l0; obtain ⟨_, _⟩ := bk (w.heap.size + 1) hW l1; go_step; exact hK)); (focus rfl)); (apply StI_plain (w0 := wc.drew) hI rfl rfl rfl rfl; (focus (intro W hW K hK; obtain ⟨_, _⟩ := bk w.heap.size hW l0; obtain ⟨_, _⟩ := bk (w.heap.size + 1) hW l1; go_step; exact hK)); (focus rfl)); (apply StI_plain (w0 := wc.drew) hI rfl rfl rfl rfl; (focus (intro W hW K hK; obtain ⟨_, _⟩ := bk w.heap.size hW l0; obtain ⟨_, _⟩ := bk (w.heap.size + 1) hW l1; go_step; exact hK)); (focus rfl)); (apply StI_plain (w0 := wc.drew) hI rfl rfl rfl rfl; (focus (intro W hW K hK; obtain ⟨_, _⟩ := bk w.heap.size hW l0; obtain ⟨_, _⟩ := bk (w.heap.size + 1) hW l1; go_step; exact hK)); (focus rfl)); (apply StI_plain (w0 := wc.drew) hI rfl rfl rfl rfl; (focus (intro W hW K hK; obtain ⟨_, _⟩ := bk w.heap.size hW l0; obtain ⟨_, _⟩ := bk (w.heap.size + 1) hW l1; go_step; exact hK)); (focus rfl)); (apply StI_plain (w0 := wc.drew) hI rfl rfl rfl rfl; (focus (intro W hW K hK; obtain ⟨_, _⟩ := bk w.heap.size hW l0; obtain ⟨_, _⟩ := bk (w.heap.size + 1) hW l1; go_step; exact hK)); (focus rfl)); (apply StI_plain (w0 := wc.drew) hI rfl rfl rfl rfl; (focus (intro W hW K hK; obtain ⟨_, _⟩ := bk w.heap.size hW l0; obtain ⟨_, _⟩ := bk (w.heap.size + 1) hW l1; go_step; exact hK)); (focus rfl)); (apply StI_plain (w0 := wc.drew) hI rfl rfl rfl rfl; (focus (intro W hW K hK; obtain ⟨_, _⟩ := bk w.heap.size hW l0; obtain ⟨_, _⟩ := bk (w.heap.size + 1) hW l1; go_step; exact hK)); (focus rfl)); (apply StI_plain (w0 := wc.drew) hI rfl rfl rfl rfl; (focus (intro W hW K hK; obtain ⟨_, _⟩ := bk w.heap.size hW l0; obtain ⟨_, _⟩ := bk (w.heap.size + 1) hW l1; go_step; exact hK)); (focus rfl)); (apply StI_plain (w0 := wc.drew) hI rfl rfl rfl rfl; (focus (intro W hW K hK; obtain ⟨_, _⟩ := bk w.heap.size hW l0; obtain ⟨_, _⟩ := bk (w.heap.size + 1) hW l1; go_step; exact hK)); (focus rfl)); (apply StI_plain (w0 := wc.drew) hI rfl rfl rfl rfl; (focus (intro W hW K hK; obtain ⟨_, _⟩ := bk w.heap.size hW l0; obtain ⟨_, _⟩ := bk (w.heap.size + 1) hW l1; go_step; exact hK)); (focus rfl)); (apply StI_plain (w0 := wc.drew) hI rfl rfl rfl rfl; (focus (intro W hW K hK; obtain ⟨_, _⟩ := bk w.heap.size hW l0; obtain ⟨_, _⟩ := bk (w.heap.size + 1) hW l1; go_step; exact hK)); (focus rfl)); (apply StI_plain (w0 := wc.drew) hI rfl rfl rfl rfl; (focus (intro W hW K hK; obtain ⟨_, _⟩ := bk w.heap.size hW l0; obtain ⟨_, _⟩ := bk (w.heap.size + 1) hW l1; go_step; exact hK)); (focus rfl))
  (apply StI_eff rfl; go_wp2_with (first | (go_at_call 43; refine (d1 _).mono ?_; rintro e w1 ⟨rfl, hb1⟩)))
  have hI1 : Below wc.heap.size wc w1 := below_mid hI (Nat.le_refl _) hb1
  refine onNormal_mk hI1 (OrdI_cons ?_)
  (apply StI_plain (w0 := w1) hI1 rfl rfl rfl rfl; (focus (intro W hW K hK; skip; go_step; exact hK)); (focus rfl))
  (apply StI_eff rfl; go_wp2_with (first | (go_at_call 44; refine (d2 _).mono ?_; rintro e w2 ⟨rfl, hb2⟩)))
  have hI2 : Below wc.heap.size wc w2 := below_mid hI1 (Nat.le_refl _) hb2
  refine onNormal_mk hI2 (OrdI_cons ?_)
  (apply StI_plain (w0 := w2) hI2 rfl rfl rfl rfl; (focus (intro W hW K hK; skip; go_step; exact hK)); (focus rfl))
  (apply StI_eff rfl; go_wp2_with (first | (go_at_call 42; refine (of_any _ _ _).mono ?_; rintro e w3 ⟨rfl, hb3⟩)))
  have hI3 : Below wc.heap.size wc w3 := below_mid hI2 (Nat.le_refl _) hb3
  refine onNormal_mk hI3 (OrdI_snk ?_)
  obtain ⟨_, _, _⟩ := bk (w.heap.size + 1 + 1) hI3 l2
  have hB := bl_step Hhbw.out hI3
  have HhB := Lib.hid hB; clear hB
  (apply StI_eff rfl; go_wp2_with (first | fail))
  refine onNormal_last ?_
  go_wp2_with fail
  ((try simp only [Exit.inBlock, Exit.then]); refine bodyPost_ret (v := .agg #[.int .i64 (q - ph), .int .i64 (u - ph)]) (by simp [results, Try.results41, go_sem, *]) rfl ?_)
  exact ⟨rfl, by have := HhB.out; repeat (first | assumption | refine bl_setCell ?_ _ _ (by first | exact Nat.le_refl _ | (simp; omega) | simp))⟩
end Go.Proofs.Ytfbmjecikilghaa
namespace Go.Proofs.Ytfbmjecikilghaa
open Go.RowKit

theorem getD_eq {α : Type} {l : List α} {k : Nat} (h : k < l.length) (z : α) : l[k] = l.getD k z := by rw [List.getD_eq_getElem?_getD, List.getElem?_eq_getElem h]; rfl

theorem sumLo_snoc (l : List Part) (k : Nat) (h : k < l.length) (lo hi : Int) : sumLo (l.take (k + 1)) lo hi = sumLo (l.take k) lo hi + l[k].amp * cosLo (l[k].alo lo) (l[k].ahi hi) := by
  unfold sumLo
  rw [List.take_succ_eq_append_getElem h, List.map_append, List.sum_append]
  simp
theorem sumHi_snoc (l : List Part) (k : Nat) (h : k < l.length) (lo hi : Int) : sumHi (l.take (k + 1)) lo hi = sumHi (l.take k) lo hi + l[k].amp * cosHi (l[k].alo lo) (l[k].ahi hi) := by
  unfold sumHi
  rw [List.take_succ_eq_append_getElem h, List.map_append, List.sum_append]
  simp
theorem amp_bd {a c : Int} (h0 : 0 ≤ a) (h1 : a ≤ 1000) (h2 : -65536 ≤ c) (h3 : c ≤ 65536) : -65536000 ≤ a * c ∧ a * c ≤ 65536000 := by
  constructor
  · have := Int.mul_le_mul_of_nonneg_left h2 h0
    omega
  · have := Int.mul_le_mul_of_nonneg_left h3 h0
    omega
theorem sums_bd (l : List Part) (hl : ∀ p ∈ l, p.good) (lo hi : Int) (k : Nat) (hk : k ≤ l.length) :
    -65536000 * (k : Int) ≤ sumLo (l.take k) lo hi ∧ sumLo (l.take k) lo hi ≤ 65536000 * k ∧ -65536000 * (k : Int) ≤ sumHi (l.take k) lo hi ∧ sumHi (l.take k) lo hi ≤ 65536000 * k := by
  induction k with
  | zero => simp [sumLo, sumHi]
  | succ k ih =>
    obtain ⟨i1, i2, i3, i4⟩ := ih (by omega)
    have hg := hl l[k] (by simp)
    have h1 := cosLo_le (l[k].alo lo) (l[k].ahi hi)
    have h2 := cosHi_bd (l[k].alo lo) (l[k].ahi hi)
    have h3 := amp_bd hg.1 hg.2.1 h1.2.1 h1.2.2
    have h4 := amp_bd hg.1 hg.2.1 h2.1 h2.2
    rw [sumLo_snoc l k (by omega), sumHi_snoc l k (by omega)]
    push_cast
    omega

/-- Between two parts. -/
def LevI (w0 : World) (mean : Int) (l : List Part) (a : Option Addr) (c : Nat) (lo hi : Int) (i : Value) (wr : World) : Prop :=
  ∃ k : Nat, k ≤ l.length ∧ i = .int .i64 k ∧ wr.heap[w0.heap.size]? = some (.cells #[.int .i64 mean, .slice a l.length c] 40 (0, 0)) ∧ wr.heap[w0.heap.size + 1]? = some (.cells #[.int .i64 lo, .int .i64 hi] 83 (0, 0)) ∧
    wr.heap[w0.heap.size + 2]? = some (.cells #[.int .i64 0, .int .i64 0] 83 (0, 0)) ∧ wr.heap[w0.heap.size + 3]? = some (.cells #[.int .i64 (sumLo (l.take k) lo hi), .int .i64 (sumHi (l.take k) lo hi)] 83 (0, 0)) ∧ Below w0.heap.size w0 wr

set_option maxHeartbeats 4000000 in
set_option maxRecDepth 100000 in
theorem level_any (mean : Int) (l : List Part) (a : Option Addr) (c B : Nat) (lo hi : Int) (w : World) (hS : Sl PartE 3 B w a l) (hB : B ≤ w.heap.size) (hl : ∀ p ∈ l, p.good) (hn : l.length ≤ 16)
    (hm0 : -10000 ≤ mean) (hm1 : mean ≤ 10000) (h0 : 0 ≤ lo) (h1 : lo ≤ 1000000000) (h2 : 0 ≤ hi) (h3 : hi ≤ 1000000000) (x y : Int) (hx : levLo mean l lo hi = x) (hy : levHi mean l lo hi = y) :
    Calls Try.prog 20 #[.agg #[.int .i64 mean, .slice a l.length c], .agg #[.int .i64 lo, .int .i64 hi]] w fun e w' => e = .returned (.agg #[.int .i64 x, .int .i64 y]) ∧ Below w.heap.size w w' := by
  have HS := Lib.hid hS
  have HL := Lib.hid hl
  clear hS hl
  have Hhx := Lib.hid hx; clear hx; have Hhy := Lib.hid hy; clear hy
  go_enter Try.func20, Try.ntmps20
  go_wp2_with fail
  go_loopw [11] (fun i wr => LevI w mean l a c lo hi i wr) (fun i _ => l.length - (intOf i).toNat)
  case atStart =>
    refine ⟨0, Nat.zero_le _, rfl, ?_, ?_, ?_, ?_, (by repeat (first | exact Below.refl _ _ | (refine bl_setCell ?_ _ _ ?_; rotate_left; focus (first | omega | (simp; done) | (simp; omega))) | refine bl_alloc ?_ _ | refine bl_step ?_ (by assumption) | refine bl_drew ?_ | refine bl_drewN ?_ _))⟩
    · repeat (first | (refine heap_alloc_at' _ _ ?_; focus (simp; done)) | refine heap_alloc_off ?_ _)
    · repeat (first | (refine heap_alloc_at' _ _ ?_; focus (simp; done)) | refine heap_alloc_off ?_ _)
    · repeat (first | (refine heap_alloc_at' _ _ ?_; focus (simp; done)) | refine heap_alloc_off ?_ _)
    · repeat (first | (refine heap_alloc_at' _ _ ?_; focus (simp; done)) | refine heap_alloc_off ?_ _)
  case round =>
    obtain ⟨k, hk, rfl, x0, x1, x2, x3, hb⟩ := hrel
    have x0c := cells_of x0
    have x1c := cells_of x1
    have x2c := cells_of x2
    have x2f := frozen_of x2
    have x3c := cells_of x3
    have x3f := frozen_of x3
    have l0 := lt_of_heap x0
    have l1 := lt_of_heap x1
    have l2 := lt_of_heap x2
    have l3 := lt_of_heap x3
    obtain ⟨s1, s2, s3, s4⟩ := sums_bd l HL.out lo hi k hk
    by_cases hlt : k < l.length
    · obtain ⟨b, off, rfl, hbB, he⟩ := (HS.out.below (ek_part B) (hb.mono hB)).2 k hlt
      have hg := HL.out l[k] (by simp)
      have hsl := sumLo_snoc l k hlt lo hi
      have hsh := sumHi_snoc l k hlt lo hi
      obtain ⟨p, hp⟩ : ∃ p, l[k] = p := ⟨_, rfl⟩
      rw [hp] at he hg hsl hsh
      obtain ⟨e0, e1, e2⟩ := he
      obtain ⟨g0, g1, g2, g3, g4, g5⟩ := hg
      obtain ⟨A, hA⟩ : ∃ A, p.alo lo = A := ⟨_, rfl⟩
      obtain ⟨D, hD⟩ : ∃ D, p.ahi hi = D := ⟨_, rfl⟩
      obtain ⟨u, hu⟩ : ∃ u, cosLo A D = u := ⟨_, rfl⟩
      obtain ⟨v, hv⟩ : ∃ v, cosHi A D = v := ⟨_, rfl⟩
      obtain ⟨sl, hsl0⟩ : ∃ x, sumLo (l.take k) lo hi = x := ⟨_, rfl⟩
      obtain ⟨sh, hsh0⟩ : ∃ x, sumHi (l.take k) lo hi = x := ⟨_, rfl⟩
      rw [hA, hD, hu, hsl0] at hsl
      rw [hA, hD, hv, hsh0] at hsh
      rw [hsl0] at s1 s2 x3 x3c
      rw [hsh0] at s3 s4 x3 x3c
      have q1 := cosLo_le A D
      have q2 := cosHi_bd A D
      rw [hu] at q1
      rw [hv] at q2
      have q3 := amp_bd g0 g1 q1.2.1 q1.2.2
      have q4 := amp_bd g0 g1 q2.1 q2.2
      have da := div_bd (a := 3600 * lo) (by omega) g2
      have du := up_bd (a := 3600 * hi) (by omega) g2
      have bA : 0 - 3600 ≤ A ∧ A ≤ 3600000000000 := by rw [← hA]; unfold Part.alo; omega
      have bD : 0 - 3600 ≤ D ∧ D ≤ 3600000000000 := by rw [← hD]; unfold Part.ahi; omega
      have ca := angles_any p ⟨g0, g1, g2, g3, g4, g5⟩ lo hi A D hA hD h0 h1 h2 h3
      have cc := cosines_any A D u v hu hv (by omega) (by omega)
      have cd := add_any sl sh p.amp u v (by omega) (by omega) (by omega) (by omega)
      have hbw : b < wr.heap.size := by have := hb.size; omega
      have Hhp := Lib.hid hp; clear hp; have HhA := Lib.hid hA; clear hA; have HhD := Lib.hid hD; clear hD; have Hhu := Lib.hid hu; clear hu; have Hhv := Lib.hid hv; clear hv; have Hhsl0 := Lib.hid hsl0; clear hsl0; have Hhsh0 := Lib.hid hsh0; clear hsh0; have Hhsl := Lib.hid hsl; clear hsl; have Hhsh := Lib.hid hsh; clear hsh; have Hx0 := Lib.hid x0; clear x0; have Hx1 := Lib.hid x1; clear x1; have Hx2 := Lib.hid x2; clear x2; have Hx3 := Lib.hid x3; clear x3; have Hhb := Lib.hid hb; clear hb
      clear q1 q2 q3 q4 da du bA bD s1 s2 s3 s4
      go_upto_region 5 with fail
      obtain ⟨wc, hwc⟩ : ∃ wc, (wr.alloc (.cells #[.int .i64 p.amp, .int .i64 p.period, .int .i64 p.phase] 43)) = wc := ⟨_, rfl⟩
      have z1 : wc.heap[w.heap.size + 1]? = some (.cells #[.int .i64 lo, .int .i64 hi] 83 (0, 0)) := by rw [← hwc]; exact heap_alloc_off Hx1.out _
      have z3 : wc.heap[w.heap.size + 3]? = some (.cells #[.int .i64 sl, .int .i64 sh] 83 (0, 0)) := by rw [← hwc]; exact heap_alloc_off Hx3.out _
      have z4 : wc.heap[wr.heap.size]? = some (.cells #[.int .i64 p.amp, .int .i64 p.period, .int .i64 p.phase] 43 (0, 0)) := by rw [← hwc]; exact heap_alloc_at _ _
      have hbr : Below wr.heap.size wr wc := by rw [← hwc]; exact (by repeat (first | exact Below.refl _ _ | (refine bl_setCell ?_ _ _ ?_; rotate_left; focus (first | omega | (simp; done) | (simp; omega))) | refine bl_alloc ?_ _ | refine bl_step ?_ (by assumption) | refine bl_drew ?_ | refine bl_drewN ?_ _))
      rw [hwc]
      clear x0c x1c x2c x2f x3c x3f e0 e1 e2
      have z1c := cells_of z1
      have z3c := cells_of z3
      have z3f := frozen_of z3
      have z4c := cells_of z4
      have l1' := lt_of_heap z1
      have l3' := lt_of_heap z3
      have l4' := lt_of_heap z4
      have hI : Below wc.heap.size wc wc.drew := (Below.refl _ _).drew
      have Hhwc := Lib.hid hwc; clear hwc; have Hz1 := Lib.hid z1; clear z1; have Hz3 := Lib.hid z3; clear z3; have Hz4 := Lib.hid z4; clear z4; have Hhbr := Lib.hid hbr; clear hbr
      refine wp_region_ord (fun W => Below wc.heap.size wc W) [([0, 1, 2, 3, 4], 5), ([], 6), ([], 7)] [] (some 8) (by kernel_rfl) (by kernel_rfl) hI ?_
      refine OrdI_cons ?_
      (apply StI_plain (w0 := wc.drew) hI rfl rfl rfl rfl; (focus (intro W hW K hK; obtain ⟨_, _⟩ := bk (w.heap.size + 1) hW l1'; obtain ⟨_, _⟩ := bk (w.heap.size + 3) hW l3'; obtain ⟨_, _⟩ := bk wr.heap.size hW l4'; go_step; exact hK)); (focus rfl)); (apply StI_plain (w0 := wc.drew) hI rfl rfl rfl rfl; (focus (intro W hW K hK; obtain ⟨_, _⟩ := bk (w.heap.size + 1) hW l1'; obtain ⟨_, _⟩ := bk (w.heap.size + 3) hW l3'; obtain ⟨_, _⟩ := bk wr.heap.size hW l4'; go_step; exact hK)); (focus rfl)); (apply StI_plain (w0 := wc.drew) hI rfl rfl rfl rfl; (focus (intro W hW K hK; obtain ⟨_, _⟩ := bk (w.heap.size + 1) hW l1'; obtain ⟨_, _⟩ := bk (w.heap.size + 3) hW l3'; obtain ⟨_, _⟩ := bk wr.heap.size hW l4'; go_step; exact hK)); (focus rfl)); (apply StI_plain (w0 := wc.drew) hI rfl rfl rfl rfl; (focus (intro W hW K hK; obtain ⟨_, _⟩ := bk (w.heap.size + 1) hW l1'; obtain ⟨_, _⟩ := bk (w.heap.size + 3) hW l3'; obtain ⟨_, _⟩ := bk wr.heap.size hW l4'; go_step; exact hK)); (focus rfl)); (apply StI_plain (w0 := wc.drew) hI rfl rfl rfl rfl; (focus (intro W hW K hK; obtain ⟨_, _⟩ := bk (w.heap.size + 1) hW l1'; obtain ⟨_, _⟩ := bk (w.heap.size + 3) hW l3'; obtain ⟨_, _⟩ := bk wr.heap.size hW l4'; go_step; exact hK)); (focus rfl))
      (apply StI_eff rfl; go_wp2_with (first | (go_at_call 41; refine (ca _).mono ?_; rintro e w1 ⟨rfl, hb1⟩)))
      have hI1 : Below wc.heap.size wc w1 := below_mid hI (Nat.le_refl _) hb1
      refine onNormal_mk hI1 (OrdI_cons ?_)
      (apply StI_eff rfl; go_wp2_with (first | (go_at_call 40; refine (cc _).mono ?_; rintro e w2 ⟨rfl, hb2⟩)))
      have hI2 : Below wc.heap.size wc w2 := below_mid hI1 (Nat.le_refl _) hb2
      refine onNormal_mk hI2 (OrdI_cons ?_)
      (apply StI_eff rfl; go_wp2_with (first | (go_at_call 39; refine (cd _).mono ?_; rintro e w3 ⟨rfl, hb3⟩)))
      have hI3 : Below wc.heap.size wc w3 := below_mid hI2 (Nat.le_refl _) hb3
      refine onNormal_mk hI3 (OrdI_snk ?_)
      have k3 := heap_below hI3 Hz3.out
      have hbf := bl_step Hhbr.out hI3
      obtain ⟨_, _, _⟩ := bk (w.heap.size + 3) hI3 l3'
      have Hk3 := Lib.hid k3; clear k3; have Hhbf := Lib.hid hbf; clear hbf
      (apply StI_eff rfl; go_wp2_with (first | fail))
      refine onNormal_last ?_
      go_wp2_with fail
      have hsl := Hhsl.out
      have hsh := Hhsh.out
      have hkf := Hk3.out
      have hbff := Hhbf.out
      refine ⟨⟨k + 1, by omega, by go_num, ?_, ?_, ?_, ?_, ?_⟩, by simp [intOf]; omega⟩
      · exact heap_setCell_off (heap_setCell_off (heap_below hbff Hx0.out) _ (by omega)) _ (by omega)
      · exact heap_setCell_off (heap_setCell_off (heap_below hbff Hx1.out) _ (by omega)) _ (by omega)
      · exact heap_setCell_off (heap_setCell_off (heap_below hbff Hx2.out) _ (by omega)) _ (by omega)
      · rw [hsl, hsh]
        exact (heap_setCell_at ((heap_setCell_at hkf _).trans rfl) _).trans rfl
      · exact bl_setCell (bl_setCell (bl_step Hhb.out hbff) _ _ (by show _ ≤ w.heap.size + 3; omega)) _ _ (by show _ ≤ w.heap.size + 3; omega)
    · obtain rfl : k = l.length := by omega
      clear hlt hk
      rw [List.take_length] at s1 s2 s3 s4 x3 x3c
      obtain ⟨sl, hsl0⟩ : ∃ x, sumLo l lo hi = x := ⟨_, rfl⟩
      obtain ⟨sh, hsh0⟩ : ∃ x, sumHi l lo hi = x := ⟨_, rfl⟩
      rw [hsl0] at s1 s2 x3 x3c
      rw [hsh0] at s3 s4 x3 x3c
      obtain ⟨q, hq⟩ : ∃ q, sl / 65536 = q := ⟨_, rfl⟩
      obtain ⟨u, hu⟩ : ∃ u, up sh 65536 = u := ⟨_, rfl⟩
      have bq : -2000000 ≤ q ∧ q ≤ 2000000 := by omega
      have bu : -2000000 ≤ u ∧ u ≤ 2000000 := by unfold up at hu; omega
      obtain ⟨bq0, bq1⟩ := bq
      obtain ⟨bu0, bu1⟩ := bu
      have d1 := down_val sl 65536 q hq (by omega) (by omega) (by omega) (by omega)
      have d2 := up_any sh 65536 u (by rw [← hu]; rfl) (by omega) (by omega) (by omega) (by omega)
      have hxv : mean + q = x := by rw [← Hhx.out, ← hq, ← hsl0]; rfl
      have hyv : mean + u = y := by rw [← Hhy.out, ← hu, ← hsh0]; rfl
      clear HL HS Hhx Hhy
      subst hxv hyv
      clear s1 s2 s3 s4
      have Hhsl0 := Lib.hid hsl0; clear hsl0; have Hhsh0 := Lib.hid hsh0; clear hsh0; have Hhq := Lib.hid hq; clear hq; have Hhu := Lib.hid hu; clear hu; have Hx0 := Lib.hid x0; clear x0; have Hx1 := Lib.hid x1; clear x1; have Hx2 := Lib.hid x2; clear x2; have Hx3 := Lib.hid x3; clear x3; have Hhb := Lib.hid hb; clear hb
      go_upto_region 7 with fail
      have hI : Below wr.heap.size wr wr.drew := (Below.refl _ _).drew
      refine wp_region_ord (fun W => Below wr.heap.size wr W) [([0, 1, 2, 3, 4, 7, 8, 9, 10, 11], 5), ([6], 12), ([13], 14)] [] (some 15) (by kernel_rfl) (by kernel_rfl) hI ?_
      refine OrdI_cons ?_
      (apply StI_plain (w0 := wr.drew) hI rfl rfl rfl rfl; (focus (intro W hW K hK; obtain ⟨_, _⟩ := bk w.heap.size hW l0; obtain ⟨_, _⟩ := bk (w.heap.size + 3) hW l3; go_step; exact hK)); (focus rfl)); (apply StI_plain (w0 := wr.drew) hI rfl rfl rfl rfl; (focus (intro W hW K hK; obtain ⟨_, _⟩ := bk w.heap.size hW l0; obtain ⟨_, _⟩ := bk (w.heap.size + 3) hW l3; go_step; exact hK)); (focus rfl)); (apply StI_plain (w0 := wr.drew) hI rfl rfl rfl rfl; (focus (intro W hW K hK; obtain ⟨_, _⟩ := bk w.heap.size hW l0; obtain ⟨_, _⟩ := bk (w.heap.size + 3) hW l3; go_step; exact hK)); (focus rfl)); (apply StI_plain (w0 := wr.drew) hI rfl rfl rfl rfl; (focus (intro W hW K hK; obtain ⟨_, _⟩ := bk w.heap.size hW l0; obtain ⟨_, _⟩ := bk (w.heap.size + 3) hW l3; go_step; exact hK)); (focus rfl)); (apply StI_plain (w0 := wr.drew) hI rfl rfl rfl rfl; (focus (intro W hW K hK; obtain ⟨_, _⟩ := bk w.heap.size hW l0; obtain ⟨_, _⟩ := bk (w.heap.size + 3) hW l3; go_step; exact hK)); (focus rfl)); (apply StI_plain (w0 := wr.drew) hI rfl rfl rfl rfl; (focus (intro W hW K hK; obtain ⟨_, _⟩ := bk w.heap.size hW l0; obtain ⟨_, _⟩ := bk (w.heap.size + 3) hW l3; go_step; exact hK)); (focus rfl)); (apply StI_plain (w0 := wr.drew) hI rfl rfl rfl rfl; (focus (intro W hW K hK; obtain ⟨_, _⟩ := bk w.heap.size hW l0; obtain ⟨_, _⟩ := bk (w.heap.size + 3) hW l3; go_step; exact hK)); (focus rfl)); (apply StI_plain (w0 := wr.drew) hI rfl rfl rfl rfl; (focus (intro W hW K hK; obtain ⟨_, _⟩ := bk w.heap.size hW l0; obtain ⟨_, _⟩ := bk (w.heap.size + 3) hW l3; go_step; exact hK)); (focus rfl)); (apply StI_plain (w0 := wr.drew) hI rfl rfl rfl rfl; (focus (intro W hW K hK; obtain ⟨_, _⟩ := bk w.heap.size hW l0; obtain ⟨_, _⟩ := bk (w.heap.size + 3) hW l3; go_step; exact hK)); (focus rfl)); (apply StI_plain (w0 := wr.drew) hI rfl rfl rfl rfl; (focus (intro W hW K hK; obtain ⟨_, _⟩ := bk w.heap.size hW l0; obtain ⟨_, _⟩ := bk (w.heap.size + 3) hW l3; go_step; exact hK)); (focus rfl))
      (apply StI_eff rfl; go_wp2_with (first | (go_at_call 43; refine (d1 _).mono ?_; rintro e w1 ⟨rfl, hb1⟩)))
      have hI1 : Below wr.heap.size wr w1 := below_mid hI (Nat.le_refl _) hb1
      refine onNormal_mk hI1 (OrdI_cons ?_)
      (apply StI_plain (w0 := w1) hI1 rfl rfl rfl rfl; (focus (intro W hW K hK; skip; go_step; exact hK)); (focus rfl))
      (apply StI_eff rfl; go_wp2_with (first | (go_at_call 44; refine (d2 _).mono ?_; rintro e w2 ⟨rfl, hb2⟩)))
      have hI2 : Below wr.heap.size wr w2 := below_mid hI1 (Nat.le_refl _) hb2
      refine onNormal_mk hI2 (OrdI_cons ?_)
      (apply StI_plain (w0 := w2) hI2 rfl rfl rfl rfl; (focus (intro W hW K hK; skip; go_step; exact hK)); (focus rfl))
      (apply StI_eff rfl; go_wp2_with (first | (go_at_call 42; refine (of_any _ _ _).mono ?_; rintro e w3 ⟨rfl, hb3⟩)))
      have hI3 : Below wr.heap.size wr w3 := below_mid hI2 (Nat.le_refl _) hb3
      refine onNormal_mk hI3 (OrdI_snk ?_)
      obtain ⟨_, _, _⟩ := bk (w.heap.size + 2) hI3 l2
      have hB3 := bl_step Hhb.out hI3
      have HhB3 := Lib.hid hB3; clear hB3
      (apply StI_eff rfl; go_wp2_with (first | fail))
      refine onNormal_last ?_
      go_wp2_with fail
      ((try simp only [Exit.inBlock, Exit.then]); refine bodyPost_ret (v := .agg #[.int .i64 (mean + q), .int .i64 (mean + u)]) (by simp [results, Try.results20, go_sem, *]) rfl ?_)
      exact ⟨rfl, by have := HhB3.out; repeat (first | assumption | refine bl_setCell ?_ _ _ (by first | exact Nat.le_refl _ | (simp; omega) | simp))⟩
end Go.Proofs.Ytfbmjecikilghaa
