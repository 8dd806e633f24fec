/- tide: times and steps, Level. -/
import Derived.Test.YtfbmjecikilghaaChk
namespace Go.Proofs.Ytfbmjecikilghaa
open Go.RowKit

theorem field59 (x y : Int) (W : World) : Sem.run Try.prog (Instr.field 83 (.agg #[.int .i64 x, .int .i64 y]) 0) W = Result.ok (.agg #[.int .i64 x, .int .i64 y]) W := by
  simp [Instr.field, go_sem, part, asAgg]
theorem field36 (x y : Int) (W : World) : Sem.run Try.prog (Instr.field 46 (.agg #[.int .i64 x, .int .i64 y]) 1) W = Result.ok (.int .i64 y) W := by
  simp [Instr.field, go_sem, part, asAgg]

/-- A model that is well, and where its parts lie. -/
structure ModelM (B : Nat) (w : World) (mean : Int) (l : List Part) (a : Option Addr) : Prop where
  parts : Sl PartE 3 B w a l
  good : ∀ p ∈ l, p.good
  few : l.length ≤ 16
  lo : -10000 ≤ mean
  hi : mean ≤ 10000
theorem ModelM.below {B : Nat} {w w' : World} {mean : Int} {l : List Part} {a : Option Addr} (h : ModelM B w mean l a) (hB : Below B w w') : ModelM B w' mean l a :=
  ⟨h.parts.below (ek_part B) hB, h.good, h.few, h.lo, h.hi⟩

set_option maxHeartbeats 2000000 in
set_option maxRecDepth 100000 in
theorem times_ok (mean : Int) (l : List Part) (a : Option Addr) (c B : Nat) (lo hi : Int) (w : World) (hM : ModelM B w mean l a) (hB : B ≤ w.heap.size) (h0 : 0 ≤ lo) (h1 : lo ≤ hi) (h2 : hi ≤ 1000000000) :
    Calls Try.prog 19 #[.agg #[.int .i64 mean, .slice a l.length c], .agg #[.int .i64 lo, .int .i64 hi]] w fun e w' => e = .returned (.int .i64 0) ∧ Below w.heap.size w w' := by
  have hc := fun W (hW : Below w.heap.size w W) => check_ok mean l a c B W ((hM.below (hW.mono hB)).parts) (by have := hW.size; omega) hM.good hM.few hM.lo hM.hi
  have hv : vldB lo hi 0 1000000000 = true := by simp [vldB]; omega
  have hv2 := tvalid_any lo hi 0 1000000000
  rw [hv] at hv2
  clear hM
  have Hhv := Lib.hid hv; clear hv
  go_enter Try.func19, Try.ntmps19
  go_wp2_with (fail)
  refine (hc _ (by repeat (first | exact Below.refl _ _ | (refine bl_setCell ?_ _ _ ?_; rotate_left; focus (first | omega | (simp; done) | (simp; omega))) | refine bl_alloc ?_ _ | refine bl_step ?_ (by assumption) | refine bl_drew ?_ | refine bl_drewN ?_ _))).mono ?_
  rintro e w1 ⟨rfl, hb1⟩
  obtain ⟨_, _, _⟩ := bk (w.heap.size) hb1 (by (first | omega | (simp; done) | (simp; omega))); obtain ⟨_, _, _⟩ := bk (w.heap.size + 1) hb1 (by (first | omega | (simp; done) | (simp; omega))); have hzhb1 := bsz hb1; try simp only [World.size_alloc] at hzhb1
  go_wp2_with (fail)
  refine (hv2 _).mono ?_
  rintro e w2 ⟨rfl, hb2⟩
  go_wp2_with (fail)
  go_ret
  exact ⟨rfl, (by repeat (first | exact Below.refl _ _ | (refine bl_setCell ?_ _ _ ?_; rotate_left; focus (first | omega | (simp; done) | (simp; omega))) | refine bl_alloc ?_ _ | refine bl_step ?_ (by assumption) | refine bl_drew ?_ | refine bl_drewN ?_ _))⟩

set_option maxHeartbeats 2000000 in
set_option maxRecDepth 100000 in
theorem steps_ok (mean : Int) (l : List Part) (a : Option Addr) (c B : Nat) (lo hi step : Int) (w : World) (hM : ModelM B w mean l a) (hB : B ≤ w.heap.size) (h0 : 0 ≤ lo) (h1 : lo ≤ hi) (h2 : hi ≤ 1000000000)
    (hs : 1 ≤ step) (hs2 : step ≤ 1000000000) (hq : (hi - lo - 1).tdiv step < 10000) :
    Calls Try.prog 23 #[.agg #[.int .i64 mean, .slice a l.length c], .agg #[.int .i64 lo, .int .i64 hi], .int .i64 step] w fun e w' => e = .returned (.int .i64 0) ∧ Below w.heap.size w w' := by
  have hc := fun W (hW : Below w.heap.size w W) => times_ok mean l a c B lo hi W (hM.below (hW.mono hB)) (by have := hW.size; omega) h0 h1 h2
  obtain ⟨q, hq'⟩ : ∃ q, (hi - lo - 1).tdiv step = q := ⟨_, rfl⟩
  rw [hq'] at hq
  have hs0 : ¬ step = 0 := by omega
  have hw : wrap64 q = q := by
    refine w64 _ ?_ (by omega)
    rw [← hq']
    by_cases hz : 0 ≤ hi - lo - 1
    · have := Int.tdiv_nonneg hz (show 0 ≤ step by omega)
      omega
    · obtain hz' : hi - lo - 1 = -1 := by omega
      rw [hz']
      rcases Decidable.em (step = 1) with h | h
      · subst h; decide
      · have : (-1 : Int).tdiv step = 0 := by
          rw [Int.neg_tdiv, Int.tdiv_eq_zero_of_lt (by omega) (by omega)]; rfl
        omega
  clear hM
  go_enter Try.func23, Try.ntmps23
  go_wp2_with (fail)
  refine (hc _ (by repeat (first | exact Below.refl _ _ | (refine bl_setCell ?_ _ _ ?_; rotate_left; focus (first | omega | (simp; done) | (simp; omega))) | refine bl_alloc ?_ _ | refine bl_step ?_ (by assumption) | refine bl_drew ?_ | refine bl_drewN ?_ _))).mono ?_
  rintro e w1 ⟨rfl, hb1⟩
  obtain ⟨_, _, _⟩ := bk (w.heap.size) hb1 (by (first | omega | (simp; done) | (simp; omega))); obtain ⟨_, _, _⟩ := bk (w.heap.size + 1) hb1 (by (first | omega | (simp; done) | (simp; omega))); have hzhb1 := bsz hb1; try simp only [World.size_alloc] at hzhb1
  go_wp2_with (fail)
  go_ret
  exact ⟨rfl, (by repeat (first | exact Below.refl _ _ | (refine bl_setCell ?_ _ _ ?_; rotate_left; focus (first | omega | (simp; done) | (simp; omega))) | refine bl_alloc ?_ _ | refine bl_step ?_ (by assumption) | refine bl_drew ?_ | refine bl_drewN ?_ _))⟩

set_option maxHeartbeats 2000000 in
set_option maxRecDepth 100000 in
theorem Level_ok (mean : Int) (l : List Part) (a : Option Addr) (c B : Nat) (lo hi : Int) (w : World) (hM : ModelM B w mean l a) (hB : B ≤ w.heap.size) (h0 : 0 ≤ lo) (h1 : lo ≤ hi) (h2 : hi ≤ 1000000000) (x y : Int) (hx : levLo mean l lo hi = x) (hy : levHi mean l lo hi = y) :
    Calls Try.prog 9 #[.agg #[.int .i64 mean, .slice a l.length c], .agg #[.int .i64 lo, .int .i64 hi]] w fun e w' => e = .returned (.tuple #[.agg #[.int .i64 x, .int .i64 y], .int .i64 0]) ∧ Below w.heap.size w w' := by
  have hc := fun W (hW : Below w.heap.size w W) => times_ok mean l a c B lo hi W (hM.below (hW.mono hB)) (by have := hW.size; omega) h0 h1 h2
  have hv := fun W (hW : Below w.heap.size w W) => level_any mean l a c B lo hi W (hM.below (hW.mono hB)).parts (by have := hW.size; omega) hM.good hM.few hM.lo hM.hi (by omega) (by omega) (by omega) (by omega) x y hx hy
  clear hM
  have hF := field59 x y
  have Hhx := Lib.hid hx; clear hx; have Hhy := Lib.hid hy; clear hy
  go_enter Try.func9, Try.ntmps9
  go_wp2_with (fail)
  refine (hc _ (by repeat (first | exact Below.refl _ _ | (refine bl_setCell ?_ _ _ ?_; rotate_left; focus (first | omega | (simp; done) | (simp; omega))) | refine bl_alloc ?_ _ | refine bl_step ?_ (by assumption) | refine bl_drew ?_ | refine bl_drewN ?_ _))).mono ?_
  rintro e w1 ⟨rfl, hb1⟩
  obtain ⟨_, _, _⟩ := bk (w.heap.size) hb1 (by (first | omega | (simp; done) | (simp; omega))); obtain ⟨_, _, _⟩ := bk (w.heap.size + 1) hb1 (by (first | omega | (simp; done) | (simp; omega))); obtain ⟨_, _, _⟩ := bk (w.heap.size + 1 + 1) hb1 (by (first | omega | (simp; done) | (simp; omega))); have hzhb1 := bsz hb1; try simp only [World.size_alloc] at hzhb1
  go_wp2_with (fail)
  refine (hv _ (by repeat (first | exact Below.refl _ _ | (refine bl_setCell ?_ _ _ ?_; rotate_left; focus (first | omega | (simp; done) | (simp; omega))) | refine bl_alloc ?_ _ | refine bl_step ?_ (by assumption) | refine bl_drew ?_ | refine bl_drewN ?_ _))).mono ?_
  rintro e w2 ⟨rfl, hb2⟩
  obtain ⟨_, _, _⟩ := bk (w.heap.size) hb2 (by (first | omega | (simp; done) | (simp; omega))); obtain ⟨_, _, _⟩ := bk (w.heap.size + 1) hb2 (by (first | omega | (simp; done) | (simp; omega))); obtain ⟨_, _, _⟩ := bk (w.heap.size + 1 + 1) hb2 (by (first | omega | (simp; done) | (simp; omega))); have hzhb2 := bsz hb2; try simp only [World.size_alloc] at hzhb2
  go_wp2_with (fail)
  ((try simp only [Exit.inBlock, Exit.then]); refine bodyPost_ret (v := .tuple #[.agg #[.int .i64 x, .int .i64 y], .int .i64 0]) (by simp [results, Try.results9, go_sem, *]) rfl ?_)
  exact ⟨rfl, (by repeat (first | exact Below.refl _ _ | (refine bl_setCell ?_ _ _ ?_; rotate_left; focus (first | omega | (simp; done) | (simp; omega))) | refine bl_alloc ?_ _ | refine bl_step ?_ (by assumption) | refine bl_drew ?_ | refine bl_drewN ?_ _))⟩
end Go.Proofs.Ytfbmjecikilghaa
