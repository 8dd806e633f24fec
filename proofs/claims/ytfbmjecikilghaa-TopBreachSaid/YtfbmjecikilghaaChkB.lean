/- tide: checks that all is well: a good model, good times, a good step. -/
import Derived.Test.YtfbmjecikilghaaLevE
namespace Go.Proofs.Ytfbmjecikilghaa
open Go.RowKit

theorem enters_check1 : ∀ (args : Array Value) (w : World), (callFunc 60 args).run Try.prog w = .ok (.enter 60 args) w := by
  intro args w
  go_simp

set_option maxHeartbeats 2000000 in
set_option maxRecDepth 100000 in
theorem pvalid_ok (p : Part) (hp : p.good) (w : World) :
    Calls Try.prog 61 #[.agg #[.int .i64 p.amp, .int .i64 p.period, .int .i64 p.phase]] w fun e w' => e = .returned (.bool true) ∧ Below w.heap.size w w' := by
  obtain ⟨amp, per, ph⟩ := p
  obtain ⟨a0, a1, p0, p1, f0, f1⟩ := hp
  simp only [] at *
  go_enter Try.func61, Try.ntmps61
  go_wp2
  go_ret
  exact ⟨by simp, (by repeat (first | exact Below.refl _ _ | (refine bl_setCell ?_ _ _ ?_; rotate_left; focus (first | omega | (simp; done) | (simp; omega))) | refine bl_alloc ?_ _ | refine bl_step ?_ (by assumption) | refine bl_drew ?_ | refine bl_drewN ?_ _))⟩

set_option maxHeartbeats 2000000 in
set_option maxRecDepth 100000 in
theorem check1_ok (p : Part) (hp : p.good) (w : World) :
    Calls Try.prog 60 #[.agg #[.int .i64 p.amp, .int .i64 p.period, .int .i64 p.phase]] w fun e w' => e = .returned (.bool false) ∧ Below w.heap.size w w' := by
  have hv := pvalid_ok p hp
  clear hp
  go_enter Try.func60, Try.ntmps60
  go_wp2_with (go_at_call 61; refine (hv _).mono ?_; rintro e w1 ⟨rfl, hb1⟩; have hzhb1 := bsz hb1)
  go_ret
  exact ⟨rfl, (by repeat (first | exact Below.refl _ _ | (refine bl_setCell ?_ _ _ ?_; rotate_left; focus (first | omega | (simp; done) | (simp; omega))) | refine bl_alloc ?_ _ | refine bl_step ?_ (by assumption) | refine bl_drew ?_ | refine bl_drewN ?_ _))⟩

set_option maxHeartbeats 2000000 in
set_option maxRecDepth 100000 in
theorem indexPart_none (l : List Part) (a : Option Addr) (cap B : Nat) (w : World) (hB : B ≤ w.heap.size) (hs : Sl PartE 3 B w a l) (hl : ∀ p ∈ l, p.good) :
    Calls Try.prog 85 #[.slice a l.length cap, .func (.func 60) #[] #[]] w
      fun e w' => e = .returned (.int .i64 (-1)) ∧ Below w.heap.size w w' := by
  have hll := hs.1
  have heg := enters_check1
  have HS := Lib.hid hs
  have HL := Lib.hid hl
  clear hs hl
  go_enter Try.func85, Try.ntmps85
  go_wp2_with (fail)
  go_loopw [8] (fun i wr => ∃ k : Nat, k ≤ l.length ∧ i = .int .i64 k ∧ Below w.heap.size w wr) (fun i _ => l.length - (intOf i).toNat)
  case atStart => exact ⟨0, Nat.zero_le _, rfl, Below.refl _ _⟩
  case round =>
    obtain ⟨k, hk, rfl, hb⟩ := hrel
    by_cases hlt : k < l.length
    · obtain ⟨b, off, rfl, hbb, he⟩ := (HS.out.below (ek_part B) (hb.mono hB)).2 k hlt
      obtain ⟨p, hp⟩ : ∃ x, l[k] = x := ⟨_, rfl⟩
      have hc := check1_ok p (by rw [← hp]; exact HL.out _ (List.getElem_mem hlt))
      rw [hp] at he
      obtain ⟨e0, e1, e2⟩ := he
      have Hhp := Lib.hid hp; clear hp
      go_wp2_with (fail)
      refine (hc wr).mono ?_
      rintro e w' ⟨rfl, hb2⟩
      have hb3 := hb.trans (hb2.mono hb.size)
      go_wp2_with (fail)
      go_roundw
      case rel => exact ⟨k + 1, by omega, by go_num, hb3⟩
      case measure => simp [intOf]; omega
    · go_wp2_with (fail)
      go_ret
      exact ⟨rfl, hb⟩

set_option maxHeartbeats 2000000 in
set_option maxRecDepth 100000 in
theorem containsPart_none (l : List Part) (a : Option Addr) (cap B : Nat) (w : World) (hB : B ≤ w.heap.size) (hs : Sl PartE 3 B w a l) (hl : ∀ p ∈ l, p.good) :
    Calls Try.prog 59 #[.slice a l.length cap, .func (.func 60) #[] #[]] w
      fun e w' => e = .returned (.bool false) ∧ Below w.heap.size w w' := by
  have hi := indexPart_none l a cap B w hB hs hl
  clear hs hl
  go_enter Try.func59, Try.ntmps59
  go_wp2_with (fail)
  refine hi.mono ?_
  rintro e w1 ⟨rfl, hb1⟩
  go_wp2_with (fail)
  go_ret
  exact ⟨rfl, hb1⟩

set_option maxHeartbeats 2000000 in
set_option maxRecDepth 100000 in
theorem check_ok (mean : Int) (l : List Part) (a : Option Addr) (c B : Nat) (w : World) (hS : Sl PartE 3 B w a l) (hB : B ≤ w.heap.size) (hl : ∀ p ∈ l, p.good) (hn : l.length ≤ 16) (hm0 : -10000 ≤ mean) (hm1 : mean ≤ 10000) :
    Calls Try.prog 37 #[.agg #[.int .i64 mean, .slice a l.length c]] w fun e w' => e = .returned (.int .i64 0) ∧ Below w.heap.size w w' := by
  have hS' : Sl PartE 3 B (w.alloc (.cells #[.int .i64 mean, .slice a l.length c] 40)) a l := hS.below (ek_part B) (((Below.refl _ _).alloc (Nat.le_refl _) _).mono hB)
  have hc := containsPart_none l a c B (w.alloc (.cells #[.int .i64 mean, .slice a l.length c] 40)) (by simp; omega) hS' hl
  have h1 : max mean (-10000) = mean := by omega
  have h2 : min mean 10000 = mean := by omega
  have h3 : decide (16 < l.length) = false := by simpa using hn
  clear hS hS' hl
  go_enter Try.func37, Try.ntmps37
  go_wp2_with (fail)
  refine hc.mono ?_
  rintro e w1 ⟨rfl, hb1⟩
  go_wp2_with (fail)
  go_ret
  exact ⟨rfl, (by repeat (first | exact Below.refl _ _ | (refine bl_setCell ?_ _ _ ?_; rotate_left; focus (first | omega | (simp; done) | (simp; omega))) | refine bl_alloc ?_ _ | refine bl_step ?_ (by assumption) | refine bl_drew ?_ | refine bl_drewN ?_ _))⟩
end Go.Proofs.Ytfbmjecikilghaa
namespace Go.Proofs.Ytfbmjecikilghaa
open Go.RowKit

theorem field59 (x y : Int) (W : World) : Sem.run Try.prog (Instr.field 83 (.agg #[.int .i64 x, .int .i64 y]) 0) W = Result.ok (.agg #[.int .i64 x, .int .i64 y]) W := by
  simp [Instr.field, go_sem, part, asAgg]
theorem field36 (x y : Int) (W : World) : Sem.run Try.prog (Instr.field 46 (.agg #[.int .i64 x, .int .i64 y]) 1) W = Result.ok (.int .i64 y) W := by
  simp [Instr.field, go_sem, part, asAgg]

/-- A model that is well, and where its parts lie. -/
structure ModelM (B : Nat) (w : World) (mean : Int) (l : List Part) (a : Option Addr) : Prop where
  parts : Sl PartE 3 B w a l
  good : ∀ p ∈ l, p.good
  few : l.length ≤ 16
  lo : -10000 ≤ mean
  hi : mean ≤ 10000
theorem ModelM.below {B : Nat} {w w' : World} {mean : Int} {l : List Part} {a : Option Addr} (h : ModelM B w mean l a) (hB : Below B w w') : ModelM B w' mean l a :=
  ⟨h.parts.below (ek_part B) hB, h.good, h.few, h.lo, h.hi⟩

set_option maxHeartbeats 2000000 in
set_option maxRecDepth 100000 in
theorem times_ok (mean : Int) (l : List Part) (a : Option Addr) (c B : Nat) (lo hi : Int) (w : World) (hM : ModelM B w mean l a) (hB : B ≤ w.heap.size) (h0 : 0 ≤ lo) (h1 : lo ≤ hi) (h2 : hi ≤ 1000000000) :
    Calls Try.prog 19 #[.agg #[.int .i64 mean, .slice a l.length c], .agg #[.int .i64 lo, .int .i64 hi]] w fun e w' => e = .returned (.int .i64 0) ∧ Below w.heap.size w w' := by
  have hc := fun W (hW : Below w.heap.size w W) => check_ok mean l a c B W ((hM.below (hW.mono hB)).parts) (by have := hW.size; omega) hM.good hM.few hM.lo hM.hi
  have hv : vldB lo hi 0 1000000000 = true := by simp [vldB]; omega
  have hv2 := tvalid_any lo hi 0 1000000000
  rw [hv] at hv2
  clear hM
  have Hhv := Lib.hid hv; clear hv
  go_enter Try.func19, Try.ntmps19
  go_wp2_with (fail)
  refine (hc _ (by repeat (first | exact Below.refl _ _ | (refine bl_setCell ?_ _ _ ?_; rotate_left; focus (first | omega | (simp; done) | (simp; omega))) | refine bl_alloc ?_ _ | refine bl_step ?_ (by assumption) | refine bl_drew ?_ | refine bl_drewN ?_ _))).mono ?_
  rintro e w1 ⟨rfl, hb1⟩
  obtain ⟨_, _, _⟩ := bk (w.heap.size) hb1 (by (first | omega | (simp; done) | (simp; omega))); obtain ⟨_, _, _⟩ := bk (w.heap.size + 1) hb1 (by (first | omega | (simp; done) | (simp; omega))); have hzhb1 := bsz hb1; try simp only [World.size_alloc] at hzhb1
  go_wp2_with (fail)
  refine (hv2 _).mono ?_
  rintro e w2 ⟨rfl, hb2⟩
  go_wp2_with (fail)
  go_ret
  exact ⟨rfl, (by repeat (first | exact Below.refl _ _ | (refine bl_setCell ?_ _ _ ?_; rotate_left; focus (first | omega | (simp; done) | (simp; omega))) | refine bl_alloc ?_ _ | refine bl_step ?_ (by assumption) | refine bl_drew ?_ | refine bl_drewN ?_ _))⟩

set_option maxHeartbeats 2000000 in
set_option maxRecDepth 100000 in
theorem steps_ok (mean : Int) (l : List Part) (a : Option Addr) (c B : Nat) (lo hi step : Int) (w : World) (hM : ModelM B w mean l a) (hB : B ≤ w.heap.size) (h0 : 0 ≤ lo) (h1 : lo ≤ hi) (h2 : hi ≤ 1000000000)
    (hs : 1 ≤ step) (hs2 : step ≤ 1000000000) (hq : (hi - lo - 1).tdiv step < 10000) :
    Calls Try.prog 23 #[.agg #[.int .i64 mean, .slice a l.length c], .agg #[.int .i64 lo, .int .i64 hi], .int .i64 step] w fun e w' => e = .returned (.int .i64 0) ∧ Below w.heap.size w w' := by
  have hc := fun W (hW : Below w.heap.size w W) => times_ok mean l a c B lo hi W (hM.below (hW.mono hB)) (by have := hW.size; omega) h0 h1 h2
  obtain ⟨q, hq'⟩ : ∃ q, (hi - lo - 1).tdiv step = q := ⟨_, rfl⟩
  rw [hq'] at hq
  have hs0 : ¬ step = 0 := by omega
  have hw : wrap64 q = q := by
    refine w64 _ ?_ (by omega)
    rw [← hq']
    by_cases hz : 0 ≤ hi - lo - 1
    · have := Int.tdiv_nonneg hz (show 0 ≤ step by omega)
      omega
    · obtain hz' : hi - lo - 1 = -1 := by omega
      rw [hz']
      rcases Decidable.em (step = 1) with h | h
      · subst h; decide
      · have : (-1 : Int).tdiv step = 0 := by
          rw [Int.neg_tdiv, Int.tdiv_eq_zero_of_lt (by omega) (by omega)]; rfl
        omega
  clear hM
  go_enter Try.func23, Try.ntmps23
  go_wp2_with (fail)
  refine (hc _ (by repeat (first | exact Below.refl _ _ | (refine bl_setCell ?_ _ _ ?_; rotate_left; focus (first | omega | (simp; done) | (simp; omega))) | refine bl_alloc ?_ _ | refine bl_step ?_ (by assumption) | refine bl_drew ?_ | refine bl_drewN ?_ _))).mono ?_
  rintro e w1 ⟨rfl, hb1⟩
  obtain ⟨_, _, _⟩ := bk (w.heap.size) hb1 (by (first | omega | (simp; done) | (simp; omega))); obtain ⟨_, _, _⟩ := bk (w.heap.size + 1) hb1 (by (first | omega | (simp; done) | (simp; omega))); have hzhb1 := bsz hb1; try simp only [World.size_alloc] at hzhb1
  go_wp2_with (fail)
  go_ret
  exact ⟨rfl, (by repeat (first | exact Below.refl _ _ | (refine bl_setCell ?_ _ _ ?_; rotate_left; focus (first | omega | (simp; done) | (simp; omega))) | refine bl_alloc ?_ _ | refine bl_step ?_ (by assumption) | refine bl_drew ?_ | refine bl_drewN ?_ _))⟩

set_option maxHeartbeats 2000000 in
set_option maxRecDepth 100000 in
theorem Level_ok (mean : Int) (l : List Part) (a : Option Addr) (c B : Nat) (lo hi : Int) (w : World) (hM : ModelM B w mean l a) (hB : B ≤ w.heap.size) (h0 : 0 ≤ lo) (h1 : lo ≤ hi) (h2 : hi ≤ 1000000000) (x y : Int) (hx : levLo mean l lo hi = x) (hy : levHi mean l lo hi = y) :
    Calls Try.prog 9 #[.agg #[.int .i64 mean, .slice a l.length c], .agg #[.int .i64 lo, .int .i64 hi]] w fun e w' => e = .returned (.tuple #[.agg #[.int .i64 x, .int .i64 y], .int .i64 0]) ∧ Below w.heap.size w w' := by
  have hc := fun W (hW : Below w.heap.size w W) => times_ok mean l a c B lo hi W (hM.below (hW.mono hB)) (by have := hW.size; omega) h0 h1 h2
  have hv := fun W (hW : Below w.heap.size w W) => level_any mean l a c B lo hi W (hM.below (hW.mono hB)).parts (by have := hW.size; omega) hM.good hM.few hM.lo hM.hi (by omega) (by omega) (by omega) (by omega) x y hx hy
  clear hM
  have hF := field59 x y
  have Hhx := Lib.hid hx; clear hx; have Hhy := Lib.hid hy; clear hy
  go_enter Try.func9, Try.ntmps9
  go_wp2_with (fail)
  refine (hc _ (by repeat (first | exact Below.refl _ _ | (refine bl_setCell ?_ _ _ ?_; rotate_left; focus (first | omega | (simp; done) | (simp; omega))) | refine bl_alloc ?_ _ | refine bl_step ?_ (by assumption) | refine bl_drew ?_ | refine bl_drewN ?_ _))).mono ?_
  rintro e w1 ⟨rfl, hb1⟩
  obtain ⟨_, _, _⟩ := bk (w.heap.size) hb1 (by (first | omega | (simp; done) | (simp; omega))); obtain ⟨_, _, _⟩ := bk (w.heap.size + 1) hb1 (by (first | omega | (simp; done) | (simp; omega))); obtain ⟨_, _, _⟩ := bk (w.heap.size + 1 + 1) hb1 (by (first | omega | (simp; done) | (simp; omega))); have hzhb1 := bsz hb1; try simp only [World.size_alloc] at hzhb1
  go_wp2_with (fail)
  refine (hv _ (by repeat (first | exact Below.refl _ _ | (refine bl_setCell ?_ _ _ ?_; rotate_left; focus (first | omega | (simp; done) | (simp; omega))) | refine bl_alloc ?_ _ | refine bl_step ?_ (by assumption) | refine bl_drew ?_ | refine bl_drewN ?_ _))).mono ?_
  rintro e w2 ⟨rfl, hb2⟩
  obtain ⟨_, _, _⟩ := bk (w.heap.size) hb2 (by (first | omega | (simp; done) | (simp; omega))); obtain ⟨_, _, _⟩ := bk (w.heap.size + 1) hb2 (by (first | omega | (simp; done) | (simp; omega))); obtain ⟨_, _, _⟩ := bk (w.heap.size + 1 + 1) hb2 (by (first | omega | (simp; done) | (simp; omega))); have hzhb2 := bsz hb2; try simp only [World.size_alloc] at hzhb2
  go_wp2_with (fail)
  ((try simp only [Exit.inBlock, Exit.then]); refine bodyPost_ret (v := .tuple #[.agg #[.int .i64 x, .int .i64 y], .int .i64 0]) (by simp [results, Try.results9, go_sem, *]) rfl ?_)
  exact ⟨rfl, (by repeat (first | exact Below.refl _ _ | (refine bl_setCell ?_ _ _ ?_; rotate_left; focus (first | omega | (simp; done) | (simp; omega))) | refine bl_alloc ?_ _ | refine bl_step ?_ (by assumption) | refine bl_drew ?_ | refine bl_drewN ?_ _))⟩
end Go.Proofs.Ytfbmjecikilghaa
