/- tide: checks that all is well: a good model, good times, a good step. -/
import Derived.Test.YtfbmjecikilghaaLevE
namespace Go.Proofs.Ytfbmjecikilghaa
open Go.RowKit

theorem enters_check1 : ∀ (args : Array Value) (w : World), (callFunc 60 args).run Try.prog w = .ok (.enter 60 args) w := by
  intro args w
  go_simp

set_option maxHeartbeats 2000000 in
set_option maxRecDepth 100000 in
theorem pvalid_ok (p : Part) (hp : p.good) (w : World) :
    Calls Try.prog 61 #[.agg #[.int .i64 p.amp, .int .i64 p.period, .int .i64 p.phase]] w fun e w' => e = .returned (.bool true) ∧ Below w.heap.size w w' := by
  obtain ⟨amp, per, ph⟩ := p
  obtain ⟨a0, a1, p0, p1, f0, f1⟩ := hp
  simp only [] at *
  go_enter Try.func61, Try.ntmps61
  go_wp2
  go_ret
  exact ⟨by simp, (by repeat (first | exact Below.refl _ _ | (refine bl_setCell ?_ _ _ ?_; rotate_left; focus (first | omega | (simp; done) | (simp; omega))) | refine bl_alloc ?_ _ | refine bl_step ?_ (by assumption) | refine bl_drew ?_ | refine bl_drewN ?_ _))⟩

set_option maxHeartbeats 2000000 in
set_option maxRecDepth 100000 in
theorem check1_ok (p : Part) (hp : p.good) (w : World) :
    Calls Try.prog 60 #[.agg #[.int .i64 p.amp, .int .i64 p.period, .int .i64 p.phase]] w fun e w' => e = .returned (.bool false) ∧ Below w.heap.size w w' := by
  have hv := pvalid_ok p hp
  clear hp
  go_enter Try.func60, Try.ntmps60
  go_wp2_with (go_at_call 61; refine (hv _).mono ?_; rintro e w1 ⟨rfl, hb1⟩; have hzhb1 := bsz hb1)
  go_ret
  exact ⟨rfl, (by repeat (first | exact Below.refl _ _ | (refine bl_setCell ?_ _ _ ?_; rotate_left; focus (first | omega | (simp; done) | (simp; omega))) | refine bl_alloc ?_ _ | refine bl_step ?_ (by assumption) | refine bl_drew ?_ | refine bl_drewN ?_ _))⟩

set_option maxHeartbeats 2000000 in
set_option maxRecDepth 100000 in
theorem indexPart_none (l : List Part) (a : Option Addr) (cap B : Nat) (w : World) (hB : B ≤ w.heap.size) (hs : Sl PartE 3 B w a l) (hl : ∀ p ∈ l, p.good) :
    Calls Try.prog 85 #[.slice a l.length cap, .func (.func 60) #[] #[]] w
      fun e w' => e = .returned (.int .i64 (-1)) ∧ Below w.heap.size w w' := by
  have hll := hs.1
  have heg := enters_check1
  have HS := Lib.hid hs
  have HL := Lib.hid hl
  clear hs hl
  go_enter Try.func85, Try.ntmps85
  go_wp2_with (fail)
  go_loopw [8] (fun i wr => ∃ k : Nat, k ≤ l.length ∧ i = .int .i64 k ∧ Below w.heap.size w wr) (fun i _ => l.length - (intOf i).toNat)
  case atStart => exact ⟨0, Nat.zero_le _, rfl, Below.refl _ _⟩
  case round =>
    obtain ⟨k, hk, rfl, hb⟩ := hrel
    by_cases hlt : k < l.length
    · obtain ⟨b, off, rfl, hbb, he⟩ := (HS.out.below (ek_part B) (hb.mono hB)).2 k hlt
      obtain ⟨p, hp⟩ : ∃ x, l[k] = x := ⟨_, rfl⟩
      have hc := check1_ok p (by rw [← hp]; exact HL.out _ (List.getElem_mem hlt))
      rw [hp] at he
      obtain ⟨e0, e1, e2⟩ := he
      have Hhp := Lib.hid hp; clear hp
      go_wp2_with (fail)
      refine (hc wr).mono ?_
      rintro e w' ⟨rfl, hb2⟩
      have hb3 := hb.trans (hb2.mono hb.size)
      go_wp2_with (fail)
      go_roundw
      case rel => exact ⟨k + 1, by omega, by go_num, hb3⟩
      case measure => simp [intOf]; omega
    · go_wp2_with (fail)
      go_ret
      exact ⟨rfl, hb⟩

set_option maxHeartbeats 2000000 in
set_option maxRecDepth 100000 in
theorem containsPart_none (l : List Part) (a : Option Addr) (cap B : Nat) (w : World) (hB : B ≤ w.heap.size) (hs : Sl PartE 3 B w a l) (hl : ∀ p ∈ l, p.good) :
    Calls Try.prog 59 #[.slice a l.length cap, .func (.func 60) #[] #[]] w
      fun e w' => e = .returned (.bool false) ∧ Below w.heap.size w w' := by
  have hi := indexPart_none l a cap B w hB hs hl
  clear hs hl
  go_enter Try.func59, Try.ntmps59
  go_wp2_with (fail)
  refine hi.mono ?_
  rintro e w1 ⟨rfl, hb1⟩
  go_wp2_with (fail)
  go_ret
  exact ⟨rfl, hb1⟩

set_option maxHeartbeats 2000000 in
set_option maxRecDepth 100000 in
theorem check_ok (mean : Int) (l : List Part) (a : Option Addr) (c B : Nat) (w : World) (hS : Sl PartE 3 B w a l) (hB : B ≤ w.heap.size) (hl : ∀ p ∈ l, p.good) (hn : l.length ≤ 16) (hm0 : -10000 ≤ mean) (hm1 : mean ≤ 10000) :
    Calls Try.prog 37 #[.agg #[.int .i64 mean, .slice a l.length c]] w fun e w' => e = .returned (.int .i64 0) ∧ Below w.heap.size w w' := by
  have hS' : Sl PartE 3 B (w.alloc (.cells #[.int .i64 mean, .slice a l.length c] 40)) a l := hS.below (ek_part B) (((Below.refl _ _).alloc (Nat.le_refl _) _).mono hB)
  have hc := containsPart_none l a c B (w.alloc (.cells #[.int .i64 mean, .slice a l.length c] 40)) (by simp; omega) hS' hl
  have h1 : max mean (-10000) = mean := by omega
  have h2 : min mean 10000 = mean := by omega
  have h3 : decide (16 < l.length) = false := by simpa using hn
  clear hS hS' hl
  go_enter Try.func37, Try.ntmps37
  go_wp2_with (fail)
  refine hc.mono ?_
  rintro e w1 ⟨rfl, hb1⟩
  go_wp2_with (fail)
  go_ret
  exact ⟨rfl, (by repeat (first | exact Below.refl _ _ | (refine bl_setCell ?_ _ _ ?_; rotate_left; focus (first | omega | (simp; done) | (simp; omega))) | refine bl_alloc ?_ _ | refine bl_step ?_ (by assumption) | refine bl_drew ?_ | refine bl_drewN ?_ _))⟩
end Go.Proofs.Ytfbmjecikilghaa
