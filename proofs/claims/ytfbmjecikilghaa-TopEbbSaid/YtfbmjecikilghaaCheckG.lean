/- grid: a grid and a sea that are well. -/
import Derived.Test.YtfbmjecikilghaaSpan
import Derived.Test.YtfbmjecikilghaaGridA
namespace Go.Proofs.Ytfbmjecikilghaa
open Go.RowKit

def gok (u : Int × Int) : Prop := u.1 ≤ u.2 ∧ -1200000 ≤ u.1 ∧ u.2 ≤ 1200000

theorem enters_gcheck1 : ∀ (args : Array Value) (w : World), (callFunc 84 args).run Try.prog w = .ok (.enter 84 args) w := by
  intro args w
  go_simp

set_option maxHeartbeats 2000000 in
set_option maxRecDepth 100000 in
theorem gcheck1_ok (u : Int × Int) (hu : gok u) (w : World) :
    Calls Try.prog 84 #[.agg #[.int .i64 (u.1), .int .i64 (u.2)]] w fun e w' => e = .returned (.bool false) ∧ Below w.heap.size w w' := by
  obtain ⟨a, b⟩ := u
  obtain ⟨h0, h1, h2⟩ := hu
  simp only at h0 h1 h2 ⊢
  have hv := gvalid_any a b 1200000 (by omega) (by omega)
  have e : vldB a b (-1200000) 1200000 = true := by simp [vldB]; omega
  rw [e] at hv
  clear e
  go_enter Try.func84, Try.ntmps84
  go_wp2_with (go_at_call 22; refine (hv _).mono ?_; rintro e w1 ⟨rfl, hb1⟩; have hzhb1 := bsz hb1)
  go_ret
  exact ⟨rfl, (by repeat (first | exact Below.refl _ _ | (refine bl_setCell ?_ _ _ ?_; rotate_left; focus (first | omega | (simp; done) | (simp; omega))) | refine bl_alloc ?_ _ | refine bl_step ?_ (by assumption) | refine bl_drew ?_ | refine bl_drewN ?_ _))⟩

set_option maxHeartbeats 2000000 in
set_option maxRecDepth 100000 in
theorem indexSpan_none (l : List (Int × Int)) (a : Option Addr) (cap B : Nat) (w : World) (hB : B ≤ w.heap.size) (hs : Sl SpanE 2 B w a l) (hl : ∀ p ∈ l, gok p) :
    Calls Try.prog 57 #[.slice a l.length cap, .func (.func 84) #[] #[]] w
      fun e w' => e = .returned (.int .i64 (-1)) ∧ Below w.heap.size w w' := by
  have hll := hs.1
  have heg := enters_gcheck1
  have HS := Lib.hid hs
  have HL := Lib.hid hl
  clear hs hl
  go_enter Try.func57, Try.ntmps57
  go_wp2_with (fail)
  go_loopw [8] (fun i wr => ∃ k : Nat, k ≤ l.length ∧ i = .int .i64 k ∧ Below w.heap.size w wr) (fun i _ => l.length - (intOf i).toNat)
  case atStart => exact ⟨0, Nat.zero_le _, rfl, Below.refl _ _⟩
  case round =>
    obtain ⟨k, hk, rfl, hb⟩ := hrel
    by_cases hlt : k < l.length
    · obtain ⟨b, off, rfl, hbb, he⟩ := (HS.out.below (ek_span B) (hb.mono hB)).2 k hlt
      obtain ⟨p, hp⟩ : ∃ x, l[k] = x := ⟨_, rfl⟩
      have hc := gcheck1_ok p (by rw [← hp]; exact HL.out _ (List.getElem_mem hlt))
      rw [hp] at he
      obtain ⟨e0, e1⟩ := he
      obtain ⟨p1, p2⟩ := p
      simp only at e0 e1 hc
      have Hhp := Lib.hid hp; clear hp
      go_wp2_with (fail)
      refine (hc wr).mono ?_
      rintro e w' ⟨rfl, hb2⟩
      have hb3 := hb.trans (hb2.mono hb.size)
      go_wp2_with (fail)
      go_roundw
      case rel => exact ⟨k + 1, by omega, by go_num, hb3⟩
      case measure => simp [intOf]; omega
    · go_wp2_with (fail)
      go_ret
      exact ⟨rfl, hb⟩

set_option maxHeartbeats 2000000 in
set_option maxRecDepth 100000 in
theorem containsSpan_none (l : List (Int × Int)) (a : Option Addr) (cap B : Nat) (w : World) (hB : B ≤ w.heap.size) (hs : Sl SpanE 2 B w a l) (hl : ∀ p ∈ l, gok p) :
    Calls Try.prog 28 #[.slice a l.length cap, .func (.func 84) #[] #[]] w
      fun e w' => e = .returned (.bool false) ∧ Below w.heap.size w w' := by
  have hi := indexSpan_none l a cap B w hB hs hl
  clear hs hl
  go_enter Try.func28, Try.ntmps28
  go_wp2_with (fail)
  refine hi.mono ?_
  rintro e w1 ⟨rfl, hb1⟩
  go_wp2_with (fail)
  go_ret
  exact ⟨rfl, hb1⟩

set_option maxHeartbeats 2000000 in
set_option maxRecDepth 100000 in
theorem gcheck_ok (wd ht sz : Int) (l : List (Int × Int)) (a : Option Addr) (c B : Nat) (w : World) (hS : Sl SpanE 2 B w a l) (hB : B ≤ w.heap.size) (hl : ∀ p ∈ l, gok p) (w1 : 1 ≤ wd) (w4 : wd ≤ 4) (h1 : 1 ≤ ht) (h4 : ht ≤ 4) (s1 : 1 ≤ sz) (s2 : sz ≤ 10000) (hn : (l.length : Int) = wd * ht) :
    Calls Try.prog 58 #[.agg #[.int .i64 wd, .int .i64 ht, .int .i64 sz, .slice a l.length c]] w fun e w' => e = .returned (.int .i64 0) ∧ Below w.heap.size w w' := by
  have hS' : Sl SpanE 2 B (w.alloc (.cells #[.int .i64 wd, .int .i64 ht, .int .i64 sz, .slice a l.length c] 36)) a l := hS.below (ek_span B) (((Below.refl _ _).alloc (Nat.le_refl _) _).mono hB)
  have hc := containsSpan_none l a c B (w.alloc (.cells #[.int .i64 wd, .int .i64 ht, .int .i64 sz, .slice a l.length c] 36)) (by simp; omega) hS' hl
  have n16 : (l.length : Int) ≤ 16 := by
    have := Int.mul_le_mul w4 h4 (by omega) (by omega)
    omega
  obtain ⟨n, hnn⟩ : ∃ n : Int, (l.length : Int) = n := ⟨_, rfl⟩
  have hm : wd * ht = n := by omega
  have hw : wrap64 n = n := w64 _ (by omega) (by omega)
  clear hS hS' hl hn
  go_enter Try.func58, Try.ntmps58
  go_wp2_with (first
    | (go_at_call 67; refine (in_any _ _ _ _).mono ?_; rintro e w' ⟨rfl, rfl⟩; have e1 : inB wd 1 24 = true := (by simp [inB]; omega); have e2 : inB ht 1 24 = true := (by simp [inB]; omega); have e3 : inB sz 1 10000 = true := (by simp [inB]; omega))
    | (go_at_call 28; refine hc.mono ?_; rintro e w' ⟨rfl, hb1⟩))
  go_ret
  exact ⟨rfl, (by repeat (first | exact Below.refl _ _ | (refine bl_setCell ?_ _ _ ?_; rotate_left; focus (first | omega | (simp; done) | (simp; omega))) | refine bl_alloc ?_ _ | refine bl_step ?_ (by assumption) | refine bl_drew ?_ | refine bl_drewN ?_ _))⟩
end Go.Proofs.Ytfbmjecikilghaa
