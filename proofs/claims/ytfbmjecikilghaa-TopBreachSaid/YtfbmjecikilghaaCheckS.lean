/- grid: a grid and a sea that are well. -/
import Derived.Test.YtfbmjecikilghaaSpan
import Derived.Test.YtfbmjecikilghaaGridA
namespace Go.Proofs.Ytfbmjecikilghaa
open Go.RowKit

def gok (u : Int × Int) : Prop := u.1 ≤ u.2 ∧ -1200000 ≤ u.1 ∧ u.2 ≤ 1200000

theorem enters_gcheck1 : ∀ (args : Array Value) (w : World), (callFunc 84 args).run Try.prog w = .ok (.enter 84 args) w := by
  intro args w
  go_simp

set_option maxHeartbeats 2000000 in
set_option maxRecDepth 100000 in
theorem gcheck1_ok (u : Int × Int) (hu : gok u) (w : World) :
    Calls Try.prog 84 #[.agg #[.int .i64 (u.1), .int .i64 (u.2)]] w fun e w' => e = .returned (.bool false) ∧ Below w.heap.size w w' := by
  obtain ⟨a, b⟩ := u
  obtain ⟨h0, h1, h2⟩ := hu
  simp only at h0 h1 h2 ⊢
  have hv := gvalid_any a b 1200000 (by omega) (by omega)
  have e : vldB a b (-1200000) 1200000 = true := by simp [vldB]; omega
  rw [e] at hv
  clear e
  go_enter Try.func84, Try.ntmps84
  go_wp2_with (go_at_call 22; refine (hv _).mono ?_; rintro e w1 ⟨rfl, hb1⟩; have hzhb1 := bsz hb1)
  go_ret
  exact ⟨rfl, (by repeat (first | exact Below.refl _ _ | (refine bl_setCell ?_ _ _ ?_; rotate_left; focus (first | omega | (simp; done) | (simp; omega))) | refine bl_alloc ?_ _ | refine bl_step ?_ (by assumption) | refine bl_drew ?_ | refine bl_drewN ?_ _))⟩

set_option maxHeartbeats 2000000 in
set_option maxRecDepth 100000 in
theorem indexSpan_none (l : List (Int × Int)) (a : Option Addr) (cap B : Nat) (w : World) (hB : B ≤ w.heap.size) (hs : Sl SpanE 2 B w a l) (hl : ∀ p ∈ l, gok p) :
    Calls Try.prog 57 #[.slice a l.length cap, .func (.func 84) #[] #[]] w
      fun e w' => e = .returned (.int .i64 (-1)) ∧ Below w.heap.size w w' := by
  have hll := hs.1
  have heg := enters_gcheck1
  have HS := Lib.hid hs
  have HL := Lib.hid hl
  clear hs hl
  go_enter Try.func57, Try.ntmps57
  go_wp2_with (fail)
  go_loopw [8] (fun i wr => ∃ k : Nat, k ≤ l.length ∧ i = .int .i64 k ∧ Below w.heap.size w wr) (fun i _ => l.length - (intOf i).toNat)
  case atStart => exact ⟨0, Nat.zero_le _, rfl, Below.refl _ _⟩
  case round =>
    obtain ⟨k, hk, rfl, hb⟩ := hrel
    by_cases hlt : k < l.length
    · obtain ⟨b, off, rfl, hbb, he⟩ := (HS.out.below (ek_span B) (hb.mono hB)).2 k hlt
      obtain ⟨p, hp⟩ : ∃ x, l[k] = x := ⟨_, rfl⟩
      have hc := gcheck1_ok p (by rw [← hp]; exact HL.out _ (List.getElem_mem hlt))
      rw [hp] at he
      obtain ⟨e0, e1⟩ := he
      obtain ⟨p1, p2⟩ := p
      simp only at e0 e1 hc
      have Hhp := Lib.hid hp; clear hp
      go_wp2_with (fail)
      refine (hc wr).mono ?_
      rintro e w' ⟨rfl, hb2⟩
      have hb3 := hb.trans (hb2.mono hb.size)
      go_wp2_with (fail)
      go_roundw
      case rel => exact ⟨k + 1, by omega, by go_num, hb3⟩
      case measure => simp [intOf]; omega
    · go_wp2_with (fail)
      go_ret
      exact ⟨rfl, hb⟩

set_option maxHeartbeats 2000000 in
set_option maxRecDepth 100000 in
theorem containsSpan_none (l : List (Int × Int)) (a : Option Addr) (cap B : Nat) (w : World) (hB : B ≤ w.heap.size) (hs : Sl SpanE 2 B w a l) (hl : ∀ p ∈ l, gok p) :
    Calls Try.prog 28 #[.slice a l.length cap, .func (.func 84) #[] #[]] w
      fun e w' => e = .returned (.bool false) ∧ Below w.heap.size w w' := by
  have hi := indexSpan_none l a cap B w hB hs hl
  clear hs hl
  go_enter Try.func28, Try.ntmps28
  go_wp2_with (fail)
  refine hi.mono ?_
  rintro e w1 ⟨rfl, hb1⟩
  go_wp2_with (fail)
  go_ret
  exact ⟨rfl, hb1⟩

set_option maxHeartbeats 2000000 in
set_option maxRecDepth 100000 in
theorem gcheck_ok (wd ht sz : Int) (l : List (Int × Int)) (a : Option Addr) (c B : Nat) (w : World) (hS : Sl SpanE 2 B w a l) (hB : B ≤ w.heap.size) (hl : ∀ p ∈ l, gok p) (w1 : 1 ≤ wd) (w4 : wd ≤ 4) (h1 : 1 ≤ ht) (h4 : ht ≤ 4) (s1 : 1 ≤ sz) (s2 : sz ≤ 10000) (hn : (l.length : Int) = wd * ht) :
    Calls Try.prog 58 #[.agg #[.int .i64 wd, .int .i64 ht, .int .i64 sz, .slice a l.length c]] w fun e w' => e = .returned (.int .i64 0) ∧ Below w.heap.size w w' := by
  have hS' : Sl SpanE 2 B (w.alloc (.cells #[.int .i64 wd, .int .i64 ht, .int .i64 sz, .slice a l.length c] 36)) a l := hS.below (ek_span B) (((Below.refl _ _).alloc (Nat.le_refl _) _).mono hB)
  have hc := containsSpan_none l a c B (w.alloc (.cells #[.int .i64 wd, .int .i64 ht, .int .i64 sz, .slice a l.length c] 36)) (by simp; omega) hS' hl
  have n16 : (l.length : Int) ≤ 16 := by
    have := Int.mul_le_mul w4 h4 (by omega) (by omega)
    omega
  obtain ⟨n, hnn⟩ : ∃ n : Int, (l.length : Int) = n := ⟨_, rfl⟩
  have hm : wd * ht = n := by omega
  have hw : wrap64 n = n := w64 _ (by omega) (by omega)
  clear hS hS' hl hn
  go_enter Try.func58, Try.ntmps58
  go_wp2_with (first
    | (go_at_call 67; refine (in_any _ _ _ _).mono ?_; rintro e w' ⟨rfl, rfl⟩; have e1 : inB wd 1 24 = true := (by simp [inB]; omega); have e2 : inB ht 1 24 = true := (by simp [inB]; omega); have e3 : inB sz 1 10000 = true := (by simp [inB]; omega))
    | (go_at_call 28; refine hc.mono ?_; rintro e w' ⟨rfl, hb1⟩))
  go_ret
  exact ⟨rfl, (by repeat (first | exact Below.refl _ _ | (refine bl_setCell ?_ _ _ ?_; rotate_left; focus (first | omega | (simp; done) | (simp; omega))) | refine bl_alloc ?_ _ | refine bl_step ?_ (by assumption) | refine bl_drew ?_ | refine bl_drewN ?_ _))⟩
end Go.Proofs.Ytfbmjecikilghaa
namespace Go.Proofs.Ytfbmjecikilghaa
open Go.RowKit

theorem enters_seacheck : ∀ (args : Array Value) (w : World), (callFunc 66 args).run Try.prog w = .ok (.enter 66 args) w := by
  intro args w
  go_simp

set_option maxHeartbeats 2000000 in
set_option maxRecDepth 100000 in
theorem seacheck_ok (c : Int) (b : Nat) (x y z : Value) (a : Option Addr) (n cap : Nat) (w : World) (hb : w.heap[b]? = some (.cells #[x, y, z, .slice a n cap] 36 (0, 0))) (c0 : 0 ≤ c) (c1 : c < n) (hn : n ≤ 1000) :
    Calls Try.prog 66 #[.int .i64 c, .pointer (some ⟨b, 0, none⟩)] w fun e w' => e = .returned (.bool false) ∧ w = w' := by
  have hbc := cells_of hb
  have hbl := lt_of_heap hb
  clear hb
  go_enter Try.func66, Try.ntmps66
  go_wp2_with fail
  refine (in_any _ _ _ _).mono ?_
  rintro e w' ⟨rfl, rfl⟩
  have e1 : inB c 0 ((n : Int) - 1) = true := by simp [inB]; omega
  go_wp2_with fail
  go_ret
  exact ⟨rfl, rfl⟩

set_option maxHeartbeats 2000000 in
set_option maxRecDepth 100000 in
theorem indexSea_none (l : List Int) (a : Option Addr) (cap B b : Nat) (x y z : Value) (ga : Option Addr) (n gcap : Nat) (w : World) (hb : w.heap[b]? = some (.cells #[x, y, z, .slice ga n gcap] 36 (0, 0))) (hn : n ≤ 1000) (hs : Sl IntE 1 B w a l) (hl : ∀ c ∈ l, 0 ≤ c ∧ c < n) :
    Calls Try.prog 88 #[.slice a l.length cap, .func (.func 66) #[] #[.pointer (some ⟨b, 0, none⟩)]] w
      fun e w' => e = .returned (.int .i64 (-1)) ∧ w = w' := by
  have hll := hs.1
  have heg := enters_seacheck
  have HS := Lib.hid hs
  have HL := Lib.hid hl
  have HB := Lib.hid hb
  clear hs hl hb
  go_enter Try.func88, Try.ntmps88
  go_wp2_with (fail)
  go_loop [8] (fun i => ∃ k : Nat, k ≤ l.length ∧ i = .int .i64 k) (fun i => l.length - (intOf i).toNat)
  case atStart => exact ⟨0, Nat.zero_le _, rfl⟩
  case round =>
    obtain ⟨k, hk, rfl⟩ := hrel
    by_cases hlt : k < l.length
    · obtain ⟨b2, off, rfl, hbb, he⟩ := HS.out.2 k hlt
      obtain ⟨p, hp⟩ : ∃ x, l[k] = x := ⟨_, rfl⟩
      have hc1 := HL.out _ (List.getElem_mem hlt)
      rw [hp] at he hc1
      have hc := seacheck_ok p b x y z ga n gcap w HB.out hc1.1 hc1.2 hn
      have he' : w.cell? ⟨b2, off + k * 1, none⟩ = some (.int .i64 p) := he
      rw [Nat.mul_one] at he'
      clear he
      have Hhp := Lib.hid hp; clear hp; have Hhc1 := Lib.hid hc1; clear hc1
      go_wp2_with (fail)
      refine hc.mono ?_
      rintro e w' ⟨rfl, rfl⟩
      go_wp2_with (fail)
      go_round
      case rel => exact ⟨k + 1, by omega, by go_num⟩
      case measure => simp [intOf]; omega
    · go_wp2_with (fail)
      go_ret
      exact ⟨rfl, rfl⟩

set_option maxHeartbeats 2000000 in
set_option maxRecDepth 100000 in
theorem containsSea_none (l : List Int) (a : Option Addr) (cap B b : Nat) (x y z : Value) (ga : Option Addr) (n gcap : Nat) (w : World) (hb : w.heap[b]? = some (.cells #[x, y, z, .slice ga n gcap] 36 (0, 0))) (hn : n ≤ 1000) (hs : Sl IntE 1 B w a l) (hl : ∀ c ∈ l, 0 ≤ c ∧ c < n) :
    Calls Try.prog 65 #[.slice a l.length cap, .func (.func 66) #[] #[.pointer (some ⟨b, 0, none⟩)]] w
      fun e w' => e = .returned (.bool false) ∧ w = w' := by
  have hi := indexSea_none l a cap B b x y z ga n gcap w hb hn hs hl
  clear hs hl hb
  go_enter Try.func65, Try.ntmps65
  go_wp2_with (fail)
  refine hi.mono ?_
  rintro e w1 ⟨rfl, rfl⟩
  go_wp2_with (fail)
  go_ret
  exact ⟨rfl, rfl⟩

/-- A grid that is well, and where it lies. -/
structure GridM (B : Nat) (w : World) (wd ht sz : Int) (l : List (Int × Int)) (a : Option Addr) : Prop where
  cells : Sl SpanE 2 B w a l
  ok : ∀ p ∈ l, gok p
  w1 : 1 ≤ wd
  w4 : wd ≤ 4
  h1 : 1 ≤ ht
  h4 : ht ≤ 4
  s1 : 1 ≤ sz
  s2 : sz ≤ 10000
  len : (l.length : Int) = wd * ht
theorem GridM.below {B : Nat} {w w' : World} {wd ht sz : Int} {l : List (Int × Int)} {a : Option Addr} (h : GridM B w wd ht sz l a) (hB : Below B w w') : GridM B w' wd ht sz l a :=
  ⟨h.cells.below (ek_span B) hB, h.ok, h.w1, h.w4, h.h1, h.h4, h.s1, h.s2, h.len⟩
theorem GridM.few {B : Nat} {w : World} {wd ht sz : Int} {l : List (Int × Int)} {a : Option Addr} (h : GridM B w wd ht sz l a) : l.length ≤ 16 := by
  have := Int.mul_le_mul h.w4 h.h4 (by have := h.h1; omega) (by omega)
  have := h.len
  omega

set_option maxHeartbeats 2000000 in
set_option maxRecDepth 100000 in
theorem checkSea_ok (wd ht sz : Int) (l : List (Int × Int)) (a sa : Option Addr) (c scap B : Nat) (sea : List Int) (w : World) (hG : GridM B w wd ht sz l a) (hB : B ≤ w.heap.size) (hs : Sl IntE 1 B w sa sea) (hl : ∀ c ∈ sea, 0 ≤ c ∧ c < (l.length : Int)) (hne : 1 ≤ sea.length) :
    Calls Try.prog 45 #[.agg #[.int .i64 wd, .int .i64 ht, .int .i64 sz, .slice a l.length c], .slice sa sea.length scap] w fun e w' => e = .returned (.int .i64 0) ∧ Below w.heap.size w w' := by
  have hfew := hG.few
  have hck := fun W (hW : Below w.heap.size w W) => gcheck_ok wd ht sz l a c B W ((hG.below (hW.mono hB)).cells) (by have := hW.size; omega) hG.ok hG.w1 hG.w4 hG.h1 hG.h4 hG.s1 hG.s2 hG.len
  have hse := fun (W : World) (hW : Below w.heap.size w W) (b : Nat) (hb : W.heap[b]? = some (.cells #[.int .i64 wd, .int .i64 ht, .int .i64 sz, .slice a l.length c] 36 (0, 0))) => containsSea_none sea sa scap B b _ _ _ a l.length c W hb (by omega) (hs.below (ek_int B) (hW.mono hB)) hl
  have hd : decide (sea.length = 0) = false := decide_eq_false (by omega)
  have hd2 : ((sea.length : Int) == 0) = false := beq_eq_false_iff_ne.2 (by omega)
  have hsl := hs.1
  have HC := Lib.hid hck
  have HS := Lib.hid hse
  clear hG hs hck hse hl
  go_enter Try.func45, Try.ntmps45
  go_wp2_with fail
  refine (HC.out _ (by repeat (first | exact Below.refl _ _ | (refine bl_setCell ?_ _ _ ?_; rotate_left; focus (first | omega | (simp; done) | (simp; omega))) | refine bl_alloc ?_ _ | refine bl_step ?_ (by assumption) | refine bl_drew ?_ | refine bl_drewN ?_ _))).mono ?_
  rintro e w1 ⟨rfl, hb1⟩
  have y0 : w1.heap[w.heap.size]? = some (.cells #[.int .i64 wd, .int .i64 ht, .int .i64 sz, .slice a l.length c] 36 (0, 0)) := heap_below hb1 (by repeat (first | (refine heap_alloc_at' _ _ ?_; focus (simp; done)) | refine heap_alloc_off ?_ _))
  have hbw : Below w.heap.size w w1 := (by repeat (first | exact Below.refl _ _ | (refine bl_setCell ?_ _ _ ?_; rotate_left; focus (first | omega | (simp; done) | (simp; omega))) | refine bl_alloc ?_ _ | refine bl_step ?_ (by assumption) | refine bl_drew ?_ | refine bl_drewN ?_ _))
  have Hy0 := Lib.hid y0; clear y0; have Hhbw := Lib.hid hbw; clear hbw
  go_wp2_with fail
  refine (HS.out w1 Hhbw.out w.heap.size Hy0.out).mono ?_
  rintro e w2 ⟨rfl, rfl⟩
  go_wp2_with fail
  go_ret
  exact ⟨rfl, Hhbw.out⟩
end Go.Proofs.Ytfbmjecikilghaa
