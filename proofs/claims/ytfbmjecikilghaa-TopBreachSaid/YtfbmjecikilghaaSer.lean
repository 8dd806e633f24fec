/- tide: products and angles as binary fractions, the series. -/
import Derived.Test.YtfbmjecikilghaaBits
import Derived.Test.YtfbmjecikilghaaCos
namespace Go.Proofs.Ytfbmjecikilghaa
open Go.RowKit

theorem tm_hi (n : Nat) (h : n / 4611686018427387904 < 18446744073709551616) : ((n / 18446744073709551616 : Nat) : Int) * 4 % 18446744073709551616 = ((n / 18446744073709551616 * 4 : Nat) : Int) := by omega
theorem tm_lo (n : Nat) : ((n % 18446744073709551616 : Nat) : Int) / 4611686018427387904 = ((n % 18446744073709551616 / 4611686018427387904 : Nat) : Int) := by omega
theorem tm_lt (n : Nat) : n % 18446744073709551616 / 4611686018427387904 < 4 := by omega
theorem tm_hl (n : Nat) (h : n / 4611686018427387904 < 18446744073709551616) : n / 18446744073709551616 * 4 < 18446744073709551616 := by omega
theorem tm_eq (n : Nat) : n / 18446744073709551616 * 4 + n % 18446744073709551616 / 4611686018427387904 = n / 4611686018427387904 := by omega
theorem tm_or (a b : Nat) (hb : b < 4) (ha : a * 4 < 18446744073709551616) : bits .or .u64 ((a * 4 : Nat) : Int) (b : Int) = ((a * 4 + b : Nat) : Int) := by
  rw [bits_or_u64_nat _ _ ha (by omega)]
  congr 1
  have := Nat.two_pow_add_eq_or_of_lt (i := 2) (b := b) (by omega) a
  rw [Nat.mul_comm]
  exact this.symm

set_option maxHeartbeats 2000000 in
set_option maxRecDepth 100000 in
theorem times_any (a b : Nat) (ha : a < 18446744073709551616) (hb : b < 18446744073709551616) (h : a * b / 4611686018427387904 < 18446744073709551616) (w : World) :
    Calls Try.prog 103 #[.int .u64 a, .int .u64 b] w fun e w' => e = .returned (.int .u64 ((a * b / 4611686018427387904 : Nat) : Int)) ∧ w = w' := by
  obtain ⟨n, hn⟩ : ∃ n, a * b = n := ⟨_, rfl⟩
  have hm := mul64_any a b ha hb
  rw [hn] at hm h ⊢
  have hor := tm_or (n / 18446744073709551616) (n % 18446744073709551616 / 4611686018427387904) (tm_lt n) (tm_hl n h)
  rw [tm_eq] at hor
  have e1 := tm_hi n h
  have e2 := tm_lo n
  rw [← IntKind.wrap_u64] at e1
  obtain ⟨hi, hhi⟩ : ∃ x : Nat, n / 18446744073709551616 = x := ⟨_, rfl⟩
  obtain ⟨lo, hlo⟩ : ∃ x : Nat, n % 18446744073709551616 = x := ⟨_, rfl⟩
  rw [hhi, hlo] at hm
  rw [hhi] at e1
  rw [hlo] at e2
  rw [hhi, hlo] at hor
  obtain ⟨h4, hh4⟩ : ∃ x : Nat, hi * 4 = x := ⟨_, rfl⟩
  obtain ⟨l4, hl4⟩ : ∃ x : Nat, lo / 4611686018427387904 = x := ⟨_, rfl⟩
  obtain ⟨q, hq⟩ : ∃ x : Nat, n / 4611686018427387904 = x := ⟨_, rfl⟩
  rw [hh4] at e1 hor
  rw [hl4] at e2 hor
  rw [hq] at hor ⊢
  have hl := Lib.hid hn
  clear hn
  have Hhhi := Lib.hid hhi; clear hhi; have Hhlo := Lib.hid hlo; clear hlo; have Hhh4 := Lib.hid hh4; clear hh4; have Hhl4 := Lib.hid hl4; clear hl4; have Hhq := Lib.hid hq; clear hq
  go_enter Try.func103, Try.ntmps103
  go_wp2_with (go_at_call 98; refine (hm _).mono ?_; rintro e w' ⟨rfl, rfl⟩)
  go_ret
  exact ⟨rfl, rfl⟩

set_option maxHeartbeats 2000000 in
set_option maxRecDepth 100000 in
theorem radians_any (a : Nat) (ha : a ≤ 450) (w : World) :
    Calls Try.prog 96 #[.int .i64 a] w fun e w' => e = .returned (.int .u64 (rad a : Nat)) ∧ Below w.heap.size w w' := by
  have hm := mul64_any 14488038916154245684 a (by decide) (by omega)
  obtain ⟨hi, hhi⟩ : ∃ x : Nat, 14488038916154245684 * a / 18446744073709551616 = x := ⟨_, rfl⟩
  obtain ⟨lo, hlo⟩ : ∃ x : Nat, 14488038916154245684 * a % 18446744073709551616 = x := ⟨_, rfl⟩
  have h1 : hi < 1800 := by omega
  have h2 : lo < 18446744073709551616 := by omega
  have hd := div64_any hi lo h1 h2
  have he : (hi * 18446744073709551616 + lo) / 1800 = rad a := by
    unfold rad
    have : hi * 18446744073709551616 + lo = 14488038916154245684 * a := by omega
    rw [this]
  rw [hhi, hlo] at hm
  rw [he] at hd
  have ha' : (a : Int) ≤ 450 := by omega
  have Hhhi := Lib.hid hhi; clear hhi; have Hhlo := Lib.hid hlo; clear hlo; have Hhe := Lib.hid he; clear he
  go_enter Try.func96, Try.ntmps96
  go_wp2_with (first
    | (go_at_call 98; refine (hm _).mono ?_; rintro e w' ⟨rfl, rfl⟩)
    | (go_at_call 105; refine (hd _).mono ?_; rintro e w' ⟨⟨r, rfl⟩, hb⟩))
  go_ret
  exact ⟨rfl, (by repeat (first | exact Below.refl _ _ | (refine bl_setCell ?_ _ _ ?_; rotate_left; focus (first | omega | (simp; done) | (simp; omega))) | refine bl_alloc ?_ _ | refine bl_step ?_ (by assumption) | refine bl_drew ?_ | refine bl_drewN ?_ _))⟩
end Go.Proofs.Ytfbmjecikilghaa
