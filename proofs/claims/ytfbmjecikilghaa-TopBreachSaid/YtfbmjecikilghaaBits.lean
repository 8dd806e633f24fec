/- The library's products and quotients of two words, at what the tide asks of them. -/
import Derived.Test.YtfbmjecikilghaaA
import Derived.Shelf.Bits.Mul64
import Derived.Lib.Walk
import Derived.Lib.BitFns
import Derived.Lib.Strings
import Derived.Lib.Slices
import Derived.Lib.Small
namespace Go.Proofs.Ytfbmjecikilghaa
open Go.RowKit

set_option maxHeartbeats 2000000 in
set_option maxRecDepth 100000 in
theorem mul64_any (x y : Nat) (hx : x < 18446744073709551616) (hy : y < 18446744073709551616) (w : World) :
    Calls Try.prog 98 #[.int .u64 x, .int .u64 y] w fun e w' => e = .returned (.tuple #[.int .u64 ((x * y / 18446744073709551616 : Nat) : Int), .int .u64 ((x * y % 18446744073709551616 : Nat) : Int)]) ∧ w = w' := by
  obtain ⟨bd, bt, bw, hhi⟩ := Lib.mul64_hi x y hx hy
  have ba := Lib.half_mul_le (a := x / 4294967296) (b := y / 4294967296) (by omega) (by omega)
  have bb := Lib.half_mul_le (a := x / 4294967296) (b := y % 4294967296) (by omega) (by omega)
  have bc := Lib.half_mul_le (a := x % 4294967296) (b := y / 4294967296) (by omega) (by omega)
  have ba' : x / 4294967296 * (y / 4294967296) < 18446744073709551616 := by omega
  have bb' : x / 4294967296 * (y % 4294967296) < 18446744073709551616 := by omega
  have bc' : x % 4294967296 * (y / 4294967296) < 18446744073709551616 := by omega
  have bh1 : x / 4294967296 * (y / 4294967296) + (x / 4294967296 * (y % 4294967296) + x % 4294967296 * (y % 4294967296) / 4294967296) / 4294967296 < 18446744073709551616 := by omega
  have bh : x / 4294967296 * (y / 4294967296) + (x / 4294967296 * (y % 4294967296) + x % 4294967296 * (y % 4294967296) / 4294967296) / 4294967296 + ((x / 4294967296 * (y % 4294967296) + x % 4294967296 * (y % 4294967296) / 4294967296) % 4294967296 + x % 4294967296 * (y / 4294967296)) / 4294967296 < 18446744073709551616 := by omega
  go_enter Try.func98, Try.ntmps98
  go_wp2
  simp only [Mul64.maskN x hx, Mul64.maskN y hy, Mul64.divN, Mul64.mulN, Mul64.addN, Mul64.wrapN _ bd, Mul64.wrapN _ bb', Mul64.wrapN _ bt, Mul64.maskN _ bt, Mul64.wrapN _ bc', Mul64.wrapN _ bw, Mul64.wrapN _ ba', Mul64.wrapN _ bh1, Mul64.wrapN _ bh, Mul64.wrapM (x * y)]
  rw [hhi]
  go_ret2
  exact ⟨rfl, rfl⟩

set_option maxHeartbeats 2000000 in
set_option maxRecDepth 100000 in
theorem len64_any (w : World) :
    Calls Try.prog 112 #[.int .u64 1800] w fun e w' => e = .returned (.int .i64 11) ∧ w = w' := by
  go_enter Try.func112, Try.ntmps112
  go_wp2
  all_goals go_ret
  exact ⟨ret_int (by decide +kernel), rfl⟩

set_option maxHeartbeats 2000000 in
set_option maxRecDepth 100000 in
theorem lead64_any (w : World) :
    Calls Try.prog 109 #[.int .u64 1800] w fun e w' => e = .returned (.int .i64 53) ∧ w = w' := by
  go_enter Try.func109, Try.ntmps109
  go_wp2_with (go_at_call 112; refine (len64_any _).mono ?_; rintro e w' ⟨rfl, rfl⟩)
  go_ret
  exact ⟨rfl, rfl⟩

theorem orN (a b : Nat) (ha : a < 2048) (hb : b < 9007199254740992) : bits .or .u64 ((a * 9007199254740992 : Nat) : Int) (b : Int) = ((a * 9007199254740992 + b : Nat) : Int) := by
  rw [bits_or_u64_nat _ _ (by omega) (by omega)]
  congr 1
  have := Nat.two_pow_add_eq_or_of_lt (i := 53) (b := b) (by omega) a
  rw [Nat.mul_comm]
  exact this.symm

theorem dv7 (u : Nat) : ((u : Int) - ((u / 3774873600 : Nat) : Int) * 3774873600 % 18446744073709551616) % 18446744073709551616 = ((u % 3774873600 : Nat) : Int) := by omega
theorem dv7' (u : Nat) : ((u : Int) - ((u / 3774873600 : Nat) : Int) * 3774873600) % 18446744073709551616 = ((u % 3774873600 : Nat) : Int) := by omega
theorem ret_tup2 {k : IntKind} {a b c : Int} (h : a = b) : Ending.returned (.tuple #[.int k a, .int k c]) = .returned (.tuple #[.int k b, .int k c]) := by rw [h]
theorem dvcast (hi lo q1 q0 : Nat) (h : (hi * 18446744073709551616 + lo) / 1800 = q1 * 4294967296 + q0) : (q1 : Int) * 4294967296 + q0 = ((hi : Int) * 18446744073709551616 + lo) / 1800 := by omega
theorem dvu (hi lo : Nat) (h : hi < 1800) (hl : lo < 18446744073709551616) : hi * 9007199254740992 + lo / 2048 < 16212958658533785600 := by omega
theorem dvq (u : Nat) (h : u < 16212958658533785600) : u / 3774873600 < 4294967296 := by omega
theorem dvr (u t : Nat) (ht : t < 4294967296) : u % 3774873600 * 4294967296 + t < 16212958658533785600 := by omega
theorem dvr0 (u : Nat) : u % 3774873600 < 3774873600 := by omega
theorem dvt (lo : Nat) : lo % 2048 * 2097152 < 4294967296 := by omega
theorem dvt1 (lo : Nat) : ((lo : Int) * 9007199254740992) % 18446744073709551616 = ((lo % 2048 * 2097152 : Nat) : Int) * 4294967296 := by omega
theorem dvR0 (u t : Nat) : (u * 4294967296 + t) / 3774873600 = u / 3774873600 * 4294967296 + (u % 3774873600 * 4294967296 + t) / 3774873600 := by omega
theorem dvR1 (hi lo : Nat) : ((hi * 9007199254740992 + lo / 2048) * 4294967296 + lo % 2048 * 2097152) = (hi * 18446744073709551616 + lo) * 2097152 := by omega
theorem dvR2 (n : Nat) : n * 2097152 / 3774873600 = n / 1800 := by omega
theorem dvR (hi lo : Nat) : (hi * 18446744073709551616 + lo) / 1800 = (hi * 9007199254740992 + lo / 2048) / 3774873600 * 4294967296 + ((hi * 9007199254740992 + lo / 2048) % 3774873600 * 4294967296 + lo % 2048 * 2097152) / 3774873600 := by
  rw [← dvR2, ← dvR1, dvR0]
theorem dv8 (u t : Nat) (ht : t < 4294967296) : (((u : Int) * 4294967296 % 18446744073709551616 + t) % 18446744073709551616 - ((u / 3774873600 : Nat) : Int) * 16212958658533785600 % 18446744073709551616) % 18446744073709551616 = ((u % 3774873600 * 4294967296 + t : Nat) : Int) := by omega
theorem dv9 (n : Nat) (h : n < 18446744073709551616) : (n : Int) % 18446744073709551616 = n := by omega
theorem dv10 (r : Nat) (h : r < 3774873600) : (4294967296 * (r : Int)) % 18446744073709551616 = 4294967296 * (r : Int) := by omega
theorem dv11 (r t : Nat) (h : r < 3774873600) (ht : t < 4294967296) : (4294967296 * (r : Int) + t) % 18446744073709551616 = 4294967296 * (r : Int) + t := by omega
theorem dv12 (r t : Nat) : decide (4294967296 * (r : Int) + (t : Int) < 0) = false := by simp; omega
theorem dv13 (q : Nat) (h : q < 4294967296) : decide (4294967296 ≤ (q : Int)) = false := by simp; omega
theorem dv14 (q : Nat) (h : q < 4294967296) : ((q : Int) * 4294967296) % 18446744073709551616 = (q : Int) * 4294967296 := by omega
theorem dv15 (q p : Nat) (h : q < 4294967296) (hp : p < 4294967296) : ((q : Int) * 4294967296 + (p : Int)) % 18446744073709551616 = (q : Int) * 4294967296 + (p : Int) := by omega
theorem dvand (t : Nat) (ht : t < 4294967296) : bits .and .u64 ((t : Int) * 4294967296) 4294967295 = 0 := by
  have := Mul64.maskN (t * 4294967296) (by omega)
  rw [Int.natCast_mul] at this
  refine this.trans ?_
  omega
theorem dvzero : bits .and .u64 16212958658533785600 4294967295 = 0 := by decide +kernel
theorem dvfour (t : Nat) : (t : Int) * 4294967296 / 4294967296 = (t : Int) := by omega
theorem dvdiv (u : Nat) : (u : Int).tdiv 3774873600 = ((u / 3774873600 : Nat) : Int) := by rw [Int.tdiv_eq_ediv_of_nonneg (by omega)]; rfl

set_option maxHeartbeats 2000000 in
set_option maxRecDepth 100000 in
theorem div64_any (hi lo : Nat) (h0 : hi < 1800) (hl : lo < 18446744073709551616) (w : World) :
    Calls Try.prog 105 #[.int .u64 hi, .int .u64 lo, .int .u64 1800] w fun e w' => (∃ r : Int, e = .returned (.tuple #[.int .u64 (((hi * 18446744073709551616 + lo) / 1800 : Nat) : Int), .int .u64 r])) ∧ Below w.heap.size w w' := by
  by_cases hz : hi = 0
  · subst hz
    go_enter Try.func105, Try.ntmps105
    go_wp2_with fail
    go_quiet (fail)
    go_wp2_with fail
    go_ret2
    exact ⟨⟨_, ret_tup2 (by simp)⟩, (by repeat (first | exact Below.refl _ _ | (refine bl_setCell ?_ _ _ ?_; rotate_left; focus (first | omega | (simp; done) | (simp; omega))) | refine bl_alloc ?_ _ | refine bl_step ?_ (by assumption) | refine bl_drew ?_ | refine bl_drewN ?_ _))⟩
  · have h1 : ((hi : Int) == 0) = false := by simpa using hz
    obtain ⟨u, hu⟩ : ∃ u : Nat, hi * 9007199254740992 + lo / 2048 = u := ⟨_, rfl⟩
    obtain ⟨t, ht⟩ : ∃ t : Nat, lo % 2048 * 2097152 = t := ⟨_, rfl⟩
    have hul := dvu hi lo h0 hl
    have htl := dvt lo
    have HR := Lib.hid (dvR hi lo)
    have e1 : bits .or .u64 ((hi : Int) * 9007199254740992) ((lo : Int) / 2048) = (u : Int) := by
      have := orN hi (lo / 2048) (by omega) (by omega)
      rw [hu] at this
      rw [← this]
      congr 1
    have e2 : IntKind.u64.wrap ((lo : Int) * 9007199254740992) = (t : Int) * 4294967296 := by rw [IntKind.wrap_u64, ← ht]; exact dvt1 lo
    rw [hu] at hul HR
    rw [ht] at htl HR
    obtain ⟨q1, hq1⟩ : ∃ q1 : Nat, u / 3774873600 = q1 := ⟨_, rfl⟩
    obtain ⟨r1, hr1⟩ : ∃ r1 : Nat, u % 3774873600 = r1 := ⟨_, rfl⟩
    obtain ⟨v, hv⟩ : ∃ v : Nat, u % 3774873600 * 4294967296 + t = v := ⟨_, rfl⟩
    obtain ⟨q0, hq0⟩ : ∃ q0 : Nat, v / 3774873600 = q0 := ⟨_, rfl⟩
    obtain ⟨r0, hr0⟩ : ∃ r0 : Nat, v % 3774873600 = r0 := ⟨_, rfl⟩
    have hvl := dvr u t htl
    have hq1l := dvq u hul
    have hr1l := dvr0 u
    rw [hv] at hvl HR
    have hq0l := dvq v hvl
    have hr0l := dvr0 v
    have e7 := dv7' u
    have e8 := dv8 u t htl
    have f7 := dv7' v
    have e5 := dvdiv u
    have f5 := dvdiv v
    rw [hv] at e8
    rw [hq1] at hq1l HR e7 e8 e5
    rw [hr1] at hr1l e7
    rw [hq0] at hq0l HR f7 f5
    rw [hr0] at hr0l f7
    have e3 := dvand t htl
    have e4 := dvfour t
    have e0 := dvzero
    simp only [← IntKind.wrap_u64] at e7 e8 f7
    have e6 := dv9 q1 (Nat.lt_trans hq1l (by decide))
    have f6 := dv9 q0 (Nat.lt_trans hq0l (by decide))
    have e9 := dv10 r1 hr1l
    have f9 := dv10 r0 hr0l
    have e10 := dv11 r1 t hr1l htl
    have e15 := dv14 q1 hq1l
    have f15 := dv15 q1 q0 hq1l hq0l
    simp only [← IntKind.wrap_u64] at e6 f6 e9 f9 e10 e15 f15
    have g1 := dv13 q1 hq1l
    have g2 := dv12 r1 t
    have g3 := dv13 q0 hq0l
    have g4 := dv12 r0 0
    have e5' : (u : Int) / 3774873600 = (q1 : Int) := by rw [← e5, Int.tdiv_eq_ediv_of_nonneg (Int.natCast_nonneg _)]
    have f5' : (v : Int) / 3774873600 = (q0 : Int) := by rw [← f5, Int.tdiv_eq_ediv_of_nonneg (Int.natCast_nonneg _)]
    have Hhu := Lib.hid hu; clear hu; have Hht := Lib.hid ht; clear ht; have Hhq1 := Lib.hid hq1; clear hq1; have Hhr1 := Lib.hid hr1; clear hr1; have Hhv := Lib.hid hv; clear hv; have Hhq0 := Lib.hid hq0; clear hq0; have Hhr0 := Lib.hid hr0; clear hr0
    go_enter Try.func105, Try.ntmps105
    go_wp2_with (go_at_call 109; refine (lead64_any _).mono ?_; rintro e w' ⟨rfl, rfl⟩)
    go_loop [15, 16] (fun a b => a = .int .u64 q1 ∧ b = .int .u64 r1) (fun _ _ => 0)
    case atStart => exact ⟨rfl, rfl⟩
    case round =>
      obtain ⟨rfl, rfl⟩ := hrel
      go_wp2_with fail
      go_loop [18, 16] (fun a b => a = .int .u64 q0 ∧ b = .int .u64 r0) (fun _ _ => 0)
      case atStart => exact ⟨rfl, rfl⟩
      case round =>
        obtain ⟨rfl, rfl⟩ := hrel
        go_wp2_with fail
        go_ret2
        exact ⟨⟨_, ret_tup2 (dvcast hi lo q1 q0 HR.out)⟩, (by repeat (first | exact Below.refl _ _ | (refine bl_setCell ?_ _ _ ?_; rotate_left; focus (first | omega | (simp; done) | (simp; omega))) | refine bl_alloc ?_ _ | refine bl_step ?_ (by assumption) | refine bl_drew ?_ | refine bl_drewN ?_ _))⟩
end Go.Proofs.Ytfbmjecikilghaa
