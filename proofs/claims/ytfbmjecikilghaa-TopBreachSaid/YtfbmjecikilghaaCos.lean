/- Cosines of whole angles in tenths of a degree, as bounds with 16 binary digits: what the tide's package computes, in plain numbers. -/
import Derived.WalkKit
namespace Go.Proofs.Ytfbmjecikilghaa

/-- The sum of a series whose next term comes from the one before by sq and two further factors; none: too many terms, or one that is too great. -/
def ser (sq : Nat) : Nat → Nat → Nat → Nat → Nat → Nat → Option (Nat × Nat)
  | 0, _, _, _, _, _ => none
  | f + 1, t, n, k, a, b =>
    if t = 0 then some (a, b) else
    if t ≤ 4611686018427387904 ∧ n ≤ 1000 ∧ a ≤ 9223372036854775808 ∧ b ≤ 9223372036854775808 ∧ k ≤ 1000 then
      ser sq f (t * sq / 4611686018427387904 / ((n + 1) * (n + 2))) (n + 2) (k + 1) (if k % 2 = 0 then a + t else a) (if k % 2 = 0 then b else b + t)
    else none

def rad (a : Nat) : Nat := 14488038916154245684 * a / 1800
def sqr (x : Nat) : Nat := x * x / 4611686018427387904

/-- The sums of the terms with signs in turns, of a cosine (angle ≤ 450) or of a sine. -/
def qser (a : Nat) : Option (Nat × Nat) :=
  if a ≤ 450 then ser (sqr (rad a)) 40 4611686018427387904 0 0 0 0 else ser (sqr (rad (900 - a))) 40 (rad (900 - a)) 1 0 0 0

def qval (a : Nat) : Nat := match qser a with | some (x, y) => x - y | none => 0

/-- The bounds of the cosine of an angle of at most a quarter of a turn. -/
def qlo (a : Nat) : Nat := if a = 0 then 65536 else if a = 600 then 32768 else if a = 900 then 0 else (qval a - 1024) / 70368744177664
def qhi (a : Nat) : Nat := if a = 0 then 65536 else if a = 600 then 32768 else if a = 900 then 0 else (qval a + 1024) / 70368744177664 + 1

def qok (a : Nat) : Bool :=
  decide (a = 0) || decide (a = 600) || decide (a = 900) || (match qser a with
    | some (x, y) => decide (x ≤ 4611686018427387904 * 2) && decide (y + 1024 ≤ x) && decide (x - y + 1024 ≤ 4611686018427387904)
    | none => false)

/-- All of a table's rows up to n. -/
def allTo (p : Nat → Bool) : Nat → Bool
  | 0 => p 0
  | n + 1 => p (n + 1) && allTo p n
theorem allTo_spec (p : Nat → Bool) (n : Nat) (h : allTo p n = true) : ∀ k, k ≤ n → p k = true := by
  induction n with
  | zero => intro k hk; obtain rfl : k = 0 := by omega
            exact h
  | succ n ih =>
    intro k hk
    simp only [allTo, Bool.and_eq_true] at h
    by_cases hc : k = n + 1
    · subst hc; exact h.1
    · exact ih h.2 k (by omega)

theorem qok_all : allTo qok 900 = true := by decide +kernel
theorem qmono_all : allTo (fun a => decide (qhi (a + 1) ≤ qhi a) && decide (qlo (a + 1) ≤ qlo a)) 899 = true := by decide +kernel
theorem qle_all : allTo (fun a => decide (qlo a ≤ qhi a) && decide (qhi a ≤ 65536)) 900 = true := by decide +kernel
end Go.Proofs.Ytfbmjecikilghaa
