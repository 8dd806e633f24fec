/- Levels of tides, in plain numbers. -/
import Derived.Test.YtfbmjecikilghaaCos
namespace Go.Proofs.Ytfbmjecikilghaa

/-- The bounds of a cosine, by the angle folded to at most half a turn. -/
def fold (a : Int) : Nat := (min (a % 3600) (3600 - a % 3600)).toNat
def halfLo (k : Nat) : Int := if k ≤ 900 then qlo k else -(qhi (1800 - k) : Int)
def halfHi (k : Nat) : Int := if k ≤ 900 then qhi k else -(qlo (1800 - k) : Int)
def clo (a : Int) : Int := halfLo (fold a)
def chi (a : Int) : Int := halfHi (fold a)

/-- Whether a span of angles has one that differs from a by turns. -/
def meets (lo hi a : Int) : Bool := decide ((lo - a - 1) / 3600 < (hi - a) / 3600)
def cosLo (lo hi : Int) : Int := if meets lo hi 1800 then -65536 else min (clo lo) (clo hi)
def cosHi (lo hi : Int) : Int := if meets lo hi 0 then 65536 else max (chi lo) (chi hi)

structure Part where
  amp : Int
  period : Int
  phase : Int

def up (a b : Int) : Int := -(-a / b)
def Part.alo (p : Part) (lo : Int) : Int := 3600 * lo / p.period - p.phase
def Part.ahi (p : Part) (hi : Int) : Int := up (3600 * hi) p.period - p.phase

def sumLo (l : List Part) (lo hi : Int) : Int := (l.map fun p => p.amp * cosLo (p.alo lo) (p.ahi hi)).sum
def sumHi (l : List Part) (lo hi : Int) : Int := (l.map fun p => p.amp * cosHi (p.alo lo) (p.ahi hi)).sum
def levLo (mean : Int) (l : List Part) (lo hi : Int) : Int := mean + sumLo l lo hi / 65536
def levHi (mean : Int) (l : List Part) (lo hi : Int) : Int := mean + up (sumHi l lo hi) 65536

theorem fold_le (a : Int) : fold a ≤ 1800 := by unfold fold; omega

theorem q_le (k : Nat) (h : k ≤ 900) : qlo k ≤ qhi k ∧ qhi k ≤ 65536 := by
  have := allTo_spec _ _ qle_all k h
  simpa using this
theorem q_mono {j k : Nat} (h : j ≤ k) (hk : k ≤ 900) : qhi k ≤ qhi j ∧ qlo k ≤ qlo j := by
  induction k with
  | zero => obtain rfl : j = 0 := by omega
            exact ⟨Nat.le_refl _, Nat.le_refl _⟩
  | succ k ih =>
    by_cases hj : j = k + 1
    · subst hj; exact ⟨Nat.le_refl _, Nat.le_refl _⟩
    · have h1 := ih (by omega) (by omega)
      have h2 := allTo_spec _ _ qmono_all k (by omega)
      simp only [Bool.and_eq_true, decide_eq_true_eq] at h2
      exact ⟨Nat.le_trans h2.1 h1.1, Nat.le_trans h2.2 h1.2⟩
theorem q900 : qlo 900 = 0 ∧ qhi 900 = 0 := by decide +kernel

theorem h_le (k : Nat) (h : k ≤ 1800) : halfLo k ≤ halfHi k ∧ halfHi k ≤ 65536 ∧ -65536 ≤ halfLo k := by
  unfold halfLo halfHi
  split
  · have := q_le k (by omega); omega
  · have := q_le (1800 - k) (by omega); omega
theorem h_mono {j k : Nat} (h : j ≤ k) (hk : k ≤ 1800) : halfHi k ≤ halfHi j := by
  unfold halfHi
  split <;> split
  · have := q_mono h (by omega); omega
  · omega
  · have h1 := q_le j (by omega); have h2 := q_le (1800 - k) (by omega); omega
  · have := q_mono (show 1800 - k ≤ 1800 - j by omega) (by omega); omega
theorem c_le (a : Int) : clo a ≤ chi a ∧ chi a ≤ 65536 ∧ -65536 ≤ clo a := h_le _ (fold_le a)
theorem cosLo_le (lo hi : Int) : cosLo lo hi ≤ clo lo ∧ -65536 ≤ cosLo lo hi ∧ cosLo lo hi ≤ 65536 := by
  have h1 := c_le lo
  have h2 := c_le hi
  unfold cosLo
  split <;> omega
theorem cosHi_bd (lo hi : Int) : -65536 ≤ cosHi lo hi ∧ cosHi lo hi ≤ 65536 := by
  have h1 := c_le lo
  have h2 := c_le hi
  unfold cosHi
  split <;> omega

/-- An angle within a span has no cosine that is above the span's upper bound. -/
theorem chi_within {lo hi a : Int} (h1 : lo ≤ a) (h2 : a ≤ hi) : clo a ≤ cosHi lo hi := by
  have h3 := c_le a
  unfold cosHi
  split
  · omega
  · rename_i hm
    have hm' : ¬ ((lo - 0 - 1) / 3600 < (hi - 0) / 3600) := by simpa [meets] using hm
    have : chi a ≤ chi lo ∨ chi a ≤ chi hi := by
      unfold chi
      by_cases hr : a % 3600 ≤ 1800
      · left
        exact h_mono (by unfold fold; omega) (fold_le a)
      · right
        exact h_mono (by unfold fold; omega) (fold_le a)
    omega

theorem up_mono {a b c : Int} (hc : 0 < c) (h : a ≤ b) : up a c ≤ up b c := by
  unfold up
  have := Int.ediv_le_ediv hc (show -b ≤ -a by omega)
  omega
theorem div_le_up {a c : Int} (hc : 0 < c) : a / c ≤ up a c := by
  unfold up
  have h1 := Int.mul_ediv_add_emod a c
  have h2 := Int.emod_nonneg a (show c ≠ 0 by omega)
  have h3 := Int.mul_ediv_add_emod (-a) c
  have h4 := Int.emod_nonneg (-a) (show c ≠ 0 by omega)
  have h5 : c * (a / c + -a / c) ≤ 0 := by rw [Int.mul_add]; omega
  refine Decidable.byContradiction fun hn => ?_
  have h6 : 1 ≤ a / c + -a / c := by omega
  have := Int.mul_le_mul_of_nonneg_left h6 (show 0 ≤ c by omega)
  omega

/-- At a time within a span the lower bound of the level is not above the span's upper one. -/
theorem lev_within (mean : Int) (l : List Part) {lo hi y : Int} (h0 : lo ≤ y) (h1 : y ≤ hi) (hl : ∀ p ∈ l, 0 ≤ p.amp ∧ 0 < p.period) : levLo mean l y y ≤ levHi mean l lo hi := by
  have hs : sumLo l y y ≤ sumHi l lo hi := by
    unfold sumLo sumHi
    induction l with
    | nil => exact Int.le_refl _
    | cons p l ih =>
      simp only [List.map_cons, List.sum_cons]
      have h2 := ih (fun q hq => hl q (by simp [hq]))
      obtain ⟨h3, h4⟩ := hl p (by simp)
      have h5 : p.alo lo ≤ p.alo y := by
        unfold Part.alo
        have := Int.ediv_le_ediv h4 (show 3600 * lo ≤ 3600 * y by omega)
        omega
      have h6 : p.alo y ≤ p.ahi hi := by
        unfold Part.alo Part.ahi
        have := div_le_up (a := 3600 * y) h4
        have := up_mono h4 (show 3600 * y ≤ 3600 * hi by omega)
        omega
      have h7 := (cosLo_le (p.alo y) (p.ahi y)).1
      have h8 := chi_within h5 h6
      have h9 := Int.mul_le_mul_of_nonneg_left (Int.le_trans h7 h8) h3
      omega
  unfold levLo levHi
  have := Int.ediv_le_ediv (show (0 : Int) < 65536 by omega) hs
  have := div_le_up (a := sumHi l lo hi) (show (0 : Int) < 65536 by omega)
  omega
end Go.Proofs.Ytfbmjecikilghaa
