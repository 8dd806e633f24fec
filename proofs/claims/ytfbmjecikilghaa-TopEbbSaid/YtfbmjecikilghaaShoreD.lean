/- A shore that is drawn: its ground, known and true, in plain lists. -/
import Derived.WalkKit
namespace Go.Proofs.Ytfbmjecikilghaa

structure ShoreL where
  wide : Int
  high : Int
  low : List Int
  more : List Int
  where_ : List Int

structure ShoreL.ok (s : ShoreL) : Prop where
  wide : 0 ≤ s.wide ∧ s.wide ≤ 255
  high : 0 ≤ s.high ∧ s.high ≤ 255
  low : ∀ x ∈ s.low, -32768 ≤ x ∧ x ≤ 32767
  more : ∀ x ∈ s.more, 0 ≤ x ∧ x ≤ 255
  where_ : ∀ x ∈ s.where_, 0 ≤ x ∧ x ≤ 255

def ShoreL.wd (s : ShoreL) : Nat := (1 + s.wide % 4).toNat
def ShoreL.ht (s : ShoreL) : Nat := (1 + s.high % 4).toNat
def ShoreL.lo (s : ShoreL) (i : Nat) : Int := if s.low = [] then 0 else (s.low.getD (i % s.low.length) 0).tmod 5000
def ShoreL.add (s : ShoreL) (i : Nat) : Int := if s.more = [] then 0 else s.more.getD (i % s.more.length) 0
def ShoreL.span (s : ShoreL) (i : Nat) : Int × Int := (s.lo i, s.lo i + s.add i)
def ShoreL.known (s : ShoreL) : List (Int × Int) := (List.range (s.wd * s.ht)).map s.span
def ShoreL.pick (s : ShoreL) (i : Nat) : Int := s.lo i + (if s.where_ = [] then 0 else s.where_.getD (i % s.where_.length) 0 % (s.add i + 1))
def ShoreL.truth (s : ShoreL) : List (Int × Int) := (List.range (s.wd * s.ht)).map fun i => (s.pick i, s.pick i)

theorem getD_mem {l : List Int} (h : l ≠ []) (i : Nat) : l.getD (i % l.length) 0 ∈ l := by
  have hl : 0 < l.length := List.length_pos_iff.2 h
  have hi := Nat.mod_lt i hl
  rw [List.getD_eq_getElem?_getD, List.getElem?_eq_getElem hi]
  exact List.getElem_mem hi
theorem tmod_bd {x : Int} : -4999 ≤ x.tmod 5000 ∧ x.tmod 5000 ≤ 4999 := by
  have h1 := Int.lt_tmod_of_pos x (show (0 : Int) < 5000 by omega)
  have h2 := Int.tmod_lt_of_pos x (show (0 : Int) < 5000 by omega)
  omega
theorem ShoreL.lo_bd (s : ShoreL) (i : Nat) : -4999 ≤ s.lo i ∧ s.lo i ≤ 4999 := by
  unfold ShoreL.lo
  split
  · omega
  · exact tmod_bd
theorem ShoreL.add_bd {s : ShoreL} (h : s.ok) (i : Nat) : 0 ≤ s.add i ∧ s.add i ≤ 255 := by
  unfold ShoreL.add
  split
  · omega
  · rename_i hn; exact h.more _ (getD_mem hn i)
theorem ShoreL.pick_bd {s : ShoreL} (h : s.ok) (i : Nat) : s.lo i ≤ s.pick i ∧ s.pick i ≤ s.lo i + s.add i := by
  have ha := s.add_bd h i
  unfold ShoreL.pick
  split
  · omega
  · have h1 := Int.emod_nonneg (s.where_.getD (i % s.where_.length) 0) (show s.add i + 1 ≠ 0 by omega)
    have h2 := Int.emod_lt_of_pos (s.where_.getD (i % s.where_.length) 0) (show 0 < s.add i + 1 by omega)
    omega
theorem ShoreL.dims {s : ShoreL} (_ : s.ok) : 1 ≤ s.wd ∧ s.wd ≤ 4 ∧ 1 ≤ s.ht ∧ s.ht ≤ 4 := by
  unfold ShoreL.wd ShoreL.ht
  omega
theorem ShoreL.dims' {s : ShoreL} (_ : s.ok) : (s.wd : Int) = 1 + s.wide % 4 ∧ (s.ht : Int) = 1 + s.high % 4 := by
  unfold ShoreL.wd ShoreL.ht
  omega
theorem range_snoc {α : Type} (f : Nat → α) (k : Nat) : (List.range (k + 1)).map f = (List.range k).map f ++ [f k] := by
  rw [List.range_succ, List.map_append]; rfl
end Go.Proofs.Ytfbmjecikilghaa
