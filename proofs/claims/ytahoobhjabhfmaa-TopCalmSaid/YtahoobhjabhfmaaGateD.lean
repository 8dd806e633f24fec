/- Steps of closing a gate, in plain lists. -/
import Derived.WalkKit
namespace Go.Proofs.Ytahoobhjabhfmaa

structure Stp where
  name : ByteArray
  after : List Int
  tlo : Int
  thi : Int
  calm : Bool

def never : Int := 1099511627776

def slotT (ready takes : Int) : List (Int × Int) → Int
  | [] => 1099511627776
  | u :: r => if max ready u.1 + takes ≤ u.2 then max ready u.1 + takes else slotT ready takes r

def endT (calm : Bool) (ready takes : Int) (ws : List (Int × Int)) : Int :=
  if ready = 1099511627776 then 1099511627776 else if calm then slotT ready takes ws else ready + takes

def laterT (a b : Int × Int) : Int × Int := (max a.1 b.1, max a.2 b.2)
def at' (ends : List (Int × Int)) (a : Int) : Int × Int := ends.getD a.toNat (0, 0)

def readyT (b : Int × Int) (ends : List (Int × Int)) (as : List Int) : Int × Int :=
  match as with
  | [] => b
  | a :: r => (a :: r).foldl (fun s x => laterT s (at' ends x)) (at' ends a)

def stepEnd (b : Int × Int) (ws ends : List (Int × Int)) (s : Stp) : Int × Int :=
  (endT s.calm (readyT b ends s.after).1 s.tlo ws, endT s.calm (readyT b ends s.after).2 s.thi ws)
def closeT (b : Int × Int) (ws : List (Int × Int)) (l : List Stp) : List (Int × Int) := l.foldl (fun ends s => ends ++ [stepEnd b ws ends s]) []
def allT (b : Int × Int) (ends : List (Int × Int)) : Int × Int := ends.foldl laterT b

theorem closeT_snoc (b : Int × Int) (ws : List (Int × Int)) (l : List Stp) (s : Stp) : closeT b ws (l ++ [s]) = closeT b ws l ++ [stepEnd b ws (closeT b ws l) s] := by simp [closeT]
theorem closeT_length (b : Int × Int) (ws : List (Int × Int)) (l : List Stp) : (closeT b ws l).length = l.length := by
  rcases List.eq_nil_or_concat l with rfl | ⟨f, x, rfl⟩
  · rfl
  · rw [List.concat_eq_append, closeT_snoc, List.length_append, closeT_length b ws f]; simp
termination_by l.length
decreasing_by simp_all
theorem allT_snoc (b : Int × Int) (ends : List (Int × Int)) (x : Int × Int) : allT b (ends ++ [x]) = laterT (allT b ends) x := by simp [allT]
theorem readyT_snoc (b : Int × Int) (ends : List (Int × Int)) (as : List Int) (x : Int) : readyT b ends (as ++ [x]) = laterT (if as = [] then at' ends x else readyT b ends as) (at' ends x) := by
  cases as with
  | nil => simp [readyT]
  | cons a r => simp [readyT]

/-- A step that is well, as the i-th one. -/
structure Stp.good (s : Stp) (i : Nat) : Prop where
  size0 : 1 ≤ s.name.size
  size1 : s.name.size ≤ 12
  letters : ∀ k (h : k < s.name.size), 97 ≤ (s.name[k].toNat : Int) ∧ (s.name[k].toNat : Int) ≤ 122
  few : s.after.length ≤ 100
  before : ∀ a ∈ s.after, 0 ≤ a ∧ a < (i : Int)
  once : s.after.Nodup
  t0 : 0 ≤ s.tlo
  t1 : s.tlo ≤ s.thi
  t2 : s.thi ≤ 100000000

structure StpsOk (l : List Stp) : Prop where
  few : l.length ≤ 32
  each : ∀ i (h : i < l.length), l[i].good i
  names : ∀ i j (hi : i < l.length) (hj : j < l.length), i < j → l[i].name ≠ l[j].name

structure WinsOk (ws : List (Int × Int)) : Prop where
  few : ws.length ≤ 1000
  each : ∀ u ∈ ws, 0 ≤ u.1 ∧ u.1 ≤ u.2 ∧ u.2 ≤ 1000000000
  apart : ws.Pairwise fun u v => u.2 < v.1
end Go.Proofs.Ytahoobhjabhfmaa
