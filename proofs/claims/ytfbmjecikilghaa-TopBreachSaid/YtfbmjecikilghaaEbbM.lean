/- TopEbb: rows of truth values; a level in a box; the example's ground and levels, in plain numbers. -/
import Derived.Test.YtfbmjecikilghaaFlood
import Derived.Test.YtfbmjecikilghaaFour
import Derived.Test.YtfbmjecikilghaaTruth
namespace Go.Proofs.Ytfbmjecikilghaa
open Go.RowKit

def BoolE (w : World) (b o : Nat) (x : Bool) : Prop := w.cell? ⟨b, o, none⟩ = some (.bool x)
theorem ek_bool (B : Nat) : EK B BoolE := fun _ _ _ _ _ hB hb h => ek_cell hB hb h
theorem bools_length (l : List Bool) : (bools l).length = l.length := by simp [bools]
theorem bools_get (l : List Bool) (k : Nat) (h : k < l.length) : (bools l)[k]? = some (.bool l[k]) := by simp [bools, h]
theorem sl_bools {w : World} {base n : Nat} {v : Value} {l : List Bool} (h : w.ownsRow base 4 1 v n (bools l)) (hl : l.length = n) (hn : n ≤ 1000) : ∃ a cap, v = .slice a n cap ∧ Sl BoolE 1 w.heap.size w a l := by
  subst hl
  by_cases h0 : l.length = 0
  · obtain ⟨a, cap, hv⟩ := row_len h
    exact ⟨a, cap, hv, by omega, fun k hk => by omega⟩
  · obtain ⟨g, cap, hv, hb, hg⟩ := row_form' h (by omega)
    subst hv
    refine ⟨_, cap, rfl, by omega, fun k hk => ⟨g, 0, rfl, hg, ?_⟩⟩
    have := (h.cellAt k (by omega)).trans (bools_get l k hk)
    unfold BoolE
    simpa using this
theorem sureOf_len (l0 : Int) (hi : List Int) : (sureOf l0 hi).length = hi.length := by simp [sureOf]
theorem sureOf_at (l0 : Int) (hi : List Int) (k : Nat) (h : k < (sureOf l0 hi).length) : (sureOf l0 hi)[k] = decide (hi.getD k 0 < l0) := by
  have h' : k < hi.length := by simpa [sureOf] using h
  simp [sureOf, List.getD_eq_getElem?_getD, List.getElem?_eq_getElem h']

/-- A level in a box of its own. -/
def LvB (x y : Int) (wd : World) (v e : Value) (wx : World) : Prop :=
  ∃ p, v = .pointer (some ⟨p, 0, none⟩) ∧ e = .int .i64 0 ∧ wd.heap.size ≤ p ∧ wx.heap[p]? = some (.cells #[.int .i64 x, .int .i64 y] 46 (0, 0)) ∧ Below wd.heap.size wd wx
theorem two_setS {w : World} {q : Nat} {a b c d : Int} (h : w.heap[q]? = some (.cells #[.int .i64 a, .int .i64 b] 46 (0, 0))) :
    ((w.setCell ⟨q, 0, none⟩ (.int .i64 c)).setCell ⟨q, 1, none⟩ (.int .i64 d)).heap[q]? = some (.cells #[.int .i64 c, .int .i64 d] 46 (0, 0)) :=
  (heap_setCell_at ((heap_setCell_at h _).trans rfl) _).trans rfl

/-! The example. -/
def gr4 : List (Int × Int) := [(-40000, -40000), (-40000, -40000), (25, 25), (200, 400)]
theorem nbr01 : nbr 4 1 0 1 := ⟨by decide, by decide, .inl ⟨by decide, by decide⟩⟩
theorem nbr12 : nbr 4 1 1 2 := ⟨by decide, by decide, .inl ⟨by decide, by decide⟩⟩
theorem nbr23 : nbr 4 1 2 3 := ⟨by decide, by decide, .inl ⟨by decide, by decide⟩⟩
theorem works_low {lo : List Int} (h : SillOk 4 1 [0] (loOf gr4) lo) {y : Int} (h0 : -40000 < y) (h1 : y ≤ 25) : lo.getD 1 0 < y ∧ ¬ lo.getD 2 0 < y := by
  have a0 : lo.getD 0 0 ≤ -40000 := h.at_sea 0 (by simp)
  have a1 : lo.getD 1 0 ≤ max (-40000) (lo.getD 0 0) := h.shut 0 1 nbr01 (by omega)
  have a2 : (25 : Int) ≤ lo.getD 2 0 := h.ge (by decide) (show 2 < 4 * 1 by omega)
  omega
theorem works_high {hi : List Int} (h : SillOk 4 1 [0] (hiOf gr4) hi) {x : Int} (h0 : 25 < x) (h1 : x ≤ 400) : hi.getD 2 0 < x ∧ ¬ hi.getD 3 0 < x := by
  have a0 : hi.getD 0 0 ≤ -40000 := h.at_sea 0 (by simp)
  have a1 : hi.getD 1 0 ≤ max (-40000) (hi.getD 0 0) := h.shut 0 1 nbr01 (by omega)
  have a2 : hi.getD 2 0 ≤ max 25 (hi.getD 1 0) := h.shut 1 2 nbr12 (by omega)
  have a3 : (400 : Int) ≤ hi.getD 3 0 := h.ge (by decide) (show 3 < 4 * 1 by omega)
  omega
def wpts : List Part := [⟨100, 3600000, 0⟩, ⟨50, 7200000, 900⟩]
theorem wpts_good : ∀ p ∈ wpts, p.good := by
  intro p hp
  simp [wpts] at hp
  rcases hp with rfl | rfl <;> (unfold Part.good; decide)
theorem works_lev : (-300 ≤ levLo 10 wpts 1800000 1800000 ∧ levLo 10 wpts 1800000 1800000 ≤ levHi 10 wpts 1800000 1800000 ∧ levHi 10 wpts 1800000 1800000 ≤ 25) ∧ 25 < levLo 10 wpts 0 0 ∧ levLo 10 wpts 0 0 ≤ levHi 10 wpts 0 0 ∧ levHi 10 wpts 0 0 ≤ 400 := by
  decide +kernel

/-- The grid of the example in memory. -/
def FourM (g : Nat) (W : World) : Prop := W.heap[g]? = some (.cells #[.int .i64 (-40000), .int .i64 (-40000), .int .i64 (-40000), .int .i64 (-40000), .int .i64 25, .int .i64 25, .int .i64 200, .int .i64 400] 46 (0, 0))
theorem four_set {w : World} {g : Nat} (h : w.heap[g]? = some (.cells #[.int .i64 (-40000), .int .i64 (-40000), .int .i64 (-40000), .int .i64 (-40000), .int .i64 (-1000), .int .i64 (-1000), .int .i64 200, .int .i64 400] 46 (0, 0))) :
    FourM g ((w.setCell ⟨g, 4, none⟩ (.int .i64 25)).setCell ⟨g, 5, none⟩ (.int .i64 25)) :=
  (heap_setCell_at ((heap_setCell_at h _).trans rfl) _).trans rfl
theorem FourM.below {g : Nat} {W W' : World} (h : FourM g W) (hb : Below W.heap.size W W') : FourM g W' := heap_below hb h
theorem four_grid {g B : Nat} {W : World} (h : FourM g W) (hg : g < B) : GridM B W 4 1 1000 gr4 (some ⟨g, 0, none⟩) := by
  have hc := cells_of h
  refine ⟨⟨by decide, fun k hk => ⟨g, 0, rfl, hg, ?_⟩⟩, ?_, by omega, by omega, by omega, by omega, by omega, by omega, by decide⟩
  · have hk' : k = 0 ∨ k = 1 ∨ k = 2 ∨ k = 3 := by simp [gr4] at hk; omega
    rcases hk' with rfl | rfl | rfl | rfl
    · exact ⟨hc 0, hc 1⟩
    · exact ⟨hc 2, hc 3⟩
    · exact ⟨hc 4, hc 5⟩
    · exact ⟨hc 6, hc 7⟩
  · intro p hp
    simp [gr4] at hp
    rcases hp with rfl | rfl | rfl <;> (unfold gok; decide)

/-- What is flooded in the example. -/
theorem flood4 (g sq : Nat) (l0 l1 : Int) (w : World) (hF : FourM g w) (hs : w.heap[sq]? = some (.cells #[.int .i64 0] 3 (0, 0))) (h01 : l0 ≤ l1) (h0 : -20000 ≤ l0) (h1 : l1 ≤ 20000) :
    Calls Try.prog 10 #[.agg #[.int .i64 4, .int .i64 1, .int .i64 1000, .slice (some ⟨g, 0, none⟩) 4 4], .slice (some ⟨sq, 0, none⟩) 1 1, .agg #[.int .i64 l0, .int .i64 l1]] w fun e w' => ∃ lo hi a0 am cs cm,
      e = .returned (.tuple #[.slice a0 4 cs, .slice am 4 cm, .int .i64 0]) ∧ SillOk 4 1 [0] (loOf gr4) lo ∧ SillOk 4 1 [0] (hiOf gr4) hi ∧
      Sl BoolE 1 w'.heap.size w' a0 (sureOf l0 hi) ∧ Sl BoolE 1 w'.heap.size w' am (sureOf l1 lo) ∧ Below w.heap.size w w' := by
  have hq := lt_of_heap hs
  have hM : SeaM w.heap.size w 4 1 1000 gr4 (some ⟨g, 0, none⟩) [0] (some ⟨sq, 0, none⟩) := ⟨four_grid hF (lt_of_heap hF), ⟨by decide, fun k hk => by
    obtain rfl : k = 0 := by simp at hk; omega
    exact ⟨sq, 0, rfl, hq, cells_of hs 0⟩⟩, by decide, by decide⟩
  have h := Flood_ok w.heap.size w 4 1 1000 gr4 (some ⟨g, 0, none⟩) 4 [0] (some ⟨sq, 0, none⟩) 1 l0 l1 hM (Nat.le_refl _) h01 h0 h1
  refine Calls.mono h ?_
  rintro e w' ⟨s, m, lo, hi, rfl, hS1, hS2, hr1, hr2, hb⟩
  obtain ⟨a0, cs, rfl, q1⟩ := sl_bools hr1 (by rw [sureOf_len]; exact hS2.len) (by decide)
  obtain ⟨am, cm, rfl, q2⟩ := sl_bools hr2 (by rw [sureOf_len]; exact hS1.len) (by decide)
  exact ⟨lo, hi, a0, am, cs, cm, rfl, hS1, hS2, q1, q2, hb⟩
end Go.Proofs.Ytfbmjecikilghaa
