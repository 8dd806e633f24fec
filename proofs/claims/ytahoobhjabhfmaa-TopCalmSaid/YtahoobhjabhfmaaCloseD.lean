/- Ends of steps, in plain numbers: what they are bounded by. -/
import Derived.Test.YtahoobhjabhfmaaGateD
namespace Go.Proofs.Ytahoobhjabhfmaa

/-- An end of one of the first i steps. -/
def EndOk (i : Nat) (e : Int) : Prop := e = 1099511627776 ∨ (0 ≤ e ∧ e ≤ 1000000000 + 100000000 * (i : Int))
theorem EndOk.mono {i j : Nat} {e : Int} (h : EndOk i e) (hij : i ≤ j) : EndOk j e := by unfold EndOk at *; omega
theorem EndOk.bd {i : Nat} {e : Int} (h : EndOk i e) (hi : i ≤ 32) : 0 ≤ e ∧ e ≤ 1099511627776 := by unfold EndOk at h; omega
theorem EndOk.max {i : Nat} {a b : Int} (h : EndOk i a) (k : EndOk i b) (hi : i ≤ 32) : EndOk i (max a b) := by unfold EndOk at *; omega

theorem slotT_ok {ready takes : Int} {ws : List (Int × Int)} (hr : 0 ≤ ready) (ht : 0 ≤ takes) (hw : ∀ u ∈ ws, 0 ≤ u.1 ∧ u.1 ≤ u.2 ∧ u.2 ≤ 1000000000) (i : Nat) : EndOk i (slotT ready takes ws) := by
  induction ws with
  | nil => exact .inl rfl
  | cons u r ih =>
    rw [slotT]
    have hu := hw u (by simp)
    split
    · right; omega
    · exact ih (fun v hv => hw v (by simp [hv]))
theorem endT_ok {calm : Bool} {ready takes : Int} {ws : List (Int × Int)} {i : Nat} (hi : i ≤ 32) (hr : EndOk i ready) (ht : 0 ≤ takes) (ht' : takes ≤ 100000000) (hw : ∀ u ∈ ws, 0 ≤ u.1 ∧ u.1 ≤ u.2 ∧ u.2 ≤ 1000000000) : EndOk (i + 1) (endT calm ready takes ws) := by
  have h0 := hr.bd hi
  unfold endT
  split
  · exact .inl rfl
  · rename_i hn
    split
    · exact slotT_ok h0.1 ht hw _
    · rcases hr with hr | hr
      · exact absurd hr hn
      · right; push_cast; omega

def EndsOk (i : Nat) (ends : List (Int × Int)) : Prop := ∀ u ∈ ends, EndOk i u.1 ∧ EndOk i u.2
theorem at_ok {i : Nat} {ends : List (Int × Int)} (h : EndsOk i ends) (a : Int) : EndOk i (at' ends a).1 ∧ EndOk i (at' ends a).2 := by
  unfold at'
  rw [List.getD_eq_getElem?_getD]
  by_cases hk : a.toNat < ends.length
  · rw [List.getElem?_eq_getElem hk]
    exact h _ (List.getElem_mem hk)
  · rw [List.getElem?_eq_none (by omega)]
    exact ⟨.inr ⟨by decide, by simp; omega⟩, .inr ⟨by decide, by simp; omega⟩⟩
theorem ready_ok {i : Nat} (hi : i ≤ 32) {b : Int × Int} {ends : List (Int × Int)} (hb : EndOk i b.1 ∧ EndOk i b.2) (h : EndsOk i ends) (as : List Int) : EndOk i (readyT b ends as).1 ∧ EndOk i (readyT b ends as).2 := by
  rcases List.eq_nil_or_concat as with rfl | ⟨f, x, rfl⟩
  · exact hb
  · rw [List.concat_eq_append, readyT_snoc]
    have hx := at_ok h x
    have hf := ready_ok hi hb h f
    split
    · exact ⟨hx.1.max hx.1 hi, hx.2.max hx.2 hi⟩
    · exact ⟨hf.1.max hx.1 hi, hf.2.max hx.2 hi⟩
termination_by as.length
decreasing_by simp_all

theorem close_ok {b : Int × Int} {ws : List (Int × Int)} (hw : ∀ u ∈ ws, 0 ≤ u.1 ∧ u.1 ≤ u.2 ∧ u.2 ≤ 1000000000) (hb : (0 ≤ b.1 ∧ b.1 ≤ 1000000000) ∧ (0 ≤ b.2 ∧ b.2 ≤ 1000000000)) (l : List Stp)
    (hl : ∀ s ∈ l, 0 ≤ s.tlo ∧ s.tlo ≤ s.thi ∧ s.thi ≤ 100000000) (h32 : l.length ≤ 32) : EndsOk l.length (closeT b ws l) := by
  rcases List.eq_nil_or_concat l with rfl | ⟨f, x, rfl⟩
  · intro u hu; simp [closeT] at hu
  · rw [List.concat_eq_append] at hl h32 ⊢
    rw [List.length_append, List.length_singleton] at h32
    rw [closeT_snoc, List.length_append, List.length_singleton]
    have hf := close_ok hw hb f (fun s hs => hl s (by simp [hs])) (by omega)
    have hx := hl x (by simp)
    have hr := ready_ok (show f.length ≤ 32 by omega) (b := b) ⟨.inr ⟨hb.1.1, by have := hb.1.2; omega⟩, .inr ⟨hb.2.1, by have := hb.2.2; omega⟩⟩ hf x.after
    intro u hu
    rcases List.mem_append.1 hu with hu | hu
    · exact ⟨(hf u hu).1.mono (by omega), (hf u hu).2.mono (by omega)⟩
    · obtain rfl := List.mem_singleton.1 hu
      exact ⟨endT_ok (by omega) hr.1 (by omega) (by omega) hw, endT_ok (by omega) hr.2 (by omega) (by omega) hw⟩
termination_by l.length
decreasing_by simp_all
end Go.Proofs.Ytahoobhjabhfmaa
