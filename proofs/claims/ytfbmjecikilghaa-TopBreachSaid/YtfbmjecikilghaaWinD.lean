/- Windows of low water, in plain lists. -/
import Derived.Test.YtfbmjecikilghaaLevD
namespace Go.Proofs.Ytfbmjecikilghaa

/-- A piece of the times. -/
abbrev Pc := { x : Int × Int // 0 ≤ x.1 ∧ x.1 ≤ x.2 ∧ x.2 ≤ 1000000000 }

/-- The pieces of a span, from its lower end on. -/
def CutR (step hi : Int) : Int → List Pc → Prop
  | _, [] => False
  | lo, [x] => x.1 = (lo, hi) ∧ hi - lo ≤ step
  | lo, x :: y :: r => x.1 = (lo, lo + step) ∧ step < hi - lo ∧ CutR step hi (lo + step) (y :: r)

/-- The last window's upper end is moved. -/
def setHi (h : Int) : List (Int × Int) → List (Int × Int)
  | [] => []
  | [x] => [(x.1, h)]
  | x :: y :: r => x :: setHi h (y :: r)

structure WinS where
  low : Bool
  out : List (Int × Int)

def winStep (mean : Int) (l : List Part) (level : Int) (st : WinS) (x : Pc) : WinS :=
  if levHi mean l x.1.1 x.1.2 ≤ level then
    if st.low then ⟨true, setHi x.1.2 st.out⟩ else ⟨true, st.out ++ [x.1]⟩
  else ⟨false, st.out⟩
def win (mean : Int) (l : List Part) (level : Int) (xs : List Pc) : WinS := xs.foldl (winStep mean l level) ⟨false, []⟩

theorem win_snoc (mean : Int) (l : List Part) (level : Int) (xs : List Pc) (x : Pc) : win mean l level (xs ++ [x]) = winStep mean l level (win mean l level xs) x := by
  simp [win]

theorem setHi_snoc (h : Int) (f : List (Int × Int)) (x : Int × Int) : setHi h (f ++ [x]) = f ++ [(x.1, h)] := by
  induction f with
  | nil => rfl
  | cons a f ih =>
    cases f with
    | nil => rfl
    | cons b f => rw [List.cons_append, List.cons_append, setHi]; rw [List.cons_append] at ih; rw [ih]; rfl
theorem setHi_length (h : Int) (f : List (Int × Int)) : (setHi h f).length = f.length := by
  rcases List.eq_nil_or_concat f with rfl | ⟨g, x, rfl⟩
  · rfl
  · rw [List.concat_eq_append, setHi_snoc]; simp

structure WinOk (mean : Int) (l : List Part) (level lo0 e : Int) (out : List (Int × Int)) : Prop where
  within : ∀ u ∈ out, lo0 ≤ u.1 ∧ u.1 ≤ u.2 ∧ u.2 ≤ e
  apart : out.Pairwise fun u v => u.2 < v.1
  low : ∀ u ∈ out, ∀ y, u.1 ≤ y → y ≤ u.2 → levLo mean l y y ≤ level

structure WinI (mean : Int) (l : List Part) (level lo0 e : Int) (st : WinS) : Prop where
  ok : WinOk mean l level lo0 e st.out
  last : st.low = true → ∃ f a, st.out = f ++ [(a, e)]
  gap : st.low = false → ∀ u ∈ st.out, u.2 < e

theorem win_piece {mean : Int} {l : List Part} (hl : ∀ p ∈ l, 0 ≤ p.amp ∧ 0 < p.period) {level lo0 e : Int} {st : WinS} (h : WinI mean l level lo0 e st) (h0 : lo0 ≤ e) (x : Pc) (hx : x.1.1 = e) :
    WinOk mean l level lo0 x.1.2 (winStep mean l level st x).out ∧ ((winStep mean l level st x).low = true → ∃ f a, (winStep mean l level st x).out = f ++ [(a, x.1.2)]) ∧
      ((winStep mean l level st x).low = false → ∀ u ∈ (winStep mean l level st x).out, u.2 ≤ e) := by
  obtain ⟨⟨a, b⟩, hp⟩ := x
  simp only at hx hp ⊢
  subst hx
  obtain ⟨hw, ha, hv⟩ := h.ok
  unfold winStep
  simp only
  split
  · rename_i hlow
    have hin : ∀ y, a ≤ y → y ≤ b → levLo mean l y y ≤ level := fun y h1 h2 => Int.le_trans (lev_within mean l h1 h2 hl) hlow
    split
    · rename_i hwas
      obtain ⟨f, c, hf⟩ := h.last hwas
      rw [hf] at hw ha hv
      simp only [hf, setHi_snoc]
      have hc := hw (c, a) (by simp)
      refine ⟨⟨fun u hu => ?_, ?_, fun u hu y h1 h2 => ?_⟩, fun _ => ⟨f, c, rfl⟩, fun hn => by cases hn⟩
      · rcases List.mem_append.1 hu with hu | hu
        · have := hw u (List.mem_append_left _ hu); omega
        · obtain rfl := List.mem_singleton.1 hu
          simp only at hc ⊢; omega
      · rw [List.pairwise_append] at ha ⊢
        refine ⟨ha.1, by simp, fun u hu v hv' => ?_⟩
        obtain rfl := List.mem_singleton.1 hv'
        have := ha.2.2 u hu (c, a) (by simp)
        exact this
      · rcases List.mem_append.1 hu with hu | hu
        · exact hv u (List.mem_append_left _ hu) y h1 h2
        · obtain rfl := List.mem_singleton.1 hu
          simp only at h1 h2
          by_cases hy : y ≤ a
          · exact hv (c, a) (by simp) y h1 hy
          · exact hin y (by omega) h2
    · rename_i hwas
      have hwas' : st.low = false := by simpa using hwas
      have hg := h.gap hwas'
      refine ⟨⟨fun u hu => ?_, ?_, fun u hu y h1 h2 => ?_⟩, fun _ => ⟨st.out, a, rfl⟩, fun hn => by cases hn⟩
      · rcases List.mem_append.1 hu with hu | hu
        · have := hw u hu; omega
        · obtain rfl := List.mem_singleton.1 hu
          simp only; omega
      · rw [List.pairwise_append]
        refine ⟨ha, by simp, fun u hu v hv' => ?_⟩
        obtain rfl := List.mem_singleton.1 hv'
        exact hg u hu
      · rcases List.mem_append.1 hu with hu | hu
        · exact hv u hu y h1 h2
        · obtain rfl := List.mem_singleton.1 hu
          exact hin y h1 h2
  · refine ⟨⟨fun u hu => ?_, ha, hv⟩, ?_, ?_⟩
    · have := hw u hu
      omega
    · intro hn
      exact absurd hn (by simp)
    · intro _ u hu
      exact (hw u hu).2.2

theorem win_run {mean : Int} {l : List Part} (hl : ∀ p ∈ l, 0 ≤ p.amp ∧ 0 < p.period) {level lo0 step hi : Int} (hs : 1 ≤ step) : ∀ (xs : List Pc) (e : Int) (st : WinS), WinI mean l level lo0 e st → lo0 ≤ e → CutR step hi e xs →
    WinOk mean l level lo0 hi (xs.foldl (winStep mean l level) st).out
  | [], _, _, _, _, hc => hc.elim
  | [x], e, st, h, h0, hc => by
    have := (win_piece hl h h0 x (by rw [hc.1])).1
    rw [hc.1] at this
    exact this
  | x :: y :: r, e, st, h, h0, hc => by
    obtain ⟨hx, hlt, hr⟩ := hc
    obtain ⟨h1, h2, h3⟩ := win_piece hl h h0 x (by rw [hx])
    have e2 : x.1.2 = e + step := by rw [hx]
    rw [e2] at h1 h2
    exact win_run hl hs (y :: r) (e + step) _ ⟨h1, h2, fun hn u hu => by have := h3 hn u hu; omega⟩ (by omega) hr

theorem win_ok {mean : Int} {l : List Part} (hl : ∀ p ∈ l, 0 ≤ p.amp ∧ 0 < p.period) {level step lo hi : Int} (hs : 1 ≤ step) (xs : List Pc) (hc : CutR step hi lo xs) : WinOk mean l level lo hi (win mean l level xs).out :=
  win_run hl hs xs lo _ ⟨⟨by simp, by simp, by simp⟩, by simp, by simp⟩ (Int.le_refl _) hc

theorem win_length (mean : Int) (l : List Part) (level : Int) (xs : List Pc) : (win mean l level xs).out.length ≤ xs.length := by
  unfold win
  have : ∀ (xs : List Pc) (st : WinS), (xs.foldl (winStep mean l level) st).out.length ≤ st.out.length + xs.length := by
    intro xs
    induction xs with
    | nil => intro st; simp
    | cons x xs ih =>
      intro st
      have h1 := ih (winStep mean l level st x)
      have h2 : (winStep mean l level st x).out.length ≤ st.out.length + 1 := by
        unfold winStep
        split
        · split
          · simp only [setHi_length]; omega
          · simp
        · simp
      simp only [List.foldl_cons, List.length_cons]
      omega
  simpa using this xs ⟨false, []⟩
theorem win_ne {mean : Int} {l : List Part} {level : Int} {xs : List Pc} (h : (win mean l level xs).low = true) : (win mean l level xs).out ≠ [] := by
  rcases List.eq_nil_or_concat xs with rfl | ⟨ys, x, rfl⟩
  · simp [win] at h
  · rw [List.concat_eq_append, win_snoc] at h ⊢
    revert h
    unfold winStep
    split
    · split
      · rename_i hw
        intro _ hn
        have := congrArg List.length hn
        rw [setHi_length] at this
        have hne : (win mean l level ys).out = [] := by simpa using this
        exact absurd hne (win_ne hw)
      · intro _; simp
    · intro h; cases h
termination_by xs.length
decreasing_by simp_all

end Go.Proofs.Ytfbmjecikilghaa
