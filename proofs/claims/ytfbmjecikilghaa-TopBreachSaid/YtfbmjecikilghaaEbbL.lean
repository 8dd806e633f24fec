/- TopEbb's plain law: levels are small; the sills of the truth lie between those that are known. -/
import Derived.Test.YtfbmjecikilghaaEbbM
namespace Go.Proofs.Ytfbmjecikilghaa

theorem lev_bd {mean : Int} {l : List Part} (hl : ∀ p ∈ l, p.good) (hn : l.length ≤ 4) (h0 : -128 ≤ mean) (h1 : mean ≤ 127) (lo hi : Int) : -20000 ≤ levLo mean l lo hi ∧ levHi mean l lo hi ≤ 20000 := by
  have hs := sums_bd l hl lo hi l.length (Nat.le_refl _)
  rw [List.take_length] at hs
  obtain ⟨a, b, c, d⟩ := hs
  unfold levLo levHi up
  omega
theorem lev_le {mean : Int} {l : List Part} (hl : ∀ p ∈ l, 0 ≤ p.amp ∧ 0 < p.period) {lo hi : Int} (h : lo ≤ hi) : levLo mean l lo hi ≤ levHi mean l lo hi := by
  have h1 := (lev_in mean l (Int.le_refl lo) (Int.le_refl lo) h hl).1
  have h2 := lev_within mean l (Int.le_refl lo) h hl
  omega

theorem ShoreL.known_len (s : ShoreL) : s.known.length = s.wd * s.ht := by simp [ShoreL.known]
theorem ShoreL.truth_len (s : ShoreL) : s.truth.length = s.wd * s.ht := by simp [ShoreL.truth]
theorem ShoreL.of_known (s : ShoreL) {c : Nat} (h : c < s.wd * s.ht) : loOf s.known c = s.lo c ∧ hiOf s.known c = s.lo c + s.add c := by
  have h' : c < s.known.length := by rw [s.known_len]; exact h
  unfold loOf hiOf
  rw [List.getD_eq_getElem?_getD, List.getElem?_eq_getElem h']
  simp [ShoreL.known, ShoreL.span]
theorem ShoreL.of_truth (s : ShoreL) {c : Nat} (h : c < s.wd * s.ht) : loOf s.truth c = s.pick c ∧ hiOf s.truth c = s.pick c := by
  have h' : c < s.truth.length := by rw [s.truth_len]; exact h
  unfold loOf hiOf
  rw [List.getD_eq_getElem?_getD, List.getElem?_eq_getElem h']
  simp [ShoreL.truth]
theorem ShoreL.gok_known {s : ShoreL} (h : s.ok) : ∀ u ∈ s.known, gok u := by
  intro u hu
  obtain ⟨i, _, rfl⟩ := List.mem_map.1 hu
  have h1 := s.lo_bd i
  have h2 := s.add_bd h i
  unfold gok ShoreL.span
  simp only
  omega
theorem ShoreL.gok_truth {s : ShoreL} (h : s.ok) : ∀ u ∈ s.truth, gok u := by
  intro u hu
  obtain ⟨i, _, rfl⟩ := List.mem_map.1 hu
  have h1 := s.lo_bd i
  have h2 := s.add_bd h i
  have h3 := s.pick_bd h i
  unfold gok
  simp only
  omega

/-- The sills of the truth lie between those that are known. -/
theorem shore_sills {s : ShoreL} (h : s.ok) {sea : List Nat} (hs : ∀ c ∈ sea, c < s.wd * s.ht) {loK hiK hiT : List Int} (h1 : SillOk s.wd s.ht sea (loOf s.known) loK) (h2 : SillOk s.wd s.ht sea (hiOf s.known) hiK) (h3 : SillOk s.wd s.ht sea (hiOf s.truth) hiT) {c : Nat} (hc : c < s.wd * s.ht) :
    loK.getD c 0 ≤ hiT.getD c 0 ∧ hiT.getD c 0 ≤ hiK.getD c 0 := by
  have b1 := fun d (hd : d < s.wd * s.ht) => s.lo_bd d
  have b2 := fun d (_ : d < s.wd * s.ht) => s.add_bd h d
  have b3 := fun d (_ : d < s.wd * s.ht) => s.pick_bd h d
  refine ⟨h1.mono h3 (fun d hd => ?_) (fun d hd => ?_) hs hc, h3.mono h2 (fun d hd => ?_) (fun d hd => ?_) hs hc⟩
  · rw [(s.of_known hd).1, (s.of_truth hd).2]; exact (b3 d hd).1
  · rw [(s.of_truth hd).2]; have := b1 d hd; have := b2 d hd; have := b3 d hd; omega
  · rw [(s.of_known hd).2, (s.of_truth hd).2]; exact (b3 d hd).2
  · rw [(s.of_known hd).2]; have := b1 d hd; have := b2 d hd; omega
end Go.Proofs.Ytfbmjecikilghaa
