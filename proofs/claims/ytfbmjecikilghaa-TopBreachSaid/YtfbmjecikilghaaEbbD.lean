/- Levels within levels; sills and the search for them, in plain numbers. -/
import Derived.Test.YtfbmjecikilghaaLevD
namespace Go.Proofs.Ytfbmjecikilghaa

/-! Levels: a span within another one. -/
theorem hl_mono {j k : Nat} (h : j ≤ k) (hk : k ≤ 1800) : halfLo k ≤ halfLo j := by
  unfold halfLo
  split <;> split
  · have := q_mono h (by omega); omega
  · omega
  · have h1 := q_le j (by omega); have h2 := q_le (1800 - k) (by omega); omega
  · have := q_mono (show 1800 - k ≤ 1800 - j by omega) (by omega); omega
theorem fold_up {lo hi a : Int} (h1 : lo ≤ a) (h2 : a ≤ hi) (hm : ¬ ((lo - 0 - 1) / 3600 < (hi - 0) / 3600)) : fold lo ≤ fold a ∨ fold hi ≤ fold a := by
  by_cases hr : a % 3600 ≤ 1800
  · left; unfold fold; omega
  · right; unfold fold; omega
theorem fold_dn {lo hi a : Int} (h1 : lo ≤ a) (h2 : a ≤ hi) (hm : ¬ ((lo - 1800 - 1) / 3600 < (hi - 1800) / 3600)) : fold a ≤ fold lo ∨ fold a ≤ fold hi := by
  by_cases hr : a % 3600 ≤ 1800
  · right; unfold fold; omega
  · left; unfold fold; omega
theorem chi_in {lo hi a : Int} (h1 : lo ≤ a) (h2 : a ≤ hi) : chi a ≤ cosHi lo hi := by
  have h3 := c_le a
  unfold cosHi
  split
  · omega
  · rename_i hm
    have hm' : ¬ ((lo - 0 - 1) / 3600 < (hi - 0) / 3600) := by simpa [meets] using hm
    rcases fold_up h1 h2 hm' with h | h
    · have := h_mono h (fold_le a); unfold chi; omega
    · have := h_mono h (fold_le a); unfold chi; omega
theorem clo_in {lo hi a : Int} (h1 : lo ≤ a) (h2 : a ≤ hi) : cosLo lo hi ≤ clo a := by
  have h3 := c_le a
  unfold cosLo
  split
  · omega
  · rename_i hm
    have hm' : ¬ ((lo - 1800 - 1) / 3600 < (hi - 1800) / 3600) := by simpa [meets] using hm
    rcases fold_dn h1 h2 hm' with h | h
    · have := hl_mono h (fold_le lo); unfold clo; omega
    · have := hl_mono h (fold_le hi); unfold clo; omega
theorem meets_in {A B a b t : Int} (h0 : A ≤ a) (h2 : b ≤ B) (hm : meets a b t = true) : meets A B t = true := by
  simp only [meets, decide_eq_true_eq] at hm ⊢
  omega
theorem cosHi_in {A B a b : Int} (h0 : A ≤ a) (h1 : a ≤ b) (h2 : b ≤ B) : cosHi a b ≤ cosHi A B := by
  have e1 := chi_in h0 (show a ≤ B by omega)
  have e2 := chi_in (show A ≤ b by omega) h2
  by_cases hm : meets a b 0 = true
  · have := meets_in h0 h2 hm
    unfold cosHi; rw [hm, this]; exact Int.le_refl _
  · rw [show cosHi a b = max (chi a) (chi b) from by unfold cosHi; rw [if_neg hm]]; omega
theorem cosLo_in {A B a b : Int} (h0 : A ≤ a) (h1 : a ≤ b) (h2 : b ≤ B) : cosLo A B ≤ cosLo a b := by
  have e1 := clo_in h0 (show a ≤ B by omega)
  have e2 := clo_in (show A ≤ b by omega) h2
  by_cases hm : meets a b 1800 = true
  · have := meets_in h0 h2 hm
    unfold cosLo; rw [hm, this]; exact Int.le_refl _
  · rw [show cosLo a b = min (clo a) (clo b) from by unfold cosLo; rw [if_neg hm]]; omega
theorem sums_in (l : List Part) {lo hi y z : Int} (h0 : lo ≤ y) (h1 : y ≤ z) (h2 : z ≤ hi) (hl : ∀ p ∈ l, 0 ≤ p.amp ∧ 0 < p.period) : sumLo l lo hi ≤ sumLo l y z ∧ sumHi l y z ≤ sumHi l lo hi := by
  unfold sumLo sumHi
  induction l with
  | nil => exact ⟨Int.le_refl _, Int.le_refl _⟩
  | cons p l ih =>
    simp only [List.map_cons, List.sum_cons]
    have h2' := ih (fun q hq => hl q (by simp [hq]))
    obtain ⟨h3, h4⟩ := hl p (by simp)
    have h5 : p.alo lo ≤ p.alo y := by
      unfold Part.alo
      have := Int.ediv_le_ediv h4 (show 3600 * lo ≤ 3600 * y by omega)
      omega
    have h6 : p.ahi z ≤ p.ahi hi := by
      unfold Part.ahi
      have := up_mono h4 (show 3600 * z ≤ 3600 * hi by omega)
      omega
    have h7 : p.alo y ≤ p.ahi z := by
      unfold Part.alo Part.ahi
      have := div_le_up (a := 3600 * y) h4
      have := up_mono h4 (show 3600 * y ≤ 3600 * z by omega)
      omega
    have h8 := Int.mul_le_mul_of_nonneg_left (cosLo_in h5 h7 h6) h3
    have h9 := Int.mul_le_mul_of_nonneg_left (cosHi_in h5 h7 h6) h3
    omega
/-- The levels of times within a span lie within the levels of the span. -/
theorem lev_in (mean : Int) (l : List Part) {lo hi y z : Int} (h0 : lo ≤ y) (h1 : y ≤ z) (h2 : z ≤ hi) (hl : ∀ p ∈ l, 0 ≤ p.amp ∧ 0 < p.period) : levLo mean l lo hi ≤ levLo mean l y z ∧ levHi mean l y z ≤ levHi mean l lo hi := by
  have hs := sums_in l h0 h1 h2 hl
  unfold levLo levHi
  have := Int.ediv_le_ediv (show (0 : Int) < 65536 by omega) hs.1
  have := up_mono (show (0 : Int) < 65536 by omega) hs.2
  omega

/-! Sills. -/
/-- d is a neighbor of c. -/
def nbr (W H : Nat) (c d : Nat) : Prop := d < W * H ∧ c < W * H ∧
  ((d % W = c % W + 1 ∧ d / W = c / W) ∨ (d % W = c % W ∧ d / W = c / W + 1) ∨ (d % W + 1 = c % W ∧ d / W = c / W) ∨ (d % W = c % W ∧ d / W + 1 = c / W))

inductive Reach (W H : Nat) (sea : List Nat) (h : Nat → Int) : Nat → Int → Prop where
  | sea (c : Nat) : c ∈ sea → Reach W H sea h c (h c)
  | step (c d : Nat) (v : Int) : Reach W H sea h c v → nbr W H c d → Reach W H sea h d (max (h d) v)

theorem Reach.ge {W H : Nat} {sea : List Nat} {h : Nat → Int} {c : Nat} {v : Int} (r : Reach W H sea h c v) : h c ≤ v := by
  cases r <;> omega
theorem Reach.le {W H : Nat} {sea : List Nat} {h : Nat → Int} {m : Int} (hm : ∀ c, c < W * H → h c ≤ m) (hs : ∀ c ∈ sea, c < W * H) {c : Nat} {v : Int} (r : Reach W H sea h c v) : v ≤ m := by
  induction r with
  | sea c hc => exact hm c (hs c hc)
  | step c d v r hn ih => have := hm d hn.1; omega

/-- The sills of a terrain: none is too small, and each one is that of some path. -/
structure SillOk (W H : Nat) (sea : List Nat) (h : Nat → Int) (out : List Int) : Prop where
  len : out.length = W * H
  at_sea : ∀ c ∈ sea, out.getD c 0 ≤ h c
  shut : ∀ c d, nbr W H c d → out.getD c 0 < 1073741824 → out.getD d 0 ≤ max (h d) (out.getD c 0)
  path : ∀ c, c < W * H → out.getD c 0 = 1073741824 ∨ Reach W H sea h c (out.getD c 0)

theorem SillOk.le_reach {W H : Nat} {sea : List Nat} {h h' : Nat → Int} {out : List Int} (k : SillOk W H sea h out) (hle : ∀ c, c < W * H → h c ≤ h' c) (hm : ∀ c, c < W * H → h' c ≤ 1200000) (hs : ∀ c ∈ sea, c < W * H) {c : Nat} {v : Int} (r : Reach W H sea h' c v) : out.getD c 0 ≤ v := by
  induction r with
  | sea c hc => have := k.at_sea c hc; have := hle c (hs c hc); omega
  | step c d v r hn ih =>
    have := Reach.le hm hs r
    have := k.shut c d hn (by omega)
    have := hle d hn.1
    omega
theorem SillOk.le_none {W H : Nat} {sea : List Nat} {h : Nat → Int} {out : List Int} (k : SillOk W H sea h out) (hm : ∀ c, c < W * H → h c ≤ 1200000) (hs : ∀ c ∈ sea, c < W * H) {c : Nat} (hc : c < W * H) : out.getD c 0 ≤ 1073741824 := by
  rcases k.path c hc with h | h
  · omega
  · have := Reach.le hm hs h; omega
theorem SillOk.ge {W H : Nat} {sea : List Nat} {h : Nat → Int} {out : List Int} (k : SillOk W H sea h out) (hm : ∀ c, c < W * H → h c ≤ 1200000) {c : Nat} (hc : c < W * H) : h c ≤ out.getD c 0 := by
  rcases k.path c hc with h1 | h1
  · have := hm c hc; omega
  · exact h1.ge
/-- Higher ground has no lower sills. -/
theorem SillOk.mono {W H : Nat} {sea : List Nat} {h h' : Nat → Int} {out out' : List Int} (k : SillOk W H sea h out) (k' : SillOk W H sea h' out') (hle : ∀ c, c < W * H → h c ≤ h' c) (hm : ∀ c, c < W * H → h' c ≤ 1200000) (hs : ∀ c ∈ sea, c < W * H) {c : Nat} (hc : c < W * H) : out.getD c 0 ≤ out'.getD c 0 := by
  rcases k'.path c hc with h1 | h1
  · rw [h1]; exact k.le_none (fun c hc => by have := hle c hc; have := hm c hc; omega) hs hc
  · exact k.le_reach hle hm hs h1

/-! The search for sills, whatever the order in which cells are taken. -/
def nbrs (W H c : Nat) : List Nat :=
  (if c % W + 1 < W then [c + 1] else []) ++ (if c / W + 1 < H then [c + W] else []) ++ (if 0 < c % W then [c - 1] else []) ++ (if 0 < c / W then [c - W] else [])

set_option maxHeartbeats 8000000 in
theorem nbrs_iff {W H c d : Nat} (h0 : 1 ≤ W) (h1 : W ≤ 4) (h2 : 1 ≤ H) (h3 : H ≤ 4) (hc : c < W * H) : d ∈ nbrs W H c ↔ nbr W H c d := by
  have hW : W = 1 ∨ W = 2 ∨ W = 3 ∨ W = 4 := by omega
  have hH : H = 1 ∨ H = 2 ∨ H = 3 ∨ H = 4 := by omega
  unfold nbrs nbr
  simp only [List.mem_append]
  constructor
  · intro h
    rcases hW with rfl | rfl | rfl | rfl <;> rcases hH with rfl | rfl | rfl | rfl <;>
      (rcases h with ((h | h) | h) | h <;> split at h <;> simp at h <;> omega)
  · intro h
    rcases hW with rfl | rfl | rfl | rfl <;> rcases hH with rfl | rfl | rfl | rfl <;>
      (obtain ⟨ha, hb, h | h | h | h⟩ := h
       · left; left; left; rw [if_pos (by omega)]; simp; omega
       · left; left; right; rw [if_pos (by omega)]; simp; omega
       · left; right; rw [if_pos (by omega)]; simp; omega
       · right; rw [if_pos (by omega)]; simp; omega)

def tot (out : List Int) : Nat := (out.map fun v => (v + 2000000).toNat).sum
theorem tot_set : ∀ (out : List Int) (c : Nat) (m : Int), c < out.length → -2000000 ≤ m → m < out.getD c 0 → tot (out.set c m) + 1 ≤ tot out
  | [], c, m, h, _, _ => by simp at h
  | x :: l, 0, m, _, h1, h2 => by
    simp only [tot, List.set_cons_zero, List.map_cons, List.sum_cons, List.getD_cons_zero] at *
    omega
  | x :: l, c + 1, m, h, h1, h2 => by
    have := tot_set l c m (by simpa using h) h1 (by simpa using h2)
    simp only [tot, List.set_cons_succ, List.map_cons, List.sum_cons] at *
    omega
theorem getD_set (out : List Int) (c d : Nat) (m : Int) (hc : c < out.length) : (out.set c m).getD d 0 = if d = c then m else out.getD d 0 := by
  rw [List.getD_eq_getElem?_getD, List.getD_eq_getElem?_getD, List.getElem?_set]
  by_cases h : c = d
  · subst h; simp [hc]
  · rw [if_neg h, if_neg (Ne.symm h)]

/-- Some cells with their sills are still to be taken (pend); ex: the one that is being worked on. -/
structure WI (W H : Nat) (sea : List Nat) (h : Nat → Int) (out : List Int) (pend : List (Nat × Int)) (ex : Nat → Int → Prop) : Prop where
  len : out.length = W * H
  path : ∀ c, c < W * H → out.getD c 0 = 1073741824 ∨ Reach W H sea h c (out.getD c 0)
  pok : ∀ x ∈ pend, x.1 < W * H ∧ Reach W H sea h x.1 x.2
  shut : ∀ c, c < W * H → out.getD c 0 < 1073741824 → (c, out.getD c 0) ∈ pend ∨ (∀ d, nbr W H c d → out.getD d 0 ≤ max (h d) (out.getD c 0)) ∨ ex c (out.getD c 0)

theorem WI.low {W H : Nat} {sea : List Nat} {h : Nat → Int} {out : List Int} {pend pend' : List (Nat × Int)} {ex : Nat → Int → Prop} (k : WI W H sea h out pend ex) {c : Nat} {m : Int} (hc : c < W * H) (hr : Reach W H sea h c m) (hm : m < out.getD c 0)
    (hp : ∀ x, x ∈ pend' ↔ x = (c, m) ∨ x ∈ pend) : WI W H sea h (out.set c m) pend' ex where
  len := by rw [List.length_set]; exact k.len
  path := fun d hd => by
    rw [getD_set _ _ _ _ (by rw [k.len]; exact hc)]
    split
    · rename_i e; subst e; exact .inr hr
    · exact k.path d hd
  pok := fun x hx => by
    rcases (hp x).1 hx with rfl | hx
    · exact ⟨hc, hr⟩
    · exact k.pok x hx
  shut := fun d hd hlt => by
    have hcl : c < out.length := by rw [k.len]; exact hc
    rw [getD_set _ _ _ _ hcl] at hlt ⊢
    split at hlt
    · rename_i e; subst e; exact .inl (by rw [if_pos rfl]; exact (hp _).2 (.inl rfl))
    · rename_i e
      rw [if_neg e]
      rcases k.shut d hd hlt with h1 | h1 | h1
      · exact .inl ((hp _).2 (.inr h1))
      · refine .inr (.inl fun y hy => ?_)
        rw [getD_set _ _ _ _ hcl]
        have := h1 y hy
        split
        · rename_i e2; subst e2; omega
        · exact this
      · exact .inr (.inr h1)
theorem WI.pop {W H : Nat} {sea : List Nat} {h : Nat → Int} {out : List Int} {pend pend' : List (Nat × Int)} (k : WI W H sea h out pend (fun _ _ => False)) {c : Nat} {s : Int} (hp : ∀ x, x ∈ pend ↔ x = (c, s) ∨ x ∈ pend') :
    WI W H sea h out pend' (fun c' v => c' = c ∧ v = s) where
  len := k.len
  path := k.path
  pok := fun x hx => k.pok x ((hp x).2 (.inr hx))
  shut := fun d hd hlt => by
    rcases k.shut d hd hlt with h1 | h1 | h1
    · rcases (hp _).1 h1 with h2 | h2
      · exact .inr (.inr ⟨congrArg Prod.fst h2, congrArg Prod.snd h2⟩)
      · exact .inl h2
    · exact .inr (.inl h1)
    · exact h1.elim
theorem WI.done {W H : Nat} {sea : List Nat} {h : Nat → Int} {out : List Int} {pend : List (Nat × Int)} {c : Nat} {s : Int} (k : WI W H sea h out pend (fun c' v => c' = c ∧ v = s)) (hd : ∀ d, nbr W H c d → out.getD d 0 ≤ max (h d) s) :
    WI W H sea h out pend (fun _ _ => False) where
  len := k.len
  path := k.path
  pok := k.pok
  shut := fun d hd' hlt => by
    rcases k.shut d hd' hlt with h1 | h1 | ⟨h1, h2⟩
    · exact .inl h1
    · exact .inr (.inl h1)
    · subst h1; rw [h2]; exact .inr (.inl hd)
theorem WI.sill {W H : Nat} {sea : List Nat} {h : Nat → Int} {out : List Int} (k : WI W H sea h out [] (fun _ _ => False)) (hs : ∀ c ∈ sea, out.getD c 0 ≤ h c) : SillOk W H sea h out where
  len := k.len
  at_sea := hs
  shut := fun c d hn hlt => by
    rcases k.shut c hn.2.1 hlt with h1 | h1 | h1
    · simp at h1
    · exact h1 d hn
    · exact h1.elim
  path := k.path
theorem WI.start {W H : Nat} (sea : List Nat) (h : Nat → Int) : WI W H sea h (List.replicate (W * H) 1073741824) [] (fun _ _ => False) where
  len := by simp
  path := fun c hc => .inl (by rw [List.getD_eq_getElem?_getD, List.getElem?_replicate, if_pos hc]; rfl)
  pok := by simp
  shut := fun c hc hlt => by
    rw [List.getD_eq_getElem?_getD, List.getElem?_replicate, if_pos hc] at hlt
    simp at hlt
theorem tot_start (n : Nat) : tot (List.replicate n 1073741824) = n * 1075741824 := by
  simp [tot, List.map_replicate, List.sum_replicate_nat]
end Go.Proofs.Ytfbmjecikilghaa
