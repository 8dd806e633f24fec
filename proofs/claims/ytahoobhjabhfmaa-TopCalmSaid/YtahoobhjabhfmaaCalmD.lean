/- TopCalm in plain numbers: steps out of drawn bits, and why each of them is at low tide. -/
import Derived.Test.YtahoobhjabhfmaaWinD
import Derived.Test.YtahoobhjabhfmaaCloseD
namespace Go.Proofs.Ytahoobhjabhfmaa

/-- The steps ahead of the i-th one whose bits are set. -/
def afterOf (z : Int) (i : Nat) : List Int := ((List.range i).filter fun k : Nat => z / 2 ^ k % 2 == 1).map fun k : Nat => (k : Int)
theorem afterOf_succ (z : Int) (k : Nat) : afterOf z (k + 1) = if z / 2 ^ k % 2 == 1 then afterOf z k ++ [(k : Int)] else afterOf z k := by
  unfold afterOf
  rw [List.range_succ, List.filter_append, List.map_append]
  cases h : (z / 2 ^ k % 2 == 1) <;> simp [h]
theorem afterOf_length (z : Int) (k : Nat) : (afterOf z k).length ≤ k := by
  unfold afterOf
  rw [List.length_map]
  exact Nat.le_trans (List.length_filter_le _ _) (by simp)
theorem afterOf_mem (z : Int) (i : Nat) (a : Int) (h : a ∈ afterOf z i) : 0 ≤ a ∧ a < (i : Int) := by
  unfold afterOf at h
  simp only [List.mem_map, List.mem_filter, List.mem_range] at h
  obtain ⟨k, ⟨hk, _⟩, rfl⟩ := h
  omega
theorem afterOf_nodup (z : Int) (i : Nat) : (afterOf z i).Nodup := by
  unfold afterOf
  refine List.Pairwise.map _ (fun a b h => ?_) ((List.nodup_range).filter _)
  intro he
  exact h (by omega)

def nameOf (i : Nat) : ByteArray := ⟨#[115, UInt8.ofNat (97 + i)]⟩
def stpOf (x y z : Int) (i : Nat) : Stp := ⟨nameOf i, afterOf z i, x * 50, x * 50 + y * 50, z / 256 % 2 == 1⟩

theorem nameOf_letters (i : Nat) (hi : i < 8) (k : Nat) (h : k < (nameOf i).size) : 97 ≤ ((nameOf i)[k].toNat : Int) ∧ ((nameOf i)[k].toNat : Int) ≤ 122 := by
  have hk : k < 2 := h
  have hk2 : k = 0 ∨ k = 1 := by omega
  rcases hk2 with rfl | rfl
  · show 97 ≤ (((115 : UInt8).toNat : Nat) : Int) ∧ (((115 : UInt8).toNat : Nat) : Int) ≤ 122
    decide
  · show 97 ≤ (((UInt8.ofNat (97 + i)).toNat : Nat) : Int) ∧ (((UInt8.ofNat (97 + i)).toNat : Nat) : Int) ≤ 122
    simp only [UInt8.toNat_ofNat']
    omega
theorem nameOf_inj (i j : Nat) (hi : i < 8) (hj : j < 8) (h : nameOf i = nameOf j) : i = j := by
  have h1 : (nameOf i).data.toList = (nameOf j).data.toList := by rw [h]
  simp only [nameOf, List.cons.injEq, and_true, true_and] at h1
  have h2 := congrArg UInt8.toNat h1
  simp at h2
  omega
theorem stpOf_good {x y z : Int} {i : Nat} (hi : i < 8) (hx : 0 ≤ x ∧ x < 65536) (hy : 0 ≤ y ∧ y < 65536) : (stpOf x y z i).good i :=
  ⟨by show 1 ≤ 2; omega, by show 2 ≤ 12; omega, nameOf_letters i hi, by have := afterOf_length z i; show (afterOf z i).length ≤ 100; omega, fun a ha => afterOf_mem z i a ha, afterOf_nodup z i,
    by show 0 ≤ x * 50; omega, by show x * 50 ≤ x * 50 + y * 50; omega, by show x * 50 + y * 50 ≤ 100000000; omega⟩

/-- When a step is ready, as the law has it. -/
def readyHi (b : Int) (ends : List (Int × Int)) (as : List Int) : Int := if as = [] then b else as.foldl (fun s a => max s (at' ends a).2) 0
theorem readyHi_snoc (b : Int) (ends : List (Int × Int)) (as : List Int) (x : Int) : readyHi b ends (as ++ [x]) = max (if as = [] then 0 else readyHi b ends as) (at' ends x).2 := by
  unfold readyHi
  rw [if_neg (by simp), List.foldl_append]
  split <;> rename_i h
  · rw [h]; rfl
  · simp
theorem readyHi_eq {i : Nat} {b : Int × Int} {ends : List (Int × Int)} (h : EndsOk i ends) (as : List Int) : readyHi b.2 ends as = (readyT b ends as).2 := by
  rcases List.eq_nil_or_concat as with rfl | ⟨f, x, rfl⟩
  · rfl
  · rw [List.concat_eq_append, readyHi_snoc, readyT_snoc]
    have hx := (at_ok h x).2
    have ih := readyHi_eq (b := b) h f
    have h0 : 0 ≤ (at' ends x).2 := by unfold EndOk at hx; omega
    split <;> rename_i hf
    · show max 0 (at' ends x).2 = max (at' ends x).2 (at' ends x).2
      omega
    · show max (readyHi b.2 ends f) (at' ends x).2 = max (readyT b ends f).2 (at' ends x).2
      rw [ih]
termination_by as.length
decreasing_by simp_all

/-- What ends within a window is in one of them. -/
theorem slotT_spec {ready takes : Int} {ws : List (Int × Int)} (hw : ∀ u ∈ ws, u.2 ≤ 1000000000) :
    (1099511627776 ≤ slotT ready takes ws ∧ ∀ u ∈ ws, u.2 < max ready u.1 + takes) ∨ ∃ u ∈ ws, slotT ready takes ws = max ready u.1 + takes ∧ max ready u.1 + takes ≤ u.2 := by
  induction ws with
  | nil => left; exact ⟨Int.le_refl _, by simp⟩
  | cons u r ih =>
    rw [slotT]
    split
    · rename_i h
      right; exact ⟨u, by simp, rfl, h⟩
    · rename_i h
      rcases ih (fun v hv => hw v (by simp [hv])) with ⟨h1, h2⟩ | ⟨v, hv, h1, h2⟩
      · left
        refine ⟨h1, fun v hv => ?_⟩
        rcases List.mem_cons.1 hv with rfl | hv
        · omega
        · exact h2 v hv
      · right; exact ⟨v, by simp [hv], h1, h2⟩

/-- The end of a calm step: none, and no window is long enough; or all three times that the law asks are in a window, behind the time at which it is ready. -/
theorem calm_end {ready takes e level : Int} {ws : List (Int × Int)} {mean : Int} {l : List Part} {lo hi : Int} (hr : ready < 1099511627776) (h0 : 0 ≤ lo) (hhi : hi ≤ 1000000000) (ht : 0 ≤ takes) (hok : WinOk mean l level lo hi ws)
    (he : endT true ready takes ws = e) :
    (1099511627776 ≤ e ∧ ∀ u ∈ ws, u.2 < max ready u.1 + takes) ∨
    (e < 1099511627776 ∧ ∀ y, (y = e - takes ∨ y = e - takes / 2 ∨ y = e) → ready ≤ y ∧ 0 ≤ y ∧ y ≤ 1000000000 ∧ levLo mean l y y ≤ level) := by
  have he' : slotT ready takes ws = e := by
    rw [← he]; unfold endT; rw [if_neg (by omega)]; rfl
  rcases slotT_spec (ready := ready) (takes := takes) (fun u hu => by have := (hok.within u hu).2.2; omega) with ⟨h1, h2⟩ | ⟨u, hu, h1, h2⟩
  · left; rw [he'] at h1; exact ⟨h1, h2⟩
  · right
    rw [he'] at h1
    have hw := hok.within u hu
    refine ⟨by omega, fun y hy => ?_⟩
    have hy1 : max ready u.1 ≤ y ∧ y ≤ u.2 := by omega
    exact ⟨by omega, by omega, by omega, hok.low u hu y (by omega) (by omega)⟩

theorem winsOk_of {mean : Int} {l : List Part} {level lo hi : Int} {ws : List (Int × Int)} (h : WinOk mean l level lo hi ws) (h0 : 0 ≤ lo) (hhi : hi ≤ 1000000000) (hn : ws.length ≤ 1000) : WinsOk ws :=
  ⟨hn, fun u hu => by have := h.within u hu; omega, h.apart⟩
theorem cutR_few {step hi : Int} (hs : 1 ≤ step) : ∀ (xs : List Pc) (lo : Int), CutR step hi lo xs → (xs.length : Int) * step ≤ hi - lo + step ∨ xs.length = 1
  | [], _, h => h.elim
  | [_], _, _ => .inr rfl
  | x :: y :: r, lo, h => by
    left
    obtain ⟨_, h2, h3⟩ := h
    have := cutR_few hs (y :: r) (lo + step) h3
    simp only [List.length_cons] at this ⊢
    push_cast at this ⊢
    simp only [Int.add_mul] at this ⊢
    rcases this with h | h
    · omega
    · have : r.length = 0 := by omega
      rw [this]; simp; omega
end Go.Proofs.Ytahoobhjabhfmaa
