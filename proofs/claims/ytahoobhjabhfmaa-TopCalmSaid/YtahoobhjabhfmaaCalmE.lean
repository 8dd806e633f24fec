/- The end of each step, by the ends of all. -/
import Derived.Test.YtahoobhjabhfmaaCalmD
namespace Go.Proofs.Ytahoobhjabhfmaa

theorem readyT_congr (b : Int × Int) (e1 e2 : List (Int × Int)) (as : List Int) (h : ∀ a ∈ as, at' e1 a = at' e2 a) : readyT b e1 as = readyT b e2 as := by
  rcases List.eq_nil_or_concat as with rfl | ⟨f, x, rfl⟩
  · rfl
  · rw [List.concat_eq_append] at h ⊢
    rw [readyT_snoc, readyT_snoc, h x (by simp), readyT_congr b e1 e2 f (fun a ha => h a (by simp [ha]))]
termination_by as.length
decreasing_by simp_all

theorem closeT_prefix (b : Int × Int) (ws : List (Int × Int)) (l2 : List Stp) : ∀ acc : List (Int × Int), ∃ r, l2.foldl (fun ends s => ends ++ [stepEnd b ws ends s]) acc = acc ++ r := by
  induction l2 with
  | nil => intro acc; exact ⟨[], by simp⟩
  | cons s l2 ih =>
    intro acc
    obtain ⟨r, hr⟩ := ih (acc ++ [stepEnd b ws acc s])
    exact ⟨[stepEnd b ws acc s] ++ r, by rw [List.foldl_cons, hr, List.append_assoc]⟩

theorem end_get (b : Int × Int) (ws : List (Int × Int)) (l : List Stp) (i : Nat) (hi : i < l.length) (hg : ∀ a ∈ l[i].after, 0 ≤ a ∧ a < (i : Int)) (z : Int × Int) :
    (closeT b ws l).getD i z = (endT l[i].calm (readyT b (closeT b ws l) l[i].after).1 l[i].tlo ws, endT l[i].calm (readyT b (closeT b ws l) l[i].after).2 l[i].thi ws) := by
  have h1 : closeT b ws (l.take (i + 1)) = closeT b ws (l.take i) ++ [stepEnd b ws (closeT b ws (l.take i)) l[i]] := by rw [List.take_succ_eq_append_getElem hi, closeT_snoc]
  obtain ⟨r, hr⟩ : ∃ r, closeT b ws l = closeT b ws (l.take (i + 1)) ++ r := by
    obtain ⟨r, hr⟩ := closeT_prefix b ws (l.drop (i + 1)) (closeT b ws (l.take (i + 1)))
    refine ⟨r, ?_⟩
    rw [← hr]
    unfold closeT
    rw [← List.foldl_append, List.take_append_drop]
  have hlen := closeT_length b ws (l.take i)
  rw [List.length_take, Nat.min_eq_left (by omega)] at hlen
  have hc : ∀ a ∈ l[i].after, at' (closeT b ws l) a = at' (closeT b ws (l.take i)) a := by
    intro a ha
    obtain ⟨a0, a1⟩ := hg a ha
    unfold at'
    rw [hr, h1, List.getD_eq_getElem?_getD, List.getD_eq_getElem?_getD, List.append_assoc, List.getElem?_append_left (by omega)]
  rw [readyT_congr b _ _ _ hc]
  rw [hr, h1, List.getD_eq_getElem?_getD, List.append_assoc, List.getElem?_append_right (by omega), hlen]
  simp [stepEnd]
end Go.Proofs.Ytahoobhjabhfmaa
