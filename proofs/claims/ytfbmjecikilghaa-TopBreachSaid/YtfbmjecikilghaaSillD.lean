/- The search for sills: what holds between two steps. -/
import Derived.Test.YtfbmjecikilghaaReach
namespace Go.Proofs.Ytfbmjecikilghaa
open Go.RowKit

def pn (lp : List (Int × Int)) : List (Nat × Int) := lp.map fun x => (x.1.toNat, x.2)

/-- The ghost of the search. -/
structure GI (wd ht : Nat) (sea : List Nat) (h : Nat → Int) (out : List Int) (lp : List (Int × Int)) (ex : Nat → Int → Prop) : Prop where
  wi : WI wd ht sea h out (pn lp) ex
  pos : ∀ x ∈ lp, 0 ≤ x.1
  few : lp.length + tot out ≤ 17211869184
  sea : True

theorem perm_pn {l l' : List (Int × Int)} (h : l.Perm l') : (pn l).Perm (pn l') := h.map _

/-- What reaching a cell gives. -/
def Reached (c : Int) (M : Int) (out : List Int) (lp : List (Int × Int)) (out' : List Int) (lp' : List (Int × Int)) : Prop :=
  (M < out.getD c.toNat 0 ∧ out' = out.set c.toNat M ∧ lp'.Perm ((c, M) :: lp)) ∨ (out.getD c.toNat 0 ≤ M ∧ out' = out ∧ lp' = lp)

theorem GI.reach {wd ht : Nat} {sea : List Nat} {h : Nat → Int} {out out' : List Int} {lp lp' : List (Int × Int)} {ex : Nat → Int → Prop} (k : GI wd ht sea h out lp ex) {c : Int} {M : Int} (c0 : 0 ≤ c) (hc : c.toNat < wd * ht) (hr : Reach wd ht sea h c.toNat M) (hlo : -2000000 ≤ M)
    (hR : Reached c M out lp out' lp') : GI wd ht sea h out' lp' ex ∧ out'.getD c.toNat 0 ≤ M ∧ (∀ d, out'.getD d 0 ≤ out.getD d 0) ∧ 2 * tot out' + lp'.length ≤ 2 * tot out + lp.length ∧ out'.length = out.length := by
  rcases hR with ⟨h1, rfl, h3⟩ | ⟨h1, rfl, rfl⟩
  · have hl : c.toNat < out.length := by rw [k.wi.len]; exact hc
    have ht' := tot_set out c.toNat M hl hlo h1
    have hlen := h3.length_eq
    simp only [List.length_cons] at hlen
    have hf := k.few
    refine ⟨⟨k.wi.low hc hr h1 (fun x => ?_), fun x hx => ?_, by omega, trivial⟩, ?_, fun d => ?_, by omega, by simp⟩
    · have := (perm_pn h3).mem_iff (a := x)
      rw [this]
      simp [pn]
    · rcases List.mem_cons.1 (h3.mem_iff.1 hx) with rfl | hx
      · exact c0
      · exact k.pos x hx
    · rw [getD_set _ _ _ _ hl, if_pos rfl]; exact Int.le_refl _
    · rw [getD_set _ _ _ _ hl]
      split
      · rename_i e; subst e; omega
      · exact Int.le_refl _
  · exact ⟨k, h1, fun d => Int.le_refl _, Nat.le_refl _, rfl⟩

theorem GI.start {wd ht : Nat} (sea : List Nat) (h : Nat → Int) (hn : wd * ht ≤ 16) : GI wd ht sea h (List.replicate (wd * ht) 1073741824) [] (fun _ _ => False) where
  wi := WI.start sea h
  pos := by simp
  few := by rw [tot_start]; simp; omega
  sea := trivial
theorem GI.pop {wd ht : Nat} {sea : List Nat} {h : Nat → Int} {out : List Int} {lp lp' : List (Int × Int)} (k : GI wd ht sea h out lp (fun _ _ => False)) {x : Int × Int} (hp : lp.Perm (x :: lp')) :
    0 ≤ x.1 ∧ x.1.toNat < wd * ht ∧ Reach wd ht sea h x.1.toNat x.2 ∧ GI wd ht sea h out lp' (fun c' v => c' = x.1.toNat ∧ v = x.2) := by
  have hm : x ∈ lp := hp.mem_iff.2 (by simp)
  have hl := hp.length_eq
  simp only [List.length_cons] at hl
  have hpo := k.wi.pok (x.1.toNat, x.2) (List.mem_map_of_mem (f := fun x : Int × Int => (x.1.toNat, x.2)) hm)
  refine ⟨k.pos x hm, hpo.1, hpo.2, ⟨k.wi.pop (c := x.1.toNat) (s := x.2) (fun y => ?_), fun y hy => k.pos y (hp.mem_iff.2 (List.mem_cons_of_mem _ hy)), by have := k.few; omega, trivial⟩⟩
  have := (perm_pn hp).mem_iff (a := y)
  rw [this]
  simp [pn]
theorem GI.done {wd ht : Nat} {sea : List Nat} {h : Nat → Int} {out : List Int} {lp : List (Int × Int)} {c : Nat} {s : Int} (k : GI wd ht sea h out lp (fun c' v => c' = c ∧ v = s)) (hd : ∀ d, nbr wd ht c d → out.getD d 0 ≤ max (h d) s) : GI wd ht sea h out lp (fun _ _ => False) :=
  ⟨k.wi.done hd, k.pos, k.few, trivial⟩
theorem GI.sill {wd ht : Nat} {sea : List Nat} {h : Nat → Int} {out : List Int} (k : GI wd ht sea h out [] (fun _ _ => False)) (hs : ∀ c ∈ sea, out.getD c 0 ≤ h c) : SillOk wd ht sea h out := k.wi.sill hs

/-! The measure, read out of memory. -/
def cellInt (w : World) (b o : Nat) : Int := match w.cell? ⟨b, o, none⟩ with
  | some (.int _ v) => v
  | _ => 0
def sliceLen (w : World) (q : Nat) : Nat := match w.cell? ⟨q, 0, none⟩ with
  | some (.slice _ l _) => l
  | _ => 0
def searchLeft (go q8 n : Nat) (w : World) : Nat := 2 * tot ((List.range n).map fun k => cellInt w go k) + sliceLen w q8
theorem searchLeft_eq {base qe qg q5 q7 q8 go cap : Nat} {out : List Int} {vh : Value} {lp : List (Int × Int)} {W : World} (h : ReachM base qe qg q5 q7 q8 go cap out vh lp W) {n : Nat} (hn : out.length = n) : searchLeft go q8 n W = 2 * tot out + lp.length := by
  have h1 : (List.range n).map (fun k => cellInt W go k) = out := by
    refine List.ext_getElem (by simp [hn]) fun k h1 h2 => ?_
    rw [List.getElem_map, List.getElem_range]
    have := (h.row.cellAt k (by omega)).trans (ints_get out k h2)
    rw [cellInt, this, List.getD_eq_getElem?_getD, List.getElem?_eq_getElem h2]
    rfl
  obtain ⟨av, cv, rfl⟩ := row_len h.heap.row
  have h2 : sliceLen W q8 = lp.length := by
    rw [sliceLen, cells_of h.heap.box 0]; rfl
  rw [searchLeft, h1, h2]
end Go.Proofs.Ytfbmjecikilghaa
