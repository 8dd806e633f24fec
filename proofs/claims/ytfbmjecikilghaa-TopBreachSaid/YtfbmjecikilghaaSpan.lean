/- The heap: taking and putting, in whatever order. -/
import Derived.Test.YtfbmjecikilghaaGridA
import Derived.Test.YtfbmjecikilghaaRow
import Derived.Deep.AppendLies
import Derived.BigRegion
import Derived.Outline
import Derived.Test.YtfbmjecikilghaaLevE
namespace Go.Proofs.Ytfbmjecikilghaa
open Go.RowKit

theorem swap_perm {α : Type} (l : List α) (i j : Nat) (hi : i < l.length) (hj : j < l.length) : ((l.set i l[j]).set j l[i]).Perm l := by
  have h := Array.swap_perm (xs := l.toArray) (i := i) (j := j) (by simpa using hi) (by simpa using hj)
  have e : (l.toArray.swap i j (by simpa using hi) (by simpa using hj)) = ((l.set i l[j]).set j l[i]).toArray := by
    simp [Array.swap]
  rw [e] at h
  have h2 := Array.perm_iff_toList_perm.1 h
  simpa using h2

/-- The last element comes to the head's place. -/
theorem head_perm {α : Type} (a : α) (t : List α) : ((a :: t).set 0 ((a :: t)[t.length]'(by simp))).dropLast.Perm t := by
  rcases List.eq_nil_or_concat t with rfl | ⟨f, z, rfl⟩
  · simp
  · rw [List.concat_eq_append]
    have : ((a :: (f ++ [z]))[(f ++ [z]).length]'(by simp)) = z := by simp
    rw [this]
    simp only [List.set_cons_zero]
    rw [← List.cons_append, List.dropLast_concat]
    have := List.perm_append_comm (l₁ := [z]) (l₂ := f)
    simpa using this

theorem wcells_set : ∀ (l : List (Int × Int)) (k : Nat) (a b : Int), k < l.length → ((wcells l).set (k * 2) (.int .i64 a)).set (k * 2 + 1) (.int .i64 b) = wcells (l.set k (a, b))
  | [], k, a, b, h => by simp at h
  | u :: l, 0, a, b, _ => by simp [wcells]
  | u :: l, k + 1, a, b, h => by
    have := wcells_set l k a b (by simpa using h)
    have hw : ∀ (u : Int × Int) (l : List (Int × Int)), wcells (u :: l) = .int .i64 u.1 :: .int .i64 u.2 :: wcells l := fun u l => by simp [wcells]
    rw [List.set_cons_succ, hw, hw, ← this, show (k + 1) * 2 = k * 2 + 1 + 1 from by omega]
    rfl
theorem wcells_get (l : List (Int × Int)) (k : Nat) (h : k < l.length) : (wcells l)[k * 2]? = some (.int .i64 l[k].1) ∧ (wcells l)[k * 2 + 1]? = some (.int .i64 l[k].2) := by
  induction l generalizing k with
  | nil => simp at h
  | cons u l ih =>
    have hw : wcells (u :: l) = .int .i64 u.1 :: .int .i64 u.2 :: wcells l := by simp [wcells]
    cases k with
    | zero => rw [hw]; exact ⟨rfl, rfl⟩
    | succ k =>
      have := ih k (by simpa using h)
      rw [hw, show (k + 1) * 2 = k * 2 + 1 + 1 from by omega]
      simpa using this

abbrev heapF : Value := .func (.func 71) #[] #[]

/-- The heap at q: cells with sills, in a row of its own. -/
structure HeapM (base q : Nat) (W : World) (v : Value) (l : List (Int × Int)) : Prop where
  box : W.heap[q]? = some (.cells #[v, heapF] 141 (0, 0))
  row : W.ownsRow base 137 2 v l.length (wcells l)

theorem HeapM.at {base q : Nat} {W : World} {v : Value} {l : List (Int × Int)} (h : HeapM base q W v l) (h0 : 0 < l.length) :
    ∃ g cap, v = .slice (some ⟨g, 0, none⟩) l.length cap ∧ base ≤ g ∧ g < W.heap.size ∧ g ≠ q ∧ ∀ k (hk : k < l.length), W.cell? ⟨g, k * 2, none⟩ = some (.int .i64 l[k].1) ∧ W.cell? ⟨g, k * 2 + 1, none⟩ = some (.int .i64 l[k].2) := by
  obtain ⟨g, cap, rfl, hb, hlt⟩ := h.row.form h0
  refine ⟨g, cap, rfl, hb, hlt, ?_, fun k hk => ⟨?_, ?_⟩⟩
  · have := cells_not_row h.box (by decide) h.row
    simpa [Value.ownBlock] using this
  · exact (h.row.cellAt (k * 2) (by omega)).trans (wcells_get l k hk).1
  · exact (h.row.cellAt (k * 2 + 1) (by omega)).trans (wcells_get l k hk).2
/-- An element is written. -/
theorem HeapM.write {base q : Nat} {W : World} {g cap : Nat} {l : List (Int × Int)} (h : HeapM base q W (.slice (some ⟨g, 0, none⟩) l.length cap) l) (hgq : g ≠ q) {k : Nat} (hk : k < l.length) (a b : Int) :
    HeapM base q ((W.setCell ⟨g, k * 2, none⟩ (.int .i64 a)).setCell ⟨g, k * 2 + 1, none⟩ (.int .i64 b)) (.slice (some ⟨g, 0, none⟩) (l.set k (a, b)).length cap) (l.set k (a, b)) := by
  refine ⟨heap_setCell_off (heap_setCell_off (by rw [List.length_set]; exact h.box) _ hgq) _ hgq, ?_⟩
  obtain ⟨s1, _⟩ := h.row.stored (k * 2) (.int .i64 a)
  obtain ⟨s2, _⟩ := s1.stored (k * 2 + 1) (.int .i64 b)
  rw [wcells_set l k a b hk] at s2
  rw [List.length_set]
  exact s2
theorem HeapM.below {base q : Nat} {W W' : World} {v : Value} {l : List (Int × Int)} (h : HeapM base q W v l) (hb : Below W.heap.size W W') : HeapM base q W' v l :=
  ⟨heap_below hb h.box, h.row.kept (below_grown hb) (by cases v.ownBlock <;> simp)⟩

theorem HeapM.setBox {base q : Nat} {W : World} {v v' : Value} {l' : List (Int × Int)} (hb : W.heap[q]? = some (.cells #[v, heapF] 141 (0, 0))) (hr : W.ownsRow base 137 2 v' l'.length (wcells l')) :
    HeapM base q (W.setCell ⟨q, 0, none⟩ v') v' l' :=
  ⟨(heap_setCell_at hb _).trans rfl, hr.kept (grownBy_setCell' W q v') (.inr (cells_not_row hb (by decide) hr))⟩
theorem Keeps.toSet {S : List Nat} {a b : World} (h : Keeps S a b) {p : Nat} (o : Nat) (v : Value) (hp : p ∈ S ∨ a.heap.size ≤ p) : Keeps S a (b.setCell ⟨p, o, none⟩ v) := h.setCell ⟨p, o, none⟩ v hp

/-- Where a slice lies behind a call: where it lay, or in a new block. -/
def OwnTo (w : World) (v v' : Value) : Prop := v'.ownBlock = v.ownBlock ∨ ∃ g, v'.ownBlock = some g ∧ w.heap.size ≤ g

def BoxQ (q r : Nat) (cs ds : Array Value) (W : World) : Prop := W.heap[q]? = some (.cells cs 141 (0, 0)) ∧ W.heap[r]? = some (.cells ds 137 (0, 0))

/-- Between two steps upwards. -/
def PutI (base q : Nat) (S : List Nat) (v : Value) (l : List (Int × Int)) (w : World) (i : Value) (wr : World) : Prop :=
  ∃ (k g cap : Nat) (l' : List (Int × Int)), i = .int .i64 k ∧ k < l'.length ∧ l'.Perm l ∧ HeapM base q wr (.slice (some ⟨g, 0, none⟩) l'.length cap) l' ∧ Keeps S w wr ∧ (v.ownBlock = some g ∨ w.heap.size ≤ g)

theorem infoOpen : (Try.prog.info? 137).map (fun i => (i.zero, i.size, i.bytes)) = some (some (.agg #[.int .i64 0, .int .i64 0]), 2, 16) := by kernel_rfl
theorem news2 (w : World) (a b : Value) (t : TypeId) : ∀ j u, [a, b][j]? = some u → (w.alloc (.cells #[a, b] t)).cell? ((⟨w.heap.size, 0, none⟩ : Addr).add j) = some u := by
  intro j u hj
  have hca := cells_of (heap_alloc_at w (.cells #[a, b] t))
  rcases j with _ | _ | j
  · exact (hca 0).trans hj
  · exact (hca 1).trans hj
  · simp at hj

set_option maxHeartbeats 4000000 in
set_option maxRecDepth 100000 in
theorem put_ok (base q : Nat) (v : Value) (l : List (Int × Int)) (a b : Int) (w : World) (hH : HeapM base q w v l) (hbase : base ≤ w.heap.size) (hf : l.length < 68719476736) :
    Calls Try.prog 73 #[.pointer (some ⟨q, 0, none⟩), .agg #[.int .i64 a, .int .i64 b]] w fun e w' => (∃ u, e = .returned u) ∧
      ∃ v' l', l'.Perm ((a, b) :: l) ∧ HeapM base q w' v' l' ∧ Keeps (q :: v.ownBlock.toList) w w' ∧ OwnTo w v v' := by
  obtain ⟨av, cv, rfl⟩ := row_len hH.row
  have hbx := hH.box
  have hrow := hH.row
  have hbxc := cells_of hbx
  have hbxf := frozen_of hbx
  have hbxl := lt_of_heap hbx
  have HhH := Lib.hid hH; clear hH; have Hhbx := Lib.hid hbx; clear hbx; have Hhrow := Lib.hid hrow; clear hrow
  go_enter Try.func73, Try.ntmps73
  go_upto_region 2 with fail
  obtain ⟨i0, hinf, hz0, hz1, hz2⟩ := info_parts infoOpen
  have hI : BoxQ q w.heap.size #[.slice av l.length cv, heapF] #[.int .i64 a, .int .i64 b] (w.alloc (.cells #[.int .i64 a, .int .i64 b] 137)).drew := ⟨heap_drew' (heap_alloc_off Hhbx.out _), heap_drew' (heap_alloc_at _ _)⟩
  refine wp_region_ord (BoxQ q w.heap.size #[.slice av l.length cv, heapF] #[.int .i64 a, .int .i64 b]) [([0, 1, 2, 3, 4, 5], 6), ([], 7)] [8, 9] (some 10) (by kernel_rfl) (by kernel_rfl) hI ?_
  refine OrdI_cons ?_
  (apply StI_plain (w0 := (w.alloc (.cells #[.int .i64 a, .int .i64 b] 137)).drew) hI rfl rfl rfl rfl; (focus (intro W hW K hK; have := cells_of hW.1; have := cells_of hW.2; go_step; exact hK)); (focus rfl)); (apply StI_plain (w0 := (w.alloc (.cells #[.int .i64 a, .int .i64 b] 137)).drew) hI rfl rfl rfl rfl; (focus (intro W hW K hK; have := cells_of hW.1; have := cells_of hW.2; go_step; exact hK)); (focus rfl)); (apply StI_plain (w0 := (w.alloc (.cells #[.int .i64 a, .int .i64 b] 137)).drew) hI rfl rfl rfl rfl; (focus (intro W hW K hK; have := cells_of hW.1; have := cells_of hW.2; go_step; exact hK)); (focus rfl)); (apply StI_plain (w0 := (w.alloc (.cells #[.int .i64 a, .int .i64 b] 137)).drew) hI rfl rfl rfl rfl; (focus (intro W hW K hK; have := cells_of hW.1; have := cells_of hW.2; go_step; exact hK)); (focus rfl)); (apply StI_plain (w0 := (w.alloc (.cells #[.int .i64 a, .int .i64 b] 137)).drew) hI rfl rfl rfl rfl; (focus (intro W hW K hK; have := cells_of hW.1; have := cells_of hW.2; go_step; exact hK)); (focus rfl)); (apply StI_plain (w0 := (w.alloc (.cells #[.int .i64 a, .int .i64 b] 137)).drew) hI rfl rfl rfl rfl; (focus (intro W hW K hK; have := cells_of hW.1; have := cells_of hW.2; go_step; exact hK)); (focus rfl))
  (apply StI_eff rfl; go_wp2_with (first | fail))
  have hI1 : BoxQ q w.heap.size #[.slice av l.length cv, heapF] #[.int .i64 a, .int .i64 b] (((w.alloc (.cells #[.int .i64 a, .int .i64 b] 137)).alloc (.cells #[.int .i64 a, .int .i64 b] 137)).drew) := ⟨heap_drew' (heap_alloc_off (heap_alloc_off Hhbx.out _) _), heap_drew' (heap_alloc_off (heap_alloc_at _ _) _)⟩
  refine onNormal_mk hI1 (OrdI_cons ?_)
  have hnews : ∀ j u, [Value.int .i64 a, Value.int .i64 b][j]? = some u → (((w.alloc (.cells #[.int .i64 a, .int .i64 b] 137)).alloc (.cells #[.int .i64 a, .int .i64 b] 137)).drew).cell? ((⟨w.heap.size + 1, 0, none⟩ : Addr).add j) = some u := by
    intro j u hj
    have := news2 (w.alloc (.cells #[.int .i64 a, .int .i64 b] 137)) (.int .i64 a) (.int .i64 b) 137 j u hj
    simpa using this
  apply StI_eff rfl
  refine wpList_append_lies _ rfl _ _ 139 rfl base 137 i0 (.agg #[.int .i64 0, .int .i64 0]) 2 16 Try.underlying139 hinf hz0 hz1 hz2 rfl (by decide) (.slice av l.length cv) _ _ rfl ((Hhrow.out.alloc _).alloc _).drew ⟨w.heap.size + 1, 0, none⟩ 1 1 [.int .i64 a, .int .i64 b] rfl rfl hnews (by simp [Value.oneCell']) (by omega) (by unfold maxLen; omega) (by omega) (by simp; omega) (w.heap.size + 2) (by simp) ?_
  intro g cap w4 hown' hgrow hlie hg4
  replace hown' : w4.ownsRow base 137 2 (.slice (some ⟨g, 0, none⟩) (l.length + 1) cap) (l.length + 1) (wcells l ++ [Value.int .i64 a, Value.int .i64 b]) := hown'
  replace hgrow : (((w.alloc (.cells #[.int .i64 a, .int .i64 b] 137)).alloc (.cells #[.int .i64 a, .int .i64 b] 137)).drew).grownBy w4 (Value.slice av l.length cv).ownBlock := hgrow
  rw [← wcells_snoc] at hown'
  have nq := cells_not_row Hhbx.out (by decide) Hhrow.out
  have g4q : w4.heap[q]? = some (.cells #[.slice av l.length cv, heapF] 141 (0, 0)) := (hgrow.block q (by simp; omega) (Ne.symm nq)).trans hI1.1
  have hI4 : BoxQ q w.heap.size #[.slice av l.length cv, heapF] #[.int .i64 a, .int .i64 b] w4 := ⟨g4q, (hgrow.block _ (by simp; omega) (fun h => by have := (Hhrow.out.lt _ h.symm).2; omega)).trans hI1.2⟩
  obtain ⟨v0, hv0⟩ : ∃ v0, Value.slice av l.length cv = v0 := ⟨_, rfl⟩
  have hk4 : Keeps (q :: v0.ownBlock.toList) w w4 := by
    refine ⟨hgrow.os, hgrow.tape, hgrow.output, by have := hgrow.size; simp at this; omega, fun k hk hn => ?_⟩
    refine (hgrow.block k (by simp; omega) (fun e => hn ?_)).trans ?_
    · rw [hv0] at e; rw [← e]; simp
    · exact (Below.heap_alloc _ _ _ (by simp; omega)).trans (Below.heap_alloc _ _ _ hk)
  have hlie' : v0.ownBlock = some g ∨ w.heap.size ≤ g := by rw [← hv0]; rcases hlie with h | h; exact .inl h; exact .inr (by omega)
  have hgq : g ≠ q := by
    have := cells_not_row g4q (by decide) hown'
    simpa [Value.ownBlock] using this
  have g4l := lt_of_heap g4q
  have g4c := cells_of g4q
  have g4f := frozen_of g4q
  clear hnews hinf hz0 hz1 hz2 hI1 hI hbxc hbxf hlie hgrow nq
  have Hhown' := Lib.hid hown'; clear hown'; have Hg4q := Lib.hid g4q; clear g4q; have Hhk4 := Lib.hid hk4; clear hk4; have Hhlie' := Lib.hid hlie'; clear hlie'; have Hhgq := Lib.hid hgq; clear hgq; have Hhv0 := Lib.hid hv0; clear hv0
  go_wp2_with fail
  refine onNormal_mk hI4 (OrdI_snk ?_)
  (apply StI_plain (w0 := w4) hI4 rfl rfl rfl rfl; (focus (intro W hW K hK; skip; go_step; exact hK)); (focus rfl)); (apply StI_plain (w0 := w4) hI4 rfl rfl rfl rfl; (focus (intro W hW K hK; skip; go_step; exact hK)); (focus rfl))
  (apply StI_eff rfl; go_wp2_with (first | fail))
  refine onNormal_last ?_
  go_wp2_with fail
  go_loopw [4] (fun i wr => PutI base q (q :: v0.ownBlock.toList) v0 (l ++ [(a, b)]) w i wr) (fun i _ => (intOf i).toNat)
  case atStart =>
    have ho := Hhown'.out
    have hl1 : (l ++ [(a, b)]).length = l.length + 1 := by simp
    rw [← hl1] at ho
    refine ⟨l.length, g, cap, l ++ [(a, b)], rfl, by simp, List.Perm.refl _, ?_, Hhk4.out.toSet _ _ (.inl (by simp)), Hhlie'.out⟩
    have := HeapM.setBox Hg4q.out ho
    rw [hl1] at this
    rw [hl1]
    exact this
  case round =>
    obtain ⟨k, g, cap, l', rfl, hk, hp, hH, hK, hlie⟩ := hrel
    have hlen := hp.length_eq
    simp only [List.length_append, List.length_singleton] at hlen
    have hbx := hH.box
    have hbxc := cells_of hbx
    have hbxf := frozen_of hbx
    have hbxl' := lt_of_heap hbx
    obtain ⟨g', cap', hv', hbg, hgl, hgq, hel⟩ := hH.at (by omega)
    obtain ⟨rfl, rfl⟩ : g = g' ∧ cap = cap' := by simpa using hv'
    clear hv'
    have hgf := hH.row.frozenAt
    by_cases h0 : k = 0
    · subst h0
      have HL := Lib.hid (show l'.Perm ((a, b) :: l) from hp.trans (List.perm_append_comm (l₁ := l) (l₂ := [(a, b)])))
      clear hel
      have Hhp := Lib.hid hp; clear hp; have Hhlen := Lib.hid hlen; clear hlen; have HhH := Lib.hid hH; clear hH; have HhK := Lib.hid hK; clear hK; have Hhlie := Lib.hid hlie; clear hlie; have Hhbx := Lib.hid hbx; clear hbx
      go_wp2_with fail
      go_quiet (fail)
      go_wp2_with fail
      refine bodyPost_end (results_none rfl _ _ _) rfl ?_
      refine ⟨⟨_, rfl⟩, _, l', HL.out, HhH.out.below (bl_drewN (Below.refl _ _) nq), by rw [Hhv0.out]; exact HhK.out.drewN nq, ?_⟩
      rw [Hhv0.out]
      rcases Hhlie.out with h | h
      · exact .inl h.symm
      · exact .inr ⟨g, rfl, h⟩
    · obtain ⟨ii, hKk⟩ : ∃ ii : Int, (k : Int) = ii := ⟨_, rfl⟩
      obtain ⟨jj, hJ⟩ : ∃ jj : Int, (ii - 1) / 2 = jj := ⟨_, rfl⟩
      obtain ⟨x1, hx1⟩ : ∃ x, l'[k].1 = x := ⟨_, rfl⟩
      obtain ⟨x2, hx2⟩ : ∃ x, l'[k].2 = x := ⟨_, rfl⟩
      have hj : jj.toNat < l'.length := by omega
      obtain ⟨y1, hy1⟩ : ∃ x, l'[jj.toNat].1 = x := ⟨_, rfl⟩
      obtain ⟨y2, hy2⟩ : ∃ x, l'[jj.toNat].2 = x := ⟨_, rfl⟩
      have ek := hel k hk
      have ej := hel jj.toNat hj
      have hkt : k = ii.toNat := by omega
      rw [hx1, hx2, hkt] at ek
      rw [hy1, hy2] at ej
      obtain ⟨ek1, ek2⟩ := ek
      obtain ⟨ej1, ej2⟩ := ej
      have K1 : 1 ≤ ii := by omega
      have K9 : 0 ≤ ii := by omega
      have K0 : decide (0 < ii) = true := by simp; omega
      have K2 : ii < l'.length := by omega
      have K3 : ii ≤ 100000000000 := by omega
      have J0 : 0 ≤ jj := by omega
      have J1 : jj < ii := by omega
      have J2 : jj < l'.length := by omega
      have hI : Below wr.heap.size wr wr.drew := (Below.refl _ _).drew
      have hsw : Hid (((l'.set k (y1, y2)).set jj.toNat (x1, x2)).Perm l') := by
        refine Lib.hid ?_
        have := swap_perm l' k jj.toNat hk hj
        have e1 : l'[jj.toNat] = (y1, y2) := by rw [← hy1, ← hy2]
        have e2 : l'[k] = (x1, x2) := by rw [← hx1, ← hx2]
        rw [e1, e2] at this
        exact this
      clear hel
      rw [hKk]
      clear hx1 hx2 hy1 hy2
      have Hhp := Lib.hid hp; clear hp; have Hhlen := Lib.hid hlen; clear hlen; have HhH := Lib.hid hH; clear hH; have HhK := Lib.hid hK; clear hK; have Hhlie := Lib.hid hlie; clear hlie; have Hhbx := Lib.hid hbx; clear hbx; have Hhkt := Lib.hid hkt; clear hkt; have Hhk := Lib.hid hk; clear hk; have HhKk := Lib.hid hKk; clear hKk; have Hhj := Lib.hid hj; clear hj; have Hh0 := Lib.hid h0; clear h0
      go_upto_region 3 with fail
      refine wp_region_ord (fun W => Below wr.heap.size wr W) [([0, 1, 2, 3, 4, 5, 6, 7, 8, 9, 10, 11, 12, 13, 14, 15, 16, 17, 18, 19, 20, 21, 22], 23)] [24] none (by kernel_rfl) (by kernel_rfl) hI ?_
      refine OrdI_cons ?_
      (apply StI_plain (w0 := wr.drew) hI rfl rfl rfl rfl; (focus (intro W hW K hK; obtain ⟨_, _⟩ := bk q hW hbxl'; obtain ⟨_, _⟩ := bk g hW hgl; go_step; exact hK)); (focus rfl)); (apply StI_plain (w0 := wr.drew) hI rfl rfl rfl rfl; (focus (intro W hW K hK; obtain ⟨_, _⟩ := bk q hW hbxl'; obtain ⟨_, _⟩ := bk g hW hgl; go_step; exact hK)); (focus rfl)); (apply StI_plain (w0 := wr.drew) hI rfl rfl rfl rfl; (focus (intro W hW K hK; obtain ⟨_, _⟩ := bk q hW hbxl'; obtain ⟨_, _⟩ := bk g hW hgl; go_step; exact hK)); (focus rfl)); (apply StI_yes (w0 := wr.drew) hI; (focus rfl); (focus rfl); (focus rfl); (focus rfl); (focus rfl); (focus rfl); (focus rfl); (focus (intro W hW K hK; obtain ⟨_, _⟩ := bk q hW hbxl'; obtain ⟨_, _⟩ := bk g hW hgl; go_step; exact hK)); (focus rfl)); (apply StI_yes (w0 := wr.drew) hI; (focus rfl); (focus rfl); (focus rfl); (focus rfl); (focus rfl); (focus rfl); (focus rfl); (focus (intro W hW K hK; obtain ⟨_, _⟩ := bk q hW hbxl'; obtain ⟨_, _⟩ := bk g hW hgl; go_step; exact hK)); (focus rfl)); (apply StI_yes (w0 := wr.drew) hI; (focus rfl); (focus rfl); (focus rfl); (focus rfl); (focus rfl); (focus rfl); (focus rfl); (focus (intro W hW K hK; obtain ⟨_, _⟩ := bk q hW hbxl'; obtain ⟨_, _⟩ := bk g hW hgl; go_step; exact hK)); (focus rfl)); (apply StI_yes (w0 := wr.drew) hI; (focus rfl); (focus rfl); (focus rfl); (focus rfl); (focus rfl); (focus rfl); (focus rfl); (focus (intro W hW K hK; obtain ⟨_, _⟩ := bk q hW hbxl'; obtain ⟨_, _⟩ := bk g hW hgl; go_step; exact hK)); (focus rfl)); (apply StI_yes (w0 := wr.drew) hI; (focus rfl); (focus rfl); (focus rfl); (focus rfl); (focus rfl); (focus rfl); (focus rfl); (focus (intro W hW K hK; obtain ⟨_, _⟩ := bk q hW hbxl'; obtain ⟨_, _⟩ := bk g hW hgl; go_step; exact hK)); (focus rfl)); (apply StI_yes (w0 := wr.drew) hI; (focus rfl); (focus rfl); (focus rfl); (focus rfl); (focus rfl); (focus rfl); (focus rfl); (focus (intro W hW K hK; obtain ⟨_, _⟩ := bk q hW hbxl'; obtain ⟨_, _⟩ := bk g hW hgl; go_step; exact hK)); (focus rfl)); (apply StI_yes (w0 := wr.drew) hI; (focus rfl); (focus rfl); (focus rfl); (focus rfl); (focus rfl); (focus rfl); (focus rfl); (focus (intro W hW K hK; obtain ⟨_, _⟩ := bk q hW hbxl'; obtain ⟨_, _⟩ := bk g hW hgl; go_step; exact hK)); (focus rfl)); (apply StI_yes (w0 := wr.drew) hI; (focus rfl); (focus rfl); (focus rfl); (focus rfl); (focus rfl); (focus rfl); (focus rfl); (focus (intro W hW K hK; obtain ⟨_, _⟩ := bk q hW hbxl'; obtain ⟨_, _⟩ := bk g hW hgl; go_step; exact hK)); (focus rfl)); (apply StI_yes (w0 := wr.drew) hI; (focus rfl); (focus rfl); (focus rfl); (focus rfl); (focus rfl); (focus rfl); (focus rfl); (focus (intro W hW K hK; obtain ⟨_, _⟩ := bk q hW hbxl'; obtain ⟨_, _⟩ := bk g hW hgl; go_step; exact hK)); (focus rfl)); (apply StI_yes (w0 := wr.drew) hI; (focus rfl); (focus rfl); (focus rfl); (focus rfl); (focus rfl); (focus rfl); (focus rfl); (focus (intro W hW K hK; obtain ⟨_, _⟩ := bk q hW hbxl'; obtain ⟨_, _⟩ := bk g hW hgl; go_step; exact hK)); (focus rfl)); (apply StI_yes (w0 := wr.drew) hI; (focus rfl); (focus rfl); (focus rfl); (focus rfl); (focus rfl); (focus rfl); (focus rfl); (focus (intro W hW K hK; obtain ⟨_, _⟩ := bk q hW hbxl'; obtain ⟨_, _⟩ := bk g hW hgl; go_step; exact hK)); (focus rfl)); (apply StI_yes (w0 := wr.drew) hI; (focus rfl); (focus rfl); (focus rfl); (focus rfl); (focus rfl); (focus rfl); (focus rfl); (focus (intro W hW K hK; obtain ⟨_, _⟩ := bk q hW hbxl'; obtain ⟨_, _⟩ := bk g hW hgl; go_step; exact hK)); (focus rfl)); (apply StI_yes (w0 := wr.drew) hI; (focus rfl); (focus rfl); (focus rfl); (focus rfl); (focus rfl); (focus rfl); (focus rfl); (focus (intro W hW K hK; obtain ⟨_, _⟩ := bk q hW hbxl'; obtain ⟨_, _⟩ := bk g hW hgl; go_step; exact hK)); (focus rfl)); (apply StI_yes (w0 := wr.drew) hI; (focus rfl); (focus rfl); (focus rfl); (focus rfl); (focus rfl); (focus rfl); (focus rfl); (focus (intro W hW K hK; obtain ⟨_, _⟩ := bk q hW hbxl'; obtain ⟨_, _⟩ := bk g hW hgl; go_step; exact hK)); (focus rfl)); (apply StI_yes (w0 := wr.drew) hI; (focus rfl); (focus rfl); (focus rfl); (focus rfl); (focus rfl); (focus rfl); (focus rfl); (focus (intro W hW K hK; obtain ⟨_, _⟩ := bk q hW hbxl'; obtain ⟨_, _⟩ := bk g hW hgl; go_step; exact hK)); (focus rfl)); (apply StI_yes (w0 := wr.drew) hI; (focus rfl); (focus rfl); (focus rfl); (focus rfl); (focus rfl); (focus rfl); (focus rfl); (focus (intro W hW K hK; obtain ⟨_, _⟩ := bk q hW hbxl'; obtain ⟨_, _⟩ := bk g hW hgl; go_step; exact hK)); (focus rfl)); (apply StI_yes (w0 := wr.drew) hI; (focus rfl); (focus rfl); (focus rfl); (focus rfl); (focus rfl); (focus rfl); (focus rfl); (focus (intro W hW K hK; obtain ⟨_, _⟩ := bk q hW hbxl'; obtain ⟨_, _⟩ := bk g hW hgl; go_step; exact hK)); (focus rfl)); (apply StI_yes (w0 := wr.drew) hI; (focus rfl); (focus rfl); (focus rfl); (focus rfl); (focus rfl); (focus rfl); (focus rfl); (focus (intro W hW K hK; obtain ⟨_, _⟩ := bk q hW hbxl'; obtain ⟨_, _⟩ := bk g hW hgl; go_step; exact hK)); (focus rfl)); (apply StI_yes (w0 := wr.drew) hI; (focus rfl); (focus rfl); (focus rfl); (focus rfl); (focus rfl); (focus rfl); (focus rfl); (focus (intro W hW K hK; obtain ⟨_, _⟩ := bk q hW hbxl'; obtain ⟨_, _⟩ := bk g hW hgl; go_step; exact hK)); (focus rfl)); (apply StI_yes (w0 := wr.drew) hI; (focus rfl); (focus rfl); (focus rfl); (focus rfl); (focus rfl); (focus rfl); (focus rfl); (focus (intro W hW K hK; obtain ⟨_, _⟩ := bk q hW hbxl'; obtain ⟨_, _⟩ := bk g hW hgl; go_step; exact hK)); (focus rfl))
      (apply StI_eff rfl; go_wp2_with (first | (go_at_call 71; refine (before_any x1 x2 y1 y2 _).mono ?_; rintro e w1 ⟨rfl, hb1⟩)))
      have hI1 : Below wr.heap.size wr w1 := below_mid hI (Nat.le_refl _) hb1
      refine onNormal_mk hI1 (OrdI_fin ?_)
      (apply StI_plain (w0 := w1) hI1 rfl rfl rfl rfl; (focus (intro W hW K hK; skip; go_step; exact hK)); (focus rfl))
      refine StI_nil ?_
      by_cases hlt : x2 < y2
      · have hd : decide (x2 < y2) = true := by simpa using hlt
        rw [hd]
        have hbx1 := heap_below hI1 Hhbx.out
        have hH1 := HhH.out.below hI1
        have hK1 := HhK.out.stepB hI1
        have hbx1c := cells_of hbx1
        have hbx1f := frozen_of hbx1
        have l1q := lt_of_heap hbx1
        obtain ⟨gc, gf, gl⟩ := bk g hI1 hgl
        have f1 := (gc (ii.toNat * 2)).trans ek1
        have f2 := (gc (ii.toNat * 2 + 1)).trans ek2
        have f3 := (gc (jj.toNat * 2)).trans ej1
        have f4 := (gc (jj.toNat * 2 + 1)).trans ej2
        have f5 := hH1.row.frozenAt
        clear hbxc hbxf ek1 ek2 ej1 ej2 hI hb1 gc gf hgf
        have HhJ' := Lib.hid hJ
        have HhH1 := Lib.hid hH1; clear hH1; have HhK1 := Lib.hid hK1; clear hK1; have HhI1 := Lib.hid hI1; clear hI1; have Hhbx1 := Lib.hid hbx1; clear hbx1
        go_upto_region 4 with fail
        go_region
        go_wp2_with fail
        have hgS : g ∈ q :: v0.ownBlock.toList ∨ w.heap.size ≤ g := by
          rcases Hhlie.out with h | h
          · exact .inl (by rw [h]; simp)
          · exact .inr h
        have q1 := HhH1.out.write hgq (k := ii.toNat) (by omega) y1 y2
        have q2 := (q1.write hgq (k := jj.toNat) (by rw [List.length_set]; omega) x1 x2).below (bl_drew (Below.refl _ _))
        have hsw' := hsw.out
        rw [Hhkt.out] at hsw'
        refine ⟨⟨jj.toNat, g, cap, _, by rw [HhJ'.out]; exact congrArg _ (by omega), by simp only [List.length_set]; omega, hsw'.trans Hhp.out, q2, ((((HhK1.out.toSet _ _ hgS).toSet _ _ hgS).toSet _ _ hgS).toSet _ _ hgS).drew, Hhlie.out⟩, by simp only [intOf]; have := HhJ'.out; omega⟩
      · have hd : decide (x2 < y2) = false := by simpa using hlt
        rw [hd]
        have hH1 := HhH.out.below hI1
        have hK1 := HhK.out.stepB hI1
        have HL := Lib.hid (show l'.Perm ((a, b) :: l) from Hhp.out.trans (List.perm_append_comm (l₁ := l) (l₂ := [(a, b)])))
        have hlie := Hhlie.out
        rw [← Hhv0.out] at hK1 hlie
        clear hbxc hbxf ek1 ek2 ej1 ej2 hI hb1 hgf
        have HhH1 := Lib.hid hH1; clear hH1; have HhK1 := Lib.hid hK1; clear hK1; have HhI1 := Lib.hid hI1; clear hI1; have Hhlie := Lib.hid hlie; clear hlie
        go_wp2_with fail
        refine bodyPost_end (results_none rfl _ _ _) rfl ?_
        refine ⟨⟨_, rfl⟩, _, l', HL.out, HhH1.out, HhK1.out, ?_⟩
        rcases Hhlie.out with h | h
        · exact .inl h.symm
        · exact .inr ⟨g, rfl, h⟩
end Go.Proofs.Ytfbmjecikilghaa
namespace Go.Proofs.Ytfbmjecikilghaa
open Go.RowKit

def SpanE (w : World) (b o : Nat) (u : Int × Int) : Prop := w.cell? ⟨b, o, none⟩ = some (.int .i64 u.1) ∧ w.cell? ⟨b, o + 1, none⟩ = some (.int .i64 u.2)
theorem ek_span (B : Nat) : EK B SpanE := fun _ _ _ _ _ hB hb ⟨h0, h1⟩ => ⟨ek_cell hB hb h0, ek_cell hB hb h1⟩
theorem pcells_get (l : List Part) (k : Nat) (h : k < l.length) : (pcells l)[k * 3]? = some (.int .i64 l[k].amp) ∧ (pcells l)[k * 3 + 1]? = some (.int .i64 l[k].period) ∧ (pcells l)[k * 3 + 2]? = some (.int .i64 l[k].phase) := by
  induction l generalizing k with
  | nil => simp at h
  | cons u l ih =>
    have hw : pcells (u :: l) = .int .i64 u.amp :: .int .i64 u.period :: .int .i64 u.phase :: pcells l := by simp [pcells]
    cases k with
    | zero => rw [hw]; exact ⟨rfl, rfl, rfl⟩
    | succ k =>
      have := ih k (by simpa using h)
      rw [hw, show (k + 1) * 3 = k * 3 + 1 + 1 + 1 from by omega]
      simpa using this

theorem sl_spans {w : World} {base : Nat} {v : Value} {ws : List (Int × Int)} (h : w.ownsRow base 46 2 v ws.length (wcells ws)) (hn : ws.length ≤ 1000) : ∃ a cap, v = .slice a ws.length cap ∧ Sl SpanE 2 w.heap.size w a ws := by
  by_cases h0 : ws.length = 0
  · obtain ⟨a, cap, hv⟩ := row_len h
    exact ⟨a, cap, hv, by omega, fun k hk => by omega⟩
  · obtain ⟨g, cap, hv, hb, hg⟩ := row_form' h (by omega)
    subst hv
    refine ⟨_, cap, rfl, by omega, fun k hk => ⟨g, 0, rfl, hg, ?_, ?_⟩⟩
    · have := (h.cellAt (k * 2) (by omega)).trans (wcells_get ws k hk).1
      simpa using this
    · have := (h.cellAt (k * 2 + 1) (by omega)).trans (wcells_get ws k hk).2
      simpa using this

theorem sl_parts {w : World} {base : Nat} {v : Value} {l : List Part} (h : w.ownsRow base 43 3 v l.length (pcells l)) (hn : l.length ≤ 1000) : ∃ a cap, v = .slice a l.length cap ∧ Sl PartE 3 w.heap.size w a l := by
  by_cases h0 : l.length = 0
  · obtain ⟨a, cap, hv⟩ := row_len h
    exact ⟨a, cap, hv, by omega, fun k hk => by omega⟩
  · obtain ⟨g, cap, hv, hb, hg⟩ := row_form' h (by omega)
    subst hv
    refine ⟨_, cap, rfl, by omega, fun k hk => ⟨g, 0, rfl, hg, ?_, ?_, ?_⟩⟩
    · have := (h.cellAt (k * 3) (by omega)).trans (pcells_get l k hk).1
      simpa using this
    · have := (h.cellAt (k * 3 + 1) (by omega)).trans (pcells_get l k hk).2.1
      simpa using this
    · have := (h.cellAt (k * 3 + 2) (by omega)).trans (pcells_get l k hk).2.2
      simpa using this

/-- The pieces, as numbers. -/
def cutV (step hi : Int) : Nat → Int → List (Int × Int)
  | 0, _ => []
  | f + 1, lo => if hi - lo ≤ step then [(lo, hi)] else (lo, lo + step) :: cutV step hi f (lo + step)
theorem cutR_val {step hi : Int} (hs : 1 ≤ step) : ∀ (f : Nat) (lo : Int) (xs : List Pc), CutR step hi lo xs → hi - lo ≤ (f : Int) * step → xs.map Subtype.val = cutV step hi (f + 1) lo
  | f, lo, [], h, _ => h.elim
  | f, lo, [x], h, hf => by
    rw [cutV, if_pos h.2]
    simp [h.1]
  | f, lo, x :: y :: r, h, hf => by
    obtain ⟨h1, h2, h3⟩ := h
    rw [cutV, if_neg (by omega)]
    cases f with
    | zero => simp at hf; omega
    | succ f =>
      have := cutR_val hs f (lo + step) (y :: r) h3 (by push_cast at hf; rw [Int.add_mul] at hf; omega)
      rw [List.map_cons, this, h1]

def winStepV (mean : Int) (l : List Part) (level : Int) (st : WinS) (x : Int × Int) : WinS :=
  if levHi mean l x.1 x.2 ≤ level then
    if st.low then ⟨true, setHi x.2 st.out⟩ else ⟨true, st.out ++ [x]⟩
  else ⟨false, st.out⟩
theorem win_val (mean : Int) (l : List Part) (level : Int) (xs : List Pc) : win mean l level xs = (xs.map Subtype.val).foldl (winStepV mean l level) ⟨false, []⟩ := by
  unfold win
  rw [List.foldl_map]
  rfl

/-- The windows of the chapter's tide. -/
theorem works_win (xs : List Pc) (h : CutR 600000 3600000 0 xs) : ∃ b, (win 10 [⟨100, 3600000, 0⟩, ⟨50, 7200000, 900⟩] 20 xs).out = [(1200000, b)] ∧ 1502000 ≤ b ∧ b ≤ 3600000 := by
  rw [win_val, cutR_val (by decide) 6 0 xs h (by decide)]
  refine ⟨2400000, ?_, by decide, by decide⟩
  decide +kernel
end Go.Proofs.Ytfbmjecikilghaa
