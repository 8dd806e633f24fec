/- Rows of entries and of integers, read as lists; what Run answers, told by the list. -/
import Derived.Test.YtjoihijlcpnhoaaDrA
import Derived.Test.YtjoihijlcpnhoaaRowM
import Derived.Test.YtjoihijlcpnhoaaLogC
import Derived.Laws.CopyOwn
import Derived.Laws.OwnMore
import Derived.Deep.OwnRows
namespace Go.Proofs.Ytjoihijlcpnhoaa
open Go.RowKit

/-- What Run answers, the log read as a list. -/
def RunR (T : Town) (p : Plan) (c : Case) (w : World) (e : Ending) (w' : World) : Prop :=
  Below w.heap.size w w' ∧ ((begunErr T p c ≠ 0 ∧ e = .returned (.tuple #[.slice none 0 0, .int .i64 (begunErr T p c)])) ∨
    (verifyT T p = 0 ∧ caseErr p c = 0 ∧ ∃ a cap, e = .returned (.tuple #[.slice a (runLog T p c).length cap, .int .i64 0]) ∧ Sl EntryE 5 w'.heap.size w' a (runLog T p c)))

def vI (n : Int) : Value := .int .i64 n
/-- A block that holds integers. -/
theorem ints_sl {w : World} {b : Nat} {l : List Int} {t : TypeId} (h : w.heap[b]? = some (.cells (l.map vI).toArray t (0, 0))) (hl : l.length ≤ 140737488355328) : Sl IntE 1 w.heap.size w (some ⟨b, 0, none⟩) l := by
  refine ⟨hl, fun k hk => ⟨b, 0, rfl, lt_of_heap h, ?_⟩⟩
  show w.cell? ⟨b, 0 + k * 1, none⟩ = _
  rw [cells_of h, Nat.zero_add, Nat.mul_one]
  simp [vI, hk]

/-- The lateness of n trips, as copy leaves it. -/
def lateL (l : List Int) (n : Nat) : List Int := l.take n ++ List.replicate (n - l.length) 0
theorem lateL_length (l : List Int) (n : Nat) : (lateL l n).length = n := by simp [lateL]; omega
theorem lateL_cells (l : List Int) (n : Nat) : splice (madeCells #[.int .i64 0] n).toList 0 ((l.take n).map vI) = (lateL l n).map vI := by
  rw [toList_madeCells_one]
  unfold splice lateL
  simp [vI]
  omega
theorem made_list (z : Value) (n : Nat) : madeCells #[z] n = (madeCells #[z] n).toList.toArray := by simp

theorem underInts : Try.prog.underlying 59 = some (.slice 3) := by kernel_rfl
theorem infoInt1 : (Try.prog.info? 3).map (fun i => (i.zero, i.size, i.bytes)) = some (some (.int .i64 0), 1, 8) := by kernel_rfl
theorem sizeInt1 : (Try.prog.info? 3).map (·.size) = some 1 := by kernel_rfl

/-- 'copy(x.Late, c.Late)', x.Late new. -/
theorem copy_late {w : World} {ops : Array Oper} {rest : List Oper} {o : Oper} {a : Act} {Q : Exit → Act → World → Prop} (hgd : o.guard = none) (d s : Operand)
    (ho : o.op = .call { callee := .builtin .copy, args := #[d, s], argTypes := #[59, 59] }) (g n : Nat) (l : List Int) (sp : Option Addr) (cap B : Nat)
    (hd : a.eval d = .slice (some ⟨g, 0, none⟩) n n) (hs : a.eval s = .slice sp l.length cap) (hg : w.heap[g]? = some (.cells (madeCells #[.int .i64 0] n) 3 (0, 0))) (hl : Sl IntE 1 B w sp l)
    (h : ∀ w', Hid (w'.heap[g]? = some (.cells ((lateL l n).map vI).toArray 3 (0, 0))) → Hid (Keeps [g] w w') → wpList Try.prog ops Q rest (a.put o.dst (goInt ((Nat.min l.length n : Nat) : Int))) w') :
    wpList Try.prog ops Q (o :: rest) a w := by
  have hlen : ((l.take n).map vI).length = Nat.min l.length n := by simp [Nat.min_comm]
  have hc := lateL_cells l n
  by_cases h0 : Nat.min l.length n = 0
  · refine wpList_copy_nothing hgd d s _ _ ho _ underInts sizeInt1 _ sp n n l.length cap hd hs h0 ?_
    have he : (l.take n).map vI = [] := List.eq_nil_of_length_eq_zero (hlen.trans h0)
    have e2 : (lateL l n).map vI = (madeCells #[.int .i64 0] n).toList := by rw [← hc, he]; simp [splice]
    have := h w (show _ = _ by rw [e2, ← made_list]; exact hg) (show _ from Keeps.refl _ _)
    rw [h0] at this
    exact this
  · have hpos : 0 < l.length := by
      rcases Nat.eq_zero_or_pos l.length with e | e
      · exfalso; apply h0; rw [e]; exact Nat.zero_min _
      · exact e
    obtain ⟨b, off, rfl, _, _⟩ := hl.2 0 hpos
    refine wpList_copy_own hgd d s _ _ ho _ underInts sizeInt1 g 0 n n ⟨b, off, none⟩ l.length cap hd hs _ _ hg ((l.take n).map vI) hlen ?_ (by rw [size_madeCells, hlen]; show 0 + Nat.min l.length n ≤ n; have := Nat.min_le_right l.length n; show 0 + min l.length n ≤ n; omega) (by intro v hv; obtain ⟨x, _, rfl⟩ := List.mem_map.1 hv; rfl) ?_
    · intro j v hv
      have hj : j < ((l.take n).map vI).length := (List.getElem?_eq_some_iff.1 hv).1
      have hjl : j < l.length := by rw [hlen] at hj; have := Nat.min_le_left l.length n; have : Nat.min l.length n ≤ l.length := this; omega
      obtain ⟨b', off', e, _, he⟩ := hl.2 j hjl
      simp only [Option.some.injEq, Addr.mk.injEq, and_true] at e
      obtain ⟨rfl, rfl⟩ := e
      have hv' : v = vI l[j] := by
        rw [List.getElem?_eq_getElem hj] at hv
        simp at hv
        exact hv.symm
      rw [hv']
      have e3 : Addr.add ⟨b, off, none⟩ j = ⟨b, off + j * 1, none⟩ := by
        unfold Addr.add
        split
        · next h => subst h; rfl
        · simp
      rw [e3]
      exact he
    · have := h (w.setRow g (List.take 0 (madeCells #[.int .i64 0] n).toList ++ ((l.take n).map vI ++ List.drop (0 + ((l.take n).map vI).length) (madeCells #[.int .i64 0] n).toList)).toArray)
        (show _ = _ by rw [← hc]; exact setRow_heap w g _ _ _ _ hg) (show _ from ⟨rfl, rfl, rfl, by simp [World.setRow], fun k _ hk => setRow_other w g k _ (by simpa using hk)⟩)
      rw [← hlen] at this
      exact this

theorem ints_set {w : World} {b : Nat} {l : List Int} {t : TypeId} (h : w.heap[b]? = some (.cells (l.map vI).toArray t (0, 0))) (k : Nat) (x : Int) : (w.setCell ⟨b, k, none⟩ (.int .i64 x)).heap[b]? = some (.cells ((l.set k x).map vI).toArray t (0, 0)) := by
  rw [heap_setCell_at h]
  simp [List.map_set, vI]

theorem sl_up {α : Type} {E : World → Nat → Nat → α → Prop} {sz B B' : Nat} {w : World} {a : Option Addr} {l : List α} (h : Sl E sz B w a l) (hB : B ≤ B') : Sl E sz B' w a l :=
  ⟨h.1, fun k hk => let ⟨b, off, ha, hb, he⟩ := h.2 k hk; ⟨b, off, ha, by omega, he⟩⟩

end Go.Proofs.Ytjoihijlcpnhoaa
