/- drill: the rows of a run grow. -/
import Derived.Test.YtjoihijlcpnhoaaDrW
import Derived.Test.YtjoihijlcpnhoaaDrY
import Derived.Laws.Tables
namespace Go.Proofs.Ytjoihijlcpnhoaa
open Go.RowKit

theorem row_grown {w w' : World} {base n size : Nat} {e : TypeId} {v : Value} {xs : List Value} (h : w.ownsRow base e size v n xs) {row : Option Nat} (hg : w.grownBy w' row) (hn : ∀ g, v.ownBlock = some g → some g ≠ row) : w'.ownsRow base e size v n xs :=
  row_same h fun g hg' => hg.block g (h.lt g hg').2 (hn g hg')

theorem RunM.addP {T : Town} {a1 a2 a3 a4 : Option Addr} {c1 c2 c3 c4 : Nat} {p : Plan} {p1 p2 : Option Addr} {d1 d2 B : Nat} {A : RA} {w w' : World} {r : RunS} {s : Int} (h : RunM T a1 a2 a3 a4 c1 c2 c3 c4 p p1 p2 d1 d2 B A w r s none)
    (x : Party) {q : Nat} {ha : Option Addr} {hc : Nat} (hq : w.heap[q]? = some (.cells (partyCells x ha hc) 168 (0, 0))) (hsl : Sl HopE 2 B w ha x.hops) (hBq : B ≤ q) (hnew : ∀ i, i < r.parties.length → A.pb i ≠ q) {v' : Value}
    (hg : w.grownBy w' A.vp.ownBlock) (hr : w'.ownsRow B 162 1 v' (r.parties.length + 1) ((List.range r.parties.length).map (fun i => ptrV (A.pb i)) ++ [ptrV q])) :
    RunM T a1 a2 a3 a4 c1 c2 c3 c4 p p1 p2 d1 d2 B { A with vp := v', pb := fun i => if i = r.parties.length then q else A.pb i } (w'.setCell ⟨A.rb, 7, none⟩ v') { r with parties := r.parties ++ [x] } s none := by
  have nr : ∀ {k : Nat} {c : Array Value} {t : TypeId} {f : Nat × Nat}, w.heap[k]? = some (.cells c t f) → t ≠ 162 → some k ≠ A.vp.ownBlock := fun hk ht e => row_ne h.rowp hk ht e.symm
  have hrb : w'.heap[A.rb]? = some (.cells (runCells T a1 a2 a3 a4 c1 c2 c3 c4 p p1 p2 d1 d2 A none s) 161 (0, 0)) := (hg.block _ (lt_of_heap h.blk) (nr h.blk (by decide))).trans h.blk
  have ho : ∀ k, k < w.heap.size → k ≠ A.rb → some k ≠ A.vp.ownBlock → (w'.setCell ⟨A.rb, 7, none⟩ v').heap[k]? = w.heap[k]? := fun k hk h1 h2 => (setCell_other w' _ _ _ h1).trans (hg.block k hk h2)
  have hlrb : B ≤ A.rb := h.lo _ (.inl rfl)
  have hBw : B ≤ w.heap.size := by have := lt_of_heap h.blk; omega
  have hB : Below B w (w'.setCell ⟨A.rb, 7, none⟩ v') := ⟨hg.os, hg.tape, hg.output, by simpa [World.setCell] using hg.size, fun k hk => ho k (by omega) (by omega) (fun e => by have := (h.rowp.lt k e.symm).1; omega)⟩
  have hlen : ({ r with parties := r.parties ++ [x] } : RunS).parties.length = r.parties.length + 1 := by simp
  refine ⟨(heap_setCell_at hrb v').trans rfl, fun i hi => ?_, fun j hj => (ho _ (lt_of_heap (h.wt j hj)) (cells_ne (h.wt j hj) h.blk (by decide)) (nr (h.wt j hj) (by decide))).trans (h.wt j hj), ?_, row_same (row_grown h.roww hg (fun g hg' e => rows_ne h.roww h.rowp (by decide) hg' e.symm)) (fun g hg' => setCell_other w' _ _ _ (fun e => row_ne h.roww h.blk (by decide) (by rw [← e]; exact hg'))),
    row_same (row_grown h.rowr hg (fun g hg' e => rows_ne h.rowr h.rowp (by decide) hg' e.symm)) (fun g hg' => setCell_other w' _ _ _ (fun e => row_ne h.rowr h.blk (by decide) (by rw [← e]; exact hg'))), h.used, fun i j hi hj hij => ?_, h.dw, fun k hk => ?_, h.town.below hB, h.plan.below hB⟩
  · rw [hlen] at hi
    by_cases e : i = r.parties.length
    · subst e
      have e1 : ({ r with parties := r.parties ++ [x] } : RunS).pt r.parties.length = x := by simp [RunS.pt]
      rw [e1]
      refine ⟨ha, hc, ?_, hsl.below (ek_hop B) hB⟩
      simp only
      exact (ho _ (lt_of_heap hq) (cells_ne hq h.blk (by decide)) (nr hq (by decide))).trans hq
    · have hi' : i < r.parties.length := by omega
      have e1 : ({ r with parties := r.parties ++ [x] } : RunS).pt i = r.pt i := by simp [RunS.pt, List.getElem?_append_left hi']
      obtain ⟨ha1, hc1, h1, h2⟩ := h.pt i hi'
      rw [e1]
      refine ⟨ha1, hc1, ?_, h2.below (ek_hop B) hB⟩
      simp only [if_neg e]
      exact (ho _ (lt_of_heap h1) (cells_ne h1 h.blk (by decide)) (nr h1 (by decide))).trans h1
  · rw [hlen]
    have e1 : (List.range (r.parties.length + 1)).map (fun i => ptrV (if i = r.parties.length then q else A.pb i)) = (List.range r.parties.length).map (fun i => ptrV (A.pb i)) ++ [ptrV q] := by
      rw [List.range_succ, List.map_append]
      congr 1
      · refine List.map_congr_left fun i hi => ?_
        rw [if_neg (by have := List.mem_range.1 hi; omega)]
      · simp
    rw [e1]
    exact row_same hr (fun g hg' => setCell_other w' _ _ _ (fun e => row_ne hr hrb (by decide) (by rw [← e]; exact hg')))
  · rw [hlen] at hi hj
    simp only at hij
    by_cases e1 : i = r.parties.length <;> by_cases e2 : j = r.parties.length
    · omega
    · rw [if_pos e1, if_neg e2] at hij
      exact absurd hij.symm (hnew j (by omega))
    · rw [if_neg e1, if_pos e2] at hij
      exact absurd hij (hnew i (by omega))
    · rw [if_neg e1, if_neg e2] at hij
      exact h.dp i j (by omega) (by omega) hij
  · rcases hk with h1 | ⟨i, hi, h1⟩ | h1 | h1 | h1 | h1
    · rw [h1]; exact hlrb
    · rw [hlen] at hi
      simp only at h1
      by_cases e : i = r.parties.length
      · rw [if_pos e] at h1; omega
      · rw [if_neg e] at h1
        exact h.lo k (.inr (.inl ⟨i, by omega, h1⟩))
    · exact h.lo k (.inr (.inr (.inl h1)))
    · exact (hr.lt k h1).1
    · exact h.lo k (.inr (.inr (.inr (.inr (.inl h1)))))
    · exact h.lo k (.inr (.inr (.inr (.inr (.inr h1)))))

theorem RunM.addW {T : Town} {a1 a2 a3 a4 : Option Addr} {c1 c2 c3 c4 : Nat} {p : Plan} {p1 p2 : Option Addr} {d1 d2 B : Nat} {A : RA} {w w' : World} {r : RunS} {s : Int} (h : RunM T a1 a2 a3 a4 c1 c2 c3 c4 p p1 p2 d1 d2 B A w r s none)
    (x : Wait) {q : Nat} (hq : w.heap[q]? = some (.cells (waitCells x) 172 (0, 0))) (hBq : B ≤ q) (hnew : ∀ i, i < r.waits.length → A.wb i ≠ q) {v' : Value}
    (hg : w.grownBy w' A.vw.ownBlock) (hr : w'.ownsRow B 170 1 v' (r.waits.length + 1) ((List.range r.waits.length).map (fun i => ptrV (A.wb i)) ++ [ptrV q])) :
    RunM T a1 a2 a3 a4 c1 c2 c3 c4 p p1 p2 d1 d2 B { A with vw := v', wb := fun i => if i = r.waits.length then q else A.wb i } (w'.setCell ⟨A.rb, 8, none⟩ v') { r with waits := r.waits ++ [x] } s none := by
  have nr : ∀ {k : Nat} {c : Array Value} {t : TypeId} {f : Nat × Nat}, w.heap[k]? = some (.cells c t f) → t ≠ 170 → some k ≠ A.vw.ownBlock := fun hk ht e => row_ne h.roww hk ht e.symm
  have hrb : w'.heap[A.rb]? = some (.cells (runCells T a1 a2 a3 a4 c1 c2 c3 c4 p p1 p2 d1 d2 A none s) 161 (0, 0)) := (hg.block _ (lt_of_heap h.blk) (nr h.blk (by decide))).trans h.blk
  have ho : ∀ k, k < w.heap.size → k ≠ A.rb → some k ≠ A.vw.ownBlock → (w'.setCell ⟨A.rb, 8, none⟩ v').heap[k]? = w.heap[k]? := fun k hk h1 h2 => (setCell_other w' _ _ _ h1).trans (hg.block k hk h2)
  have hlrb : B ≤ A.rb := h.lo _ (.inl rfl)
  have hBw : B ≤ w.heap.size := by have := lt_of_heap h.blk; omega
  have hB : Below B w (w'.setCell ⟨A.rb, 8, none⟩ v') := ⟨hg.os, hg.tape, hg.output, by simpa [World.setCell] using hg.size, fun k hk => ho k (by omega) (by omega) (fun e => by have := (h.roww.lt k e.symm).1; omega)⟩
  have hlen : ({ r with waits := r.waits ++ [x] } : RunS).waits.length = r.waits.length + 1 := by simp
  refine ⟨(heap_setCell_at hrb v').trans rfl, fun i hi => ?_, fun j hj => ?_, row_same (row_grown h.rowp hg (fun g hg' e => rows_ne h.rowp h.roww (by decide) hg' e.symm)) (fun g hg' => setCell_other w' _ _ _ (fun e => row_ne h.rowp h.blk (by decide) (by rw [← e]; exact hg'))), ?_,
    row_same (row_grown h.rowr hg (fun g hg' e => rows_ne h.rowr h.roww (by decide) hg' e.symm)) (fun g hg' => setCell_other w' _ _ _ (fun e => row_ne h.rowr h.blk (by decide) (by rw [← e]; exact hg'))), h.used, h.dp, fun i j hi hj hij => ?_, fun k hk => ?_, h.town.below hB, h.plan.below hB⟩
  · obtain ⟨ha1, hc1, h1, h2⟩ := h.pt i hi
    exact ⟨ha1, hc1, (ho _ (lt_of_heap h1) (cells_ne h1 h.blk (by decide)) (nr h1 (by decide))).trans h1, h2.below (ek_hop B) hB⟩
  · rw [hlen] at hj
    by_cases e : j = r.waits.length
    · subst e
      have e1 : ({ r with waits := r.waits ++ [x] } : RunS).wt r.waits.length = x := by simp [RunS.wt]
      rw [e1]
      simp only
      exact (ho _ (lt_of_heap hq) (cells_ne hq h.blk (by decide)) (nr hq (by decide))).trans hq
    · have hj' : j < r.waits.length := by omega
      have e1 : ({ r with waits := r.waits ++ [x] } : RunS).wt j = r.wt j := by simp [RunS.wt, List.getElem?_append_left hj']
      rw [e1]
      simp only [if_neg e]
      exact (ho _ (lt_of_heap (h.wt j hj')) (cells_ne (h.wt j hj') h.blk (by decide)) (nr (h.wt j hj') (by decide))).trans (h.wt j hj')
  · rw [hlen]
    have e1 : (List.range (r.waits.length + 1)).map (fun i => ptrV (if i = r.waits.length then q else A.wb i)) = (List.range r.waits.length).map (fun i => ptrV (A.wb i)) ++ [ptrV q] := by
      rw [List.range_succ, List.map_append]
      congr 1
      · refine List.map_congr_left fun i hi => ?_
        rw [if_neg (by have := List.mem_range.1 hi; omega)]
      · simp
    rw [e1]
    exact row_same hr (fun g hg' => setCell_other w' _ _ _ (fun e => row_ne hr hrb (by decide) (by rw [← e]; exact hg')))
  · rw [hlen] at hi hj
    simp only at hij
    by_cases e1 : i = r.waits.length <;> by_cases e2 : j = r.waits.length
    · omega
    · rw [if_pos e1, if_neg e2] at hij
      exact absurd hij.symm (hnew j (by omega))
    · rw [if_neg e1, if_pos e2] at hij
      exact absurd hij (hnew i (by omega))
    · rw [if_neg e1, if_neg e2] at hij
      exact h.dw i j (by omega) (by omega) hij
  · rcases hk with h1 | h1 | ⟨i, hi, h1⟩ | h1 | h1 | h1
    · rw [h1]; exact hlrb
    · exact h.lo k (.inr (.inl h1))
    · rw [hlen] at hi
      simp only at h1
      by_cases e : i = r.waits.length
      · rw [if_pos e] at h1; omega
      · rw [if_neg e] at h1
        exact h.lo k (.inr (.inr (.inl ⟨i, by omega, h1⟩)))
    · exact h.lo k (.inr (.inr (.inr (.inl h1))))
    · exact (hr.lt k h1).1
    · exact h.lo k (.inr (.inr (.inr (.inr (.inr h1)))))

theorem RunM.addR {T : Town} {a1 a2 a3 a4 : Option Addr} {c1 c2 c3 c4 : Nat} {p : Plan} {p1 p2 : Option Addr} {d1 d2 B : Nat} {A : RA} {w w' : World} {r : RunS} {s : Int} (h : RunM T a1 a2 a3 a4 c1 c2 c3 c4 p p1 p2 d1 d2 B A w r s none)
    (n : Int) {v' : Value} (hg : w.grownBy w' A.vr.ownBlock) (hr : w'.ownsRow B 3 1 v' (r.room.length + 1) (r.room.map (fun n => .int .i64 n) ++ [.int .i64 n])) :
    RunM T a1 a2 a3 a4 c1 c2 c3 c4 p p1 p2 d1 d2 B { A with vr := v' } (w'.setCell ⟨A.rb, 9, none⟩ v') { r with room := r.room ++ [n] } s none := by
  have nr : ∀ {k : Nat} {c : Array Value} {t : TypeId} {f : Nat × Nat}, w.heap[k]? = some (.cells c t f) → t ≠ 3 → some k ≠ A.vr.ownBlock := fun hk ht e => row_ne h.rowr hk ht e.symm
  have hrb : w'.heap[A.rb]? = some (.cells (runCells T a1 a2 a3 a4 c1 c2 c3 c4 p p1 p2 d1 d2 A none s) 161 (0, 0)) := (hg.block _ (lt_of_heap h.blk) (nr h.blk (by decide))).trans h.blk
  have ho : ∀ k, k < w.heap.size → k ≠ A.rb → some k ≠ A.vr.ownBlock → (w'.setCell ⟨A.rb, 9, none⟩ v').heap[k]? = w.heap[k]? := fun k hk h1 h2 => (setCell_other w' _ _ _ h1).trans (hg.block k hk h2)
  have hlrb : B ≤ A.rb := h.lo _ (.inl rfl)
  have hBw : B ≤ w.heap.size := by have := lt_of_heap h.blk; omega
  have hB : Below B w (w'.setCell ⟨A.rb, 9, none⟩ v') := ⟨hg.os, hg.tape, hg.output, by simpa [World.setCell] using hg.size, fun k hk => ho k (by omega) (by omega) (fun e => by have := (h.rowr.lt k e.symm).1; omega)⟩
  refine ⟨(heap_setCell_at hrb v').trans rfl, fun i hi => ?_, fun j hj => (ho _ (lt_of_heap (h.wt j hj)) (cells_ne (h.wt j hj) h.blk (by decide)) (nr (h.wt j hj) (by decide))).trans (h.wt j hj), row_same (row_grown h.rowp hg (fun g hg' e => rows_ne h.rowp h.rowr (by decide) hg' e.symm)) (fun g hg' => setCell_other w' _ _ _ (fun e => row_ne h.rowp h.blk (by decide) (by rw [← e]; exact hg'))),
    row_same (row_grown h.roww hg (fun g hg' e => rows_ne h.roww h.rowr (by decide) hg' e.symm)) (fun g hg' => setCell_other w' _ _ _ (fun e => row_ne h.roww h.blk (by decide) (by rw [← e]; exact hg'))), ?_, h.used, h.dp, h.dw, fun k hk => ?_, h.town.below hB, h.plan.below hB⟩
  · obtain ⟨ha1, hc1, h1, h2⟩ := h.pt i hi
    exact ⟨ha1, hc1, (ho _ (lt_of_heap h1) (cells_ne h1 h.blk (by decide)) (nr h1 (by decide))).trans h1, h2.below (ek_hop B) hB⟩
  · simp only [List.length_append, List.length_cons, List.length_nil, List.map_append, List.map_cons, List.map_nil]
    exact row_same hr (fun g hg' => setCell_other w' _ _ _ (fun e => row_ne hr hrb (by decide) (by rw [← e]; exact hg')))
  · rcases hk with h1 | h1 | h1 | h1 | h1 | h1
    · rw [h1]; exact hlrb
    · exact h.lo k (.inr (.inl h1))
    · exact h.lo k (.inr (.inr (.inl h1)))
    · exact h.lo k (.inr (.inr (.inr (.inl h1))))
    · exact h.lo k (.inr (.inr (.inr (.inr (.inl h1)))))
    · exact (hr.lt k h1).1

end Go.Proofs.Ytjoihijlcpnhoaa
namespace Go.Proofs.Ytjoihijlcpnhoaa
open Go.RowKit
open Go.ChangeMaps (setBlock)

theorem info_part {P : Program} {e : TypeId} {z : Value} {a b : Nat} (h : (P.info? e).map (fun i => (i.zero, i.size, i.bytes)) = some (some z, a, b)) : ∃ i, P.info? e = some i ∧ i.zero = some z ∧ i.size = a ∧ i.bytes = b := by
  cases hi : P.info? e with
  | none => rw [hi] at h; cases h
  | some i =>
    rw [hi] at h
    simp only [Option.map_some, Option.some.injEq, Prod.mk.injEq] at h
    exact ⟨i, rfl, h.1, h.2.1, h.2.2⟩
theorem infoInt : (Try.prog.info? 3).map (fun i => (i.zero, i.size, i.bytes)) = some (some (.int .i64 0), 1, 8) := by kernel_rfl
theorem infoPP : (Try.prog.info? 162).map (fun i => (i.zero, i.size, i.bytes)) = some (some (.pointer none), 1, 8) := by kernel_rfl
theorem infoPW : (Try.prog.info? 170).map (fun i => (i.zero, i.size, i.bytes)) = some (some (.pointer none), 1, 8) := by kernel_rfl

/-- One element more, of one cell. -/
theorem append_one {ops : Array Oper} {rest : List Oper} {o : Oper} {a : Act} {Q : Exit → Act → World → Prop} {w : World} (hgd : o.guard = none) (so xo : Operand) (t e : TypeId) (z : Value) (ho : o.op = .call { callee := .builtin .append, args := #[so, xo], argTypes := #[t, t] })
    (hinfo : (Try.prog.info? e).map (fun i => (i.zero, i.size, i.bytes)) = some (some z, 1, 8)) (ht : Try.prog.underlying t = some (.slice e)) (hz : z.cells.size = 1)
    (base : Nat) (v : Value) (n : Nat) (xs : List Value) (hs : a.eval so = v) (hown : w.ownsRow base e 1 v n xs) (q c : Nat) (u : Value) (hx : a.eval xo = .slice (some ⟨q, 0, none⟩) 1 c) (hq : w.heap[q]? = some (.cells #[u] e (0, 0))) (h1 : u.oneCell' = true) (hn : n ≤ 100000) (hbase : base ≤ w.heap.size)
    (hK : ∀ g cap w', w'.ownsRow base e 1 (.slice (some ⟨g, 0, none⟩) (n + 1) cap) (n + 1) (xs ++ [u]) → w.grownBy w' v.ownBlock → wpList Try.prog ops Q rest (a.put o.dst (.slice (some ⟨g, 0, none⟩) (n + 1) cap)) w') :
    wpList Try.prog ops Q (o :: rest) a w := by
  obtain ⟨i0, hinf, hz0, hz1, hz2⟩ := info_part hinfo
  refine wpList_append_lies _ hgd so xo t ho base e i0 z 1 8 ht hinf hz0 hz1 hz2 hz (by decide) v n xs hs hown ⟨q, 0, none⟩ 1 c [u] hx rfl (World.news_of_block hq) (by simpa using h1) (by omega) (by unfold maxLen; omega) (by omega) hbase w.heap.size rfl ?_
  intro g cap w' hown' hgrow _ _
  exact hK _ _ _ hown' hgrow

/-- Blocks that are as they were. -/
def SameAt (S : List Nat) (w W : World) : Prop := ∀ b, b ∈ S → W.heap[b]? = w.heap[b]?
theorem SameAt.refl (S : List Nat) (w : World) : SameAt S w w := fun _ _ => rfl
theorem SameAt.cell {S : List Nat} {w W : World} (h : SameAt S w W) {b : Nat} (hb : b ∈ S) : ∀ o, W.cell? ⟨b, o, none⟩ = w.cell? ⟨b, o, none⟩ := fun o => World.cell?_of_block (a := ⟨b, o, none⟩) (h b hb)
theorem SameAt.frozen {S : List Nat} {w W : World} (h : SameAt S w W) {b : Nat} (hb : b ∈ S) : ∀ o, W.frozen? ⟨b, o, none⟩ = w.frozen? ⟨b, o, none⟩ := fun o => World.frozen?_of_block (a := ⟨b, o, none⟩) (h b hb)
theorem SameAt.alloc {S : List Nat} {w W : World} (h : SameAt S w W) (hS : ∀ b, b ∈ S → b < W.heap.size) (o : Obj) : SameAt S w (W.alloc o) := fun b hb => ((bl_alloc (Below.refl _ _) _).block b (hS b hb)).trans (h b hb)
theorem SameAt.grown {S : List Nat} {w W W' : World} (h : SameAt S w W) (hS : ∀ b, b ∈ S → b < W.heap.size) {row : Option Nat} (hg : W.grownBy W' row) (hn : ∀ b, b ∈ S → some b ≠ row) : SameAt S w W' := fun b hb => (hg.block b (hS b hb) (hn b hb)).trans (h b hb)
theorem SameAt.drew {S : List Nat} {w W : World} (h : SameAt S w W) : SameAt S w W.drew := h

theorem Sl.mono {α : Type} {E E' : World → Nat → Nat → α → Prop} {sz B B' : Nat} {w : World} {a : Option Addr} {l : List α} (h : Sl E sz B w a l) (hB : B ≤ B') (hE : ∀ b o x, E w b o x → E' w b o x) : Sl E' sz B' w a l :=
  ⟨h.1, fun k hk => let ⟨b, off, ha, hb, he⟩ := h.2 k hk; ⟨b, off, ha, by omega, hE _ _ _ he⟩⟩
theorem TownM.mono {B B' : Nat} {w : World} {a1 a2 a3 a4 : Option Addr} {T : Town} (h : TownM B w a1 a2 a3 a4 T) (hB : B ≤ B') : TownM B' w a1 a2 a3 a4 T :=
  ⟨h.places.mono hB (fun _ _ _ e => e), h.ways.mono hB (fun _ _ _ e => e), h.groups.mono hB (fun _ _ _ e => e), h.vehicles.mono hB (fun _ _ _ e => e)⟩
theorem PlanM.mono {B B' : Nat} {w : World} {p1 p2 : Option Addr} {p : Plan} (h : PlanM B w p1 p2 p) (hB : B ≤ B') : PlanM B' w p1 p2 p :=
  ⟨h.trips.mono hB (fun _ _ _ ⟨a, c, e1, e2, e3, e4, e5⟩ => ⟨a, c, e1, e2, e3, e4, e5.mono hB (fun _ _ _ e => e)⟩), h.rides.mono hB (fun _ _ _ ⟨a, c, a', c', e1, e2, e3, e4, e5⟩ => ⟨a, c, a', c', e1, e2, e3, e4.mono hB (fun _ _ _ e => e), e5.mono hB (fun _ _ _ e => e)⟩)⟩
theorem CaseM.mono {B B' : Nat} {w : World} {l1 l2 l3 l4 : Option Addr} {c : Case} (h : CaseM B w l1 l2 l3 l4 c) (hB : B ≤ B') : CaseM B' w l1 l2 l3 l4 c :=
  ⟨h.late.mono hB (fun _ _ _ e => e), h.absent.mono hB (fun _ _ _ e => e), h.rides.mono hB (fun _ _ _ e => e), h.broken.mono hB (fun _ _ _ e => e)⟩

def encI (n : Int) : Value := .int .i64 n
theorem int_ok : KeyOK Try.prog 3 I64 encI := ⟨Maps.int_keyed Try.underlying3, fun _ h => ⟨_, Maps.keyOf_int_mk Try.underlying3 (wf_i64 h)⟩, fun a b h => by unfold encI at h; simpa using h⟩

/-- How often each vehicle was met among the first k rides. -/
def mlook (m : List (Int × Int)) (v : Int) : Int := (mget m v).getD 0
def metL (l : List Ride) : Nat → List (Int × Int)
  | 0 => []
  | k + 1 => mput (metL l k) (l.getD k ⟨0, [], []⟩).vehicle (mlook (metL l k) (l.getD k ⟨0, [], []⟩).vehicle + 1)
theorem mlook_mput (m : List (Int × Int)) (x y n : Int) : mlook (mput m x n) y = if y = x then n else mlook m y := by
  unfold mlook
  rw [mget_mput]
  split <;> rfl
theorem metL_le (l : List Ride) : ∀ k, k ≤ l.length → ∀ v, 0 ≤ mlook (metL l k) v ∧ mlook (metL l k) v ≤ k ∧ ((mlook (metL l k) v == 0) = !(l.take k).any (fun y => y.vehicle == v))
  | 0, _, v => by simp [metL, mlook, mget]
  | k + 1, hk, v => by
    have hk' : k < l.length := by omega
    have e : l.getD k ⟨0, [], []⟩ = l[k] := by rw [List.getD_eq_getElem?_getD, List.getElem?_eq_getElem hk']; rfl
    obtain ⟨h1, h2, h3⟩ := metL_le l k (by omega) v
    rw [List.take_succ_eq_append_getElem hk', List.any_append]
    unfold metL
    rw [mlook_mput, e]
    by_cases hv : v = l[k].vehicle
    · obtain ⟨g1, g2, _⟩ := metL_le l k (by omega) l[k].vehicle
      rw [if_pos hv]
      refine ⟨by omega, by omega, ?_⟩
      have hb : (l[k].vehicle == v) = true := by simp [hv]
      simp only [List.any_cons, List.any_nil, hb, Bool.or_true, Bool.true_or, Bool.not_true]
      simp
      omega
    · rw [if_neg hv]
      refine ⟨h1, by omega, ?_⟩
      have hb : (l[k].vehicle == v) = false := by simp [Ne.symm hv]
      simp only [List.any_cons, List.any_nil, hb, Bool.or_false]
      exact h3
theorem metL_good {T : Town} {l : List Ride} (h : ∀ x ∈ l, RideG T x) (hv : (T.vehicles.length : Int) ≤ 1000) : ∀ k, k ≤ l.length → GoodKeys I64 (metL l k) ∧ ((metL l k).map Prod.fst).Nodup
  | 0, _ => ⟨GoodKeys.nil, by simp [metL]⟩
  | k + 1, hk => by
    have hk' : k < l.length := by omega
    have e : l.getD k ⟨0, [], []⟩ = l[k] := by rw [List.getD_eq_getElem?_getD, List.getElem?_eq_getElem hk']; rfl
    obtain ⟨h1, h2⟩ := metL_good h hv k (by omega)
    have hr := h _ (List.getElem_mem hk')
    unfold metL
    exact ⟨h1.mput (by rw [e]; unfold I64; have := hr.vehicle; omega), Apart.mput h2⟩

/-- 'm[k] = v' at its operation, for the walk. -/
theorem wpList_mapUpdate_run {P : Program} (w w1 : World) {ops : Array Oper} {rest : List Oper} {o : Oper} {a : Act} {Q : Exit → Act → World → Prop}
    (hg : o.guard = none) (m x v : Operand) (t : TypeId) (hop : o.op = Op.mapUpdate t m x v) (mv kv vv : Value) (hm : a.eval m = mv) (hx : a.eval x = kv) (hv : a.eval v = vv)
    (hrun : (Instr.mapUpdate t mv kv vv).run P w = .ok () w1) (hK : wpList P ops Q rest (a.put o.dst undef) w1) : wpList P ops Q (o :: rest) a w := by
  refine wpList_plain hg fun K' hK' => ?_
  unfold Oper.wp
  simp [execOp, hop, hm, hx, hv, hrun, Result.andThen]
  exact hK' _ _ hK

theorem tripParties_snoc (T : Town) (c : Case) (l : List Trip) (k : Nat) (h : k < l.length) : tripParties T c (l.take (k + 1)) = tripParties T c (l.take k) ++ [tripParty T c k l[k]] := by
  unfold tripParties
  rw [List.take_succ_eq_append_getElem h, List.mapIdx_append]
  simp [Nat.min_eq_left (Nat.le_of_lt h)]

end Go.Proofs.Ytjoihijlcpnhoaa
namespace Go.Proofs.Ytjoihijlcpnhoaa
open Go.RowKit

theorem build_trip (ah : Option Addr) (n m : Nat) (b1 b2 b3 b4 b5 b6 b7 b8 b9 : Int) (w : World) :
    (Instr.build 168 #[(0, .agg #[.slice ah n m, .int .i64 b1, .int .i64 b2, .int .i64 b3, .int .i64 b4]), (2, .int .i64 b5), (3, .int .i64 b6), (4, .int .i64 b7), (7, .int .i64 b8), (8, .int .i64 b9)]).run Try.prog w =
      .ok (.agg #[.slice ah n m, .int .i64 b1, .int .i64 b2, .int .i64 b3, .int .i64 b4, .bool false, .int .i64 b5, .int .i64 b6, .int .i64 b7, .bool false, .bool false, .int .i64 b8, .int .i64 b9]) w := run_build w _ _ _ (by kernel_rfl)
theorem build_ride (ah : Option Addr) (n m : Nat) (b1 b2 b3 b4 b5 b6 : Int) (b7 : Bool) (w : World) :
    (Instr.build 168 #[(0, .agg #[.slice ah n m, .int .i64 b1, .int .i64 b2, .int .i64 b3, .int .i64 b4]), (1, .bool true), (2, .int .i64 b5), (3, .int .i64 b6), (5, .bool b7)]).run Try.prog w =
      .ok (.agg #[.slice ah n m, .int .i64 b1, .int .i64 b2, .int .i64 b3, .int .i64 b4, .bool true, .int .i64 b5, .int .i64 b6, .int .i64 0, .bool b7, .bool false, .int .i64 0, .int .i64 0]) w := run_build w _ _ _ (by kernel_rfl)
theorem build_wait (b1 b2 b3 b4 b5 : Int) (w : World) :
    (Instr.build 172 #[(0, .int .i64 b1), (1, .int .i64 b2), (2, .int .i64 b3), (3, .int .i64 b4), (4, .int .i64 b5)]).run Try.prog w =
      .ok (.agg #[.int .i64 b1, .int .i64 b2, .int .i64 b3, .int .i64 b4, .int .i64 b5, .bool false]) w := run_build w _ _ _ (by kernel_rfl)
theorem build_course (ah : Option Addr) (n m : Nat) (b1 b2 b3 : Int) (w : World) :
    (Instr.build 165 #[(0, .slice ah n m), (1, .int .i64 b1), (2, .int .i64 b2), (3, .int .i64 b3)]).run Try.prog w = .ok (.agg #[.slice ah n m, .int .i64 b1, .int .i64 b2, .int .i64 b3, .int .i64 0]) w := run_build w _ _ _ (by kernel_rfl)

theorem wp_op_build {P : Program} {o : Oper} {a : Act} {w : World} {K : Act → World → Prop} {Q : Exit → Act → World → Prop} (t : TypeId) (parts : Array (Nat × Operand)) (ho : o.op = .build t parts) (vals : Array (Nat × Value)) (cells : Array Value) (hrun : ∀ w, (Instr.build t vals).run P w = .ok (.agg cells) w)
    (hv : parts.toList.map (fun (i, x) => (i, a.eval x)) = vals.toList) (h : K (a.put o.dst (.agg cells)) w) : o.wp P a w K Q := by
  unfold Oper.wp execOp
  have hv' : parts.map (fun (i, x) => (i, a.eval x)) = vals := Array.ext' (by rw [Array.toList_map]; exact hv)
  simp only [ho]
  rw [hv']
  simp only [Sem.run_bind, hrun, Result.andThen_ok]
  exact h

open Go.ChangeMaps (setBlock) in
theorem met_put {w : World} {b : Nat} {l : List (Int × Int)} (h : MapE encI intV w b l) (hg : GoodKeys I64 l) (ha : (l.map Prod.fst).Nodup) (v n : Int) (hv : I64 v) :
    ∃ w', (Instr.mapUpdate 38 (.map (some b)) (.int .i64 v) (.int .i64 n)).run Try.prog w = .ok () w' ∧ MapE encI intV w' b (mput l v n) ∧ (∀ i, i ≠ b → w'.heap[i]? = w.heap[i]?) ∧ (w'.os = w.os ∧ w'.tape = w.tape ∧ w'.output = w.output ∧ w'.heap.size = w.heap.size) := by
  obtain ⟨o, h1, h2, h3⟩ := MapE.put int_ok Try.underlying38 h hg ha v hv n
  exact ⟨_, h1, h2, h3, rfl, rfl, rfl, size_setBlock _ _ _⟩
theorem met_look {w : World} {b : Nat} {l : List (Int × Int)} (h : MapE encI intV w b l) (hg : GoodKeys I64 l) (ha : (l.map Prod.fst).Nodup) (v : Int) (hv : I64 v) :
    (Instr.lookup 38 (.map (some b)) (.int .i64 v) false).run Try.prog w = .ok (.int .i64 (mlook l v)) w := by
  have h1 := MapE.look int_ok Try.underlying38 h hg ha (zero_int w) v hv false
  refine h1.trans ?_
  unfold mlook
  cases mget l v <;> rfl

theorem row_ne_map {w : World} {base n size : Nat} {e : TypeId} {v : Value} {xs : List Value} (hr : w.ownsRow base e size v n xs) {κ β : Type} {enc : κ → Value} {vl : β → Value} {m : Nat} {l : List (κ × β)} (hm : MapE enc vl w m l) : some m ≠ v.ownBlock := by
  intro h
  rcases hr.2 with ⟨rfl, _⟩ | ⟨g', cap, cur, rfl, _, hgc, _⟩
  · simp [Value.ownBlock] at h
  · have e : m = g' := by simpa [Value.ownBlock] using h
    exact map_ne hgc hm e.symm
/-- A map is written that is not the run's. -/
theorem RunM.mapset {T : Town} {a1 a2 a3 a4 : Option Addr} {c1 c2 c3 c4 : Nat} {p : Plan} {p1 p2 : Option Addr} {d1 d2 B : Nat} {A : RA} {w w' : World} {r : RunS} {s : Int} (h : RunM T a1 a2 a3 a4 c1 c2 c3 c4 p p1 p2 d1 d2 B A w r s none) {κ β : Type} {enc : κ → Value} {vl : β → Value} {m : Nat} {l : List (κ × β)}
    (hm : MapE enc vl w m l) (ho : ∀ i, i ≠ m → w'.heap[i]? = w.heap[i]?) (hB : Below B w w') : RunM T a1 a2 a3 a4 c1 c2 c3 c4 p p1 p2 d1 d2 B A w' r s none := by
  have row : ∀ {base n size : Nat} {e : TypeId} {v : Value} {xs : List Value}, w.ownsRow base e size v n xs → ∀ g, v.ownBlock = some g → g ≠ m := by
    intro base n size e v xs hr g hg
    rcases hr.2 with ⟨rfl, _⟩ | ⟨g', cap, cur, rfl, _, hgc, _⟩
    · simp [Value.ownBlock] at hg
    · obtain rfl : g' = g := by simpa [Value.ownBlock] using hg
      exact map_ne hgc hm
  refine h.same (fun q hq => ho q ?_) (fun m hm => by cases hm) (Below.lone hB)
  rcases hq with rfl | ⟨i, hi, rfl⟩ | ⟨j, hj, rfl⟩ | hq | hq | hq
  · exact map_ne h.blk hm
  · obtain ⟨_, _, h1, _⟩ := h.pt i hi; exact map_ne h1 hm
  · exact map_ne (h.wt j hj) hm
  · exact row h.rowp q hq
  · exact row h.roww q hq
  · exact row h.rowr q hq

end Go.Proofs.Ytjoihijlcpnhoaa
