/- The plain law of DrillReplayed: an entry with one number changed is another one. -/
import Derived.Test.YtjoihijlcpnhoaaReplay
import Derived.IntWalk
import Derived.Test.YtjoihijlcpnhoaaLogC
import Derived.Test.YtjoihijlcpnhoaaOrdT
import Derived.WalkKit
import Derived.Great.BuildSlice
namespace Go.Proofs.Ytjoihijlcpnhoaa

theorem wrap_more (n : Int) : IntKind.i64.wrap (n + 1) ≠ n := by
  rw [IntKind.wrap_i64]
  omega
theorem wrap_less (n : Int) : IntKind.i64.wrap (n - 1) ≠ n := by
  rw [IntKind.wrap_i64]
  omega

/-- The entry with its number number j changed. -/
def wrongE (j : Nat) (e : Entry) : Entry :=
  match j with
  | 0 => { e with step := IntKind.i64.wrap (e.step + 1) }
  | 1 => { e with kind := IntKind.i64.wrap (e.kind + 1) }
  | 2 => { e with party := IntKind.i64.wrap (e.party - 1) }
  | 3 => { e with at_ := IntKind.i64.wrap (e.at_ + 1) }
  | _ => { e with people := IntKind.i64.wrap (e.people + 1) }
theorem wrongE_ne (j : Nat) (e : Entry) : e ≠ wrongE j e := by
  intro h
  match j with
  | 0 => exact wrap_more e.step (congrArg Entry.step h).symm
  | 1 => exact wrap_more e.kind (congrArg Entry.kind h).symm
  | 2 => exact wrap_less e.party (congrArg Entry.party h).symm
  | 3 => exact wrap_more e.at_ (congrArg Entry.at_ h).symm
  | _ + 4 => exact wrap_more e.people (congrArg Entry.people h).symm

end Go.Proofs.Ytjoihijlcpnhoaa
namespace Go.Proofs.Ytjoihijlcpnhoaa
open Go.RowKit

theorem info_parts {P : Program} {e : TypeId} {z : Value} {a b : Nat} (h : (P.info? e).map (fun i => (i.zero, i.size, i.bytes)) = some (some z, a, b)) : ∃ i, P.info? e = some i ∧ i.zero = some z ∧ i.size = a ∧ i.bytes = b := by
  cases hi : P.info? e with
  | none => rw [hi] at h; cases h
  | some i =>
    rw [hi] at h
    simp only [Option.map_some, Option.some.injEq, Prod.mk.injEq] at h
    exact ⟨i, rfl, h.1, h.2.1, h.2.2⟩

theorem logCells_length : ∀ l : List Entry, (logCells l).length = l.length * 5
  | [] => rfl
  | x :: l => by
    show (enCells x ++ logCells l).length = _
    rw [List.length_append, logCells_length l]
    simp [enCells]
    omega
theorem logCells_append (l m : List Entry) : logCells (l ++ m) = logCells l ++ logCells m := by simp [logCells]
theorem logCells_one : ∀ (l : List Entry), ∀ u ∈ logCells l, u.oneCell' = true := by
  intro l u hu
  simp only [logCells, List.mem_flatMap] at hu
  obtain ⟨e, _, hu⟩ := hu
  simp only [enCells, List.mem_cons, List.not_mem_nil, or_false] at hu
  rcases hu with rfl | rfl | rfl | rfl | rfl <;> rfl

theorem logCells_set : ∀ (l : List Entry) (k j : Nat) (e : Entry) (u : Value) (hk : k < l.length), j < 5 → enCells e = (enCells l[k]).set j u → (logCells l).set (k * 5 + j) u = logCells (l.set k e)
  | [], k, j, e, u, hk, _, _ => by simp at hk
  | x :: l, 0, j, e, u, _, hj, he => by
    show (enCells x ++ logCells l).set (0 * 5 + j) u = enCells e ++ logCells l
    rw [Nat.zero_mul, Nat.zero_add, List.set_append_left _ _ (by simpa [enCells] using hj), he]
    rfl
  | x :: l, k + 1, j, e, u, hk, hj, he => by
    have ih := logCells_set l k j e u (by simpa using hk) hj (by simpa using he)
    show (enCells x ++ logCells l).set ((k + 1) * 5 + j) u = enCells x ++ logCells (l.set k e)
    rw [List.set_append_right _ _ (by simp [enCells]; omega), ← ih]
    congr 2
    simp [enCells]
    omega

/-- The cells of a log that is read somewhere. -/
theorem log_news {B : Nat} {w : World} {ad : Addr} {l : List Entry} (h : Sl EntryE 5 B w (some ad) l) : ∀ j u, (logCells l)[j]? = some u → w.cell? (ad.add j) = some u := by
  intro j u hu
  have hj : j < l.length * 5 := by
    rw [← logCells_length]
    exact (List.getElem?_eq_some_iff.1 hu).1
  obtain ⟨k, i, rfl, hi⟩ : ∃ k i, j = k * 5 + i ∧ i < 5 := ⟨j / 5, j % 5, by omega, by omega⟩
  have hk : k < l.length := by omega
  obtain ⟨b, off, hab, _, e0, e1, e2, e3, e4⟩ := h.2 k hk
  obtain rfl : ad = ⟨b, off, none⟩ := by simpa using hab
  rw [logCells_get l k i _ (List.getElem?_eq_getElem hk) hi] at hu
  have hadd : (⟨b, off, none⟩ : Addr).add (k * 5 + i) = ⟨b, off + k * 5 + i, none⟩ := by unfold Addr.add; simp [Nat.add_assoc]
  rw [hadd, ← hu]
  match i, hi with
  | 0, _ => exact e0
  | 1, _ => exact e1
  | 2, _ => exact e2
  | 3, _ => exact e3
  | 4, _ => exact e4

/-- 'append(v, l...)'. -/
theorem append_log {ops : Array Oper} {rest : List Oper} {o : Oper} {a : Act} {Q : Exit → Act → World → Prop} {w : World} (hgd : o.guard = none) (so xo : Operand) (ho : o.op = .call { callee := .builtin .append, args := #[so, xo], argTypes := #[64, 64] })
    (base : Nat) (v : Value) (n : Nat) (xs : List Value) (hs : a.eval so = v) (hown : w.ownsRow base 69 5 v n xs) (am : Option Addr) (em B : Nat) (l : List Entry) (hx : a.eval xo = .slice am l.length em) (hl : Sl EntryE 5 B w am l) (hn : n + l.length ≤ 1000000000) (hbase : base ≤ w.heap.size)
    (hK : ∀ v' w', w'.ownsRow base 69 5 v' (n + l.length) (xs ++ logCells l) → w.grownBy w' v.ownBlock → (v'.ownBlock = v.ownBlock ∨ v'.ownBlock = some w.heap.size) → wpList Try.prog ops Q rest (a.put o.dst v') w') :
    wpList Try.prog ops Q (o :: rest) a w := by
  obtain ⟨i0, hinf, hz0, hz1, hz2⟩ := info_parts infoEn
  by_cases h0 : 0 < l.length
  · obtain ⟨b, off, rfl, _⟩ := hl.2 0 h0
    exact wpList_append_own_at _ hgd so xo _ ho base 69 i0 _ 5 40 Try.underlying64 hinf hz0 hz1 hz2 rfl (by decide) v n xs hs hown ⟨b, off, none⟩ l.length em (logCells l) hx (logCells_length l) (log_news hl) (logCells_one l) (by unfold maxLen; omega) (by omega) hbase
      (fun v' w' h1 h2 _ h3 => hK v' w' h1 h2 h3)
  · obtain rfl : l = [] := List.eq_nil_of_length_eq_zero (by omega)
    have hgr : w.grownBy w v.ownBlock := ⟨rfl, rfl, rfl, Nat.le_refl _, fun _ _ _ => rfl⟩
    cases am with
    | some ad =>
      exact wpList_append_own_at _ hgd so xo _ ho base 69 i0 _ 5 40 Try.underlying64 hinf hz0 hz1 hz2 rfl (by decide) v n xs hs hown ad 0 em [] hx rfl (fun j u h => by simp at h) (by simp) (by unfold maxLen; omega) (by omega) hbase
        (fun v' w' h1 h2 _ h3 => hK v' w' h1 h2 h3)
    | none =>
      refine wpList_plain hgd fun K hK' => ?_
      have hk := hK' _ _ (hK v w (by simpa [logCells] using hown) hgr (.inl rfl))
      unfold Oper.wp execOp
      rcases hown.2 with ⟨rfl, rfl⟩ | ⟨g, cap, cur, rfl, hbg, hg, hnc, hcm, hcs, htake⟩
      · simp only [ho, resolve, invoke, builtin, Sem.run_bind, Sem.run_pure, Result.andThen_ok, List.map_toArray, List.map_cons, List.map_nil, hs, hx]
        simpa [Builtin.append_, run_underlying Try.underlying64, sizeOf, typeInfo, hinf, hz1, Builtin.lenOf, Builtin.firstCells, loadCells, loadCellsFrom, Oper.upon] using hk
      · simp only [ho, resolve, invoke, builtin, Sem.run_bind, Sem.run_pure, Result.andThen_ok, List.map_toArray, List.map_cons, List.map_nil, hs, hx]
        simpa [Builtin.append_, run_underlying Try.underlying64, sizeOf, typeInfo, hinf, hz1, Builtin.lenOf, Builtin.firstCells, loadCells, loadCellsFrom, storeCells, hnc, Oper.upon] using hk

/-- The same in a region that draws its order. -/
theorem append_logO {ops : Array Oper} {e : Nat} {o : Oper} {a : Act} {w : World} {K : Act → World → Prop} (ho : ops[e]? = some o) (hg : o.guard = none) (so xo : Operand) (hop : o.op = .call { callee := .builtin .append, args := #[so, xo], argTypes := #[64, 64] }) (d : Option Tmp) (hd : o.dst = d)
    (base : Nat) (v : Value) (n : Nat) (xs : List Value) (hs : a.eval so = v) (hown : w.ownsRow base 69 5 v n xs) (am : Option Addr) (em B : Nat) (l : List Entry) (hx : a.eval xo = .slice am l.length em) (hl : Sl EntryE 5 B w am l) (hn : n + l.length ≤ 1000000000) (hbase : base ≤ w.heap.size)
    {a' : Value → Act} (ha : ∀ u, a.put d u = a' u)
    (hK : ∀ v' w', w'.ownsRow base 69 5 v' (n + l.length) (xs ++ logCells l) → w.grownBy w' v.ownBlock → (v'.ownBlock = v.ownBlock ∨ v'.ownBlock = some w.heap.size) → K (a' v') w') : wpOp Try.prog ops NoExit e K a w := by
  subst hd
  refine wpOp_eff ho (append_log hg so xo hop base v n xs hs hown am em B l hx hl hn hbase fun v' w' h1 h2 h3 => wpList_nil ?_)
  rw [ha]
  exact hK v' w' h1 h2 h3

/-- 'row[k].F++' in a row of entries. -/
theorem row_wrong {w : World} {base g cap : Nat} {l : List Entry} {k : Nat} (h : w.ownsRow base 69 5 (.slice (some ⟨g, 0, none⟩) l.length cap) l.length (logCells l)) (hk : k < l.length) (j : Nat) (hj : j < 5) (u : Value) (e : Entry) (he : enCells e = (enCells l[k]).set j u) :
    (w.setCell ⟨g, k * 5 + j, none⟩ u).ownsRow base 69 5 (.slice (some ⟨g, 0, none⟩) (l.set k e).length cap) (l.set k e).length (logCells (l.set k e)) := by
  have := h.stored (k * 5 + j) u
  rw [logCells_set l k j e u hk hj he] at this
  rw [List.length_set]
  exact this.1

theorem Sl.up {α : Type} {E : World → Nat → Nat → α → Prop} {sz B B' : Nat} {w : World} {a : Option Addr} {l : List α} (h : Sl E sz B w a l) (hB : B ≤ B') : Sl E sz B' w a l :=
  ⟨h.1, fun k hk => let ⟨b, off, ha, hb, he⟩ := h.2 k hk; ⟨b, off, ha, by omega, he⟩⟩

/-- The entry of zeros, in a block of its own. -/
theorem zero_sl {w : World} {g : Nat} (h : w.heap[g]? = some (.cells #[.int .i64 0, .int .i64 0, .int .i64 0, .int .i64 0, .int .i64 0] 69 (0, 0))) : Sl EntryE 5 w.heap.size w (some ⟨g, 0, none⟩) [⟨0, 0, 0, 0, 0⟩] := by
  refine ⟨by decide, fun k hk => ⟨g, 0, rfl, lt_of_heap h, ?_⟩⟩
  obtain rfl : k = 0 := by simpa using hk
  have c := cells_of h
  exact ⟨c 0, c 1, c 2, c 3, c 4⟩

theorem log_slG {w : World} {B : Nat} {v : Value} {l : List Entry} (h : w.ownsRow B 69 5 v l.length (logCells l)) (hl : l.length ≤ 1000000000) :
    ∃ a cap, v = .slice a l.length cap ∧ Sl EntryE 5 w.heap.size w a l := by
  by_cases h0 : l.length = 0
  · obtain ⟨a, cap, rfl⟩ := row_len h
    exact ⟨a, cap, rfl, by omega, fun k hk => by omega⟩
  · obtain ⟨g, cap, rfl, _, hg⟩ := h.form (by omega)
    refine ⟨some ⟨g, 0, none⟩, cap, rfl, by omega, fun k hk => ⟨g, 0, rfl, hg, ?_⟩⟩
    have c : ∀ j, j < 5 → w.cell? ⟨g, 0 + k * 5 + j, none⟩ = (enCells l[k])[j]? := fun j hj => by
      rw [Nat.zero_add]
      exact (h.cellAt (k * 5 + j) (by omega)).trans (logCells_get l k j _ (List.getElem?_eq_getElem hk) hj)
    exact ⟨c 0 (by omega), c 1 (by omega), c 2 (by omega), c 3 (by omega), c 4 (by omega)⟩

theorem Sl.takeN {α : Type} {E : World → Nat → Nat → α → Prop} {sz B : Nat} {w : World} {a : Option Addr} {l : List α} (h : Sl E sz B w a l) (n : Nat) : Sl E sz B w a (l.take n) :=
  ⟨by have := h.1; simp only [List.length_take]; omega, fun k hk => by
    have hk' : k < l.length := by simp only [List.length_take] at hk; omega
    obtain ⟨b, off, ha, hb, he⟩ := h.2 k hk'
    exact ⟨b, off, ha, hb, by rw [List.getElem_take]; exact he⟩⟩

theorem wrap_eq (n : Int) : IntKind.i64.wrap n = wrap64 n := by
  rw [IntKind.wrap_i64]
  unfold wrap64
  omega
/-- '[]Entry{{}}': a new row of one entry. -/
theorem entry_build {ops : Array Oper} {e : Nat} {o : Oper} {a : Act} {w : World} {K : Act → World → Prop} (ho : ops[e]? = some o) (hg : o.guard = none) (x : Operand) (hop : o.op = .buildSlice 64 1 #[(0, x)]) (d : Option Tmp) (hd : o.dst = d) (v0 v1 v2 v3 v4 : Int)
    (hp : a.eval x = .agg #[.int .i64 v0, .int .i64 v1, .int .i64 v2, .int .i64 v3, .int .i64 v4]) {a' : Act} (ha : a.put d (.slice (some ⟨w.heap.size, 0, none⟩) 1 1) = a') (h : K a' (w.alloc (.cells #[.int .i64 v0, .int .i64 v1, .int .i64 v2, .int .i64 v3, .int .i64 v4] 69))) : wpOp Try.prog ops NoExit e K a w := by
  obtain ⟨i0, hinf, hz0, hz1, _⟩ := info_parts infoEn
  subst hd ha
  refine wpOp_eff ho (wpList_buildSlice hg 64 69 1 _ hop #[.int .i64 v0, .int .i64 v1, .int .i64 v2, .int .i64 v3, .int .i64 v4] i0 _ Try.underlying64 hinf hz0 (by rw [hz1]; decide) (by rw [hz1]; decide) ?_ (wpList_nil ?_))
  · rw [hz1]
    simp only [List.map_toArray, List.map_cons, List.map_nil, hp]
    kernel_rfl
  · exact h
/-- A row's cells are as many as its slice can bear. -/
theorem row_bear {w : World} {base n size cap : Nat} {e : TypeId} {a : Option Addr} {xs : List Value} (h : w.ownsRow base e size (.slice a n cap) n xs) : n ≤ cap := by
  rcases h.2 with ⟨hv, h0⟩ | ⟨g, cap', cur, hv, _, _, hc, _⟩
  · omega
  · simp only [Value.slice.injEq] at hv
    omega

end Go.Proofs.Ytjoihijlcpnhoaa
