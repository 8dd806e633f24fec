/- slices.Collect over the entries of a run. -/
import Derived.Test.YtjoihijlcpnhoaaDrL2
import Derived.Test.YtjoihijlcpnhoaaLogC
import Derived.OwnWalkIn
namespace Go.Proofs.Ytjoihijlcpnhoaa
open Go.RowKit Go.Shelf
attribute [local go_sem] Oper.semAt_some

theorem IterW.later {α : Type} {N : Nat} {P : Program} {g : Nat} {lb : Array Value} {encs : α → Array Value} {O1 O2 : Nat → Prop} {xs : List α} {w0 w1 : World} (h : IterW N P g lb encs O1 O2 xs w0) (hb : Below w0.heap.size w0 w1) : IterW N P g lb encs O1 O2 xs w1 :=
  fun l J Jx W Q hY hW hj hQ => h l J Jx W Q hY (bl_step hb hW) hj hQ

theorem wpListIn_append_lies {F : Fence} {n : Nat} {P : Program} (w : World) {ops : Array Oper} {rest : List Oper} {o : Oper} {a : Act} {Q : Exit → Act → World → Prop}
    (hg : o.guard = none) (s x : Operand) (t : TypeId) (hop : o.op = Op.call { callee := Callee.builtin Builtin.append, args := #[s, x], argTypes := #[t, t] })
    (base : Nat) (e : TypeId) (i : TypeInfo) (z : Value) (size bytes : Nat) (h1 : P.underlying t = some (.slice e)) (h2 : P.info? e = some i) (h3 : i.zero = some z) (h4 : i.size = size) (h5 : i.bytes = bytes) (h6 : z.cells.size = size) (h7 : 0 < size)
    (v : Value) (k : Nat) (xs : List Value) (hs : a.eval s = v) (hown : w.ownsRow base e size v k xs) (ad : Addr) (m c : Nat) (news : List Value) (hx : a.eval x = .slice (some ad) m c) (hn : news.length = m * size)
    (hc : ∀ j u, news[j]? = some u → w.cell? (ad.add j) = some u) (h1c : ∀ u ∈ news, u.oneCell' = true) (hm : 0 < m) (b1 : k + m ≤ maxLen) (b2 : (k + m) * bytes ≤ 140737488355328) (b3 : base ≤ w.heap.size)
    (hK : ∀ g cap w', w'.ownsRow base e size (.slice (some ⟨g, 0, none⟩) (k + m) cap) (k + m) (xs ++ news) → w.grownBy w' v.ownBlock → (v.ownBlock = some g ∨ g = w.heap.size) → wpListIn F n P ops Q rest (a.put o.dst (.slice (some ⟨g, 0, none⟩) (k + m) cap)) w') :
    wpListIn F n P ops Q (o :: rest) a w := by
  refine wpListIn_plain hg fun K hK' => ?_
  obtain ⟨g, cap, w', hrun, r1, r2, r3, _⟩ := run_append_lies (P := P) w t o.type base e i z size bytes h1 h2 h3 h4 h5 h6 h7 v k xs hown ad m c news hn hc h1c hm b1 b2 b3 w.heap.size rfl
  unfold Oper.wpIn
  refine ⟨?_, ?_⟩
  · simp [Oper.about, hop, resolve, Target.leads, Sem.run_pure]
  · rw [Oper.semAt_plain F _ _ (by rw [hop]; intro c hc'; cases hc')]
    simp [execOp, hop, resolve, invoke, builtin, hs, hx, hrun, Result.andThen]
    exact hK' _ _ (hK g cap w' r1 r2 r3)

/-- What AppendSeq keeps: its box, and the row. -/
def ApI (base sb : Nat) (s : List Entry) (R : Nat → Prop) (W : World) : Prop :=
  ∃ v, (∀ q, R q ↔ q = sb ∨ v.ownBlock = some q) ∧ W.heap[sb]? = some (.cells #[v] 64 (0, 0)) ∧ W.ownsRow base 69 5 v s.length (logCells s)

set_option maxHeartbeats 8000000 in
set_option maxRecDepth 100000 in
theorem appendSeq_any {N : Nat} (gf : Nat) (lb : Array Value) (xs : List Entry) (O1 O2 : Nat → Prop) (w : World) (hit : IterW N Try.prog gf lb (fun e => #[encEn e]) O1 O2 xs w) (hNw : N ≤ w.heap.size) (hO1 : ∀ q, O1 q → q < w.heap.size) (eg : ∀ args w, (callFunc gf args).run Try.prog w = .ok (.enter gf args) w) :
    Calls Try.prog 64 #[.slice none 0 0, .func (.func gf) #[] lb] w
      fun e w' => ∃ v, e = .returned v ∧ w'.ownsRow w.heap.size 69 5 v xs.length (logCells xs) ∧ KeepsP O2 w w' := by
  have HIT := Lib.hid hit
  clear hit
  refine (callsIn_wide (n := 5)).1 ?_
  refine callsIn_of_wp_marks Try.func64 rfl trivial ?_ rfl
  simp only [Try.ntmps64, List.size_toArray, List.length_cons, List.length_nil, Nat.reduceAdd, Nat.reduceSub, Array.replicate_succ, Array.replicate_zero, List.push_toArray, List.append_toArray, List.nil_append, List.cons_append]
  refine wpIn_wide.2 ?_
  go_wp2_with fail
  obtain ⟨sb, hsb⟩ : ∃ q, w.heap.size = q := ⟨_, rfl⟩
  obtain ⟨wb, hwb⟩ : ∃ W, w.alloc (.cells #[.slice none 0 0] 64) = W := ⟨_, rfl⟩
  have hbb : Below w.heap.size w wb := by rw [← hwb]; exact bl_alloc (Below.refl _ _) _
  have hs0 : wb.heap[sb]? = some (.cells #[.slice none 0 0] 64 (0, 0)) := by rw [← hwb, ← hsb]; exact heap_alloc_at _ _
  have hsl0 := lt_of_heap hs0
  rw [hwb, hsb]
  clear hwb
  have Hhbb := Lib.hid hbb; clear hbb; have Hhs0 := Lib.hid hs0; clear hs0
  refine (wpIn_wide (n := 5)).1 ?_
  refine rangeNote (by omega) (gf := gf) (lb := lb) rfl eg (encs := fun e => #[encEn e]) (fun _ => rfl) (O1 := O1) (O2 := O2) (xs := xs) (HIT.out.later Hhbb.out) (by have := Hhbb.out.size; omega) (fun q h => by have := hO1 q h; have := Hhbb.out.size; omega)
    (ApI sb sb) (fun _ _ _ _ => False) ?hI ?hIl ?hIo (fun _ _ _ _ _ h _ _ _ => h.elim) (fun _ _ _ _ _ h _ => h.elim) (fun _ _ _ _ _ h _ => h.elim) (fun q => q = sb) ?h0 (fun q h e => by have := hO1 q e; omega) ?round ?done (fun _ _ _ _ _ _ _ _ _ h _ => h.elim)
  case hI =>
    rintro s R W W' ⟨v, h1, h2, h3⟩ hR _ hs
    exact ⟨v, h1, (hR sb ((h1 sb).2 (.inl rfl))).trans h2, row_same h3 (fun g hg => hR g ((h1 g).2 (.inr hg)))⟩
  case hIl =>
    rintro s R W q ⟨v, h1, h2, h3⟩ hq
    rcases (h1 q).1 hq with rfl | h
    · exact lt_of_heap h2
    · exact (h3.lt q h).2
  case hIo =>
    rintro s R W q ⟨v, h1, h2, h3⟩ hq
    rcases (h1 q).1 hq with rfl | h
    · exact .inr ⟨_, _, _, h2⟩
    · exact .inl (by have := (h3.lt q h).1; omega)
  case h0 => exact ⟨.slice none 0 0, fun q => by simp [Value.ownBlock], Hhs0.out, ⟨rfl, .inl ⟨rfl, rfl⟩⟩⟩
  case round =>
    rintro l pre x R W K o hlen hl hlo hnR ⟨v, hRq, hsW, hrow⟩ hbody
    have HB := Lib.hid hbody
    clear hbody
    have hsR : R sb := (hRq sb).2 (.inl rfl)
    have hslb : sb ≠ l := fun e => hnR (by rw [← e]; exact hsR)
    have hll := lt_of_heap hlo
    have hsWl := lt_of_heap hsW
    have hrows : ∀ g, v.ownBlock = some g → g ≠ l ∧ g < W.heap.size := fun g hg => ⟨fun e => hnR (by rw [← e]; exact (hRq g).2 (.inr hg)), (hrow.lt g hg).2⟩
    have HhRq := Lib.hid hRq; clear hRq; have HhsW := Lib.hid hsW; clear hsW; have Hhrow := Lib.hid hrow; clear hrow; have Hhlo := Lib.hid hlo; clear hlo; have HhnR := Lib.hid hnR; clear hnR; have Hhrows := Lib.hid hrows; clear hrows
    simp only [encEn]
    gi_wp2_with fail
    refine HB.out _ _ (KeepsP.of_below (bl_alloc (Below.refl _ _) _) R) (fun lo hlc => ?_)
    obtain ⟨W1, hW1⟩ : ∃ X, (W.alloc (.cells #[.int .i64 x.step, .int .i64 x.kind, .int .i64 x.party, .int .i64 x.at_, .int .i64 x.people] 69)).putObj l lo = X := ⟨_, rfl⟩
    obtain ⟨qx, hqx⟩ : ∃ q, W.heap.size = q := ⟨_, rfl⟩
    rw [hW1]
    have hWs : W1.heap.size = qx + 1 := by rw [← hW1, ← hqx]; simp
    have old : ∀ q, q < qx → q ≠ l → W1.heap[q]? = W.heap[q]? := fun q hq hn => by
      rw [← hW1]
      exact (World.putObj_heap_other hn).trans ((bl_alloc (Below.refl _ _) _).block q (by omega))
    have xs1 : W1.heap[sb]? = some (.cells #[v] 64 (0, 0)) := (old sb (by omega) hslb).trans HhsW.out
    have xx1 : W1.heap[qx]? = some (.cells #[.int .i64 x.step, .int .i64 x.kind, .int .i64 x.party, .int .i64 x.at_, .int .i64 x.people] 69 (0, 0)) := by
      rw [← hW1, ← hqx]
      exact (World.putObj_heap_other (show W.heap.size ≠ l by omega)).trans (heap_alloc_at _ _)
    have hrow1 : W1.ownsRow sb 69 5 v pre.length (logCells pre) := row_same Hhrow.out (fun g hg => old g (by have := (Hhrows.out g hg).2; omega) (Hhrows.out g hg).1)
    rw [hqx]
    clear hW1
    have c1 := cells_of xs1
    have l1 := lt_of_heap xs1
    have cx := cells_of xx1
    have lx := lt_of_heap xx1
    obtain ⟨W2, hW2⟩ : ∃ X, W1.alloc (.cells #[.int .i64 x.step, .int .i64 x.kind, .int .i64 x.party, .int .i64 x.at_, .int .i64 x.people] 69) = X := ⟨_, rfl⟩
    have x2 : W2.heap[qx + 1]? = some (.cells #[.int .i64 x.step, .int .i64 x.kind, .int .i64 x.party, .int .i64 x.at_, .int .i64 x.people] 69 (0, 0)) := by rw [← hW2, ← hWs]; exact heap_alloc_at _ _
    have hb2 : Below W1.heap.size W1 W2 := by rw [← hW2]; exact bl_alloc (Below.refl _ _) _
    have hrow2 := row_below hrow1 hb2
    have xs2 := heap_below hb2 xs1
    have hsl2 := lt_of_heap xs2
    obtain ⟨i0, hinf, hz0, hz1, hz2⟩ := info_part infoEn
    have Hxs1 := Lib.hid xs1; clear xs1; have Hxx1 := Lib.hid xx1; clear xx1; have Hhrow1 := Lib.hid hrow1; clear hrow1; have Hx2 := Lib.hid x2; clear x2; have Hhb2 := Lib.hid hb2; clear hb2; have Hhrow2 := Lib.hid hrow2; clear hrow2; have Hxs2 := Lib.hid xs2; clear xs2; have Hold := Lib.hid old; clear old; have Hhinf := Lib.hid hinf; clear hinf; have Hhz0 := Lib.hid hz0; clear hz0; have Hhz1 := Lib.hid hz1; clear hz1; have Hhz2 := Lib.hid hz2; clear hz2
    gi_wp2_with (gi_at_builtin; refine wpListIn_append_lies _ rfl _ _ 64 rfl sb 69 i0 _ 5 40 Try.underlying64 Hhinf.out Hhz0.out Hhz1.out Hhz2.out rfl (by decide) v pre.length (logCells pre) rfl Hhrow2.out ⟨qx + 1, 0, none⟩ 1 1 (enCells x) rfl rfl (World.news_of_block Hx2.out) (by simp [enCells, Value.oneCell']) (by omega) (by unfold maxLen; omega) (by omega) (by omega) ?_; intro g cap W3 hown hg hlie; have nsb : some sb ≠ v.ownBlock := fun e => row_ne Hhrow2.out Hxs2.out (by decide) e.symm; have xs3 := (hg.block sb hsl2 nsb).trans Hxs2.out; have c3 := cells_of xs3; have f3 := frozen_of xs3; have l3 := lt_of_heap xs3; have Hxs3 := Lib.hid xs3; clear xs3; have Hhown := Lib.hid hown; clear hown; have Hhg := Lib.hid hg; clear hg; have Hhlie := Lib.hid hlie; clear hlie)
    have hz : ∀ q, q < W1.heap.size → ¬ R q → (W3.setCell ⟨sb, 0, none⟩ (.slice (some ⟨g, 0, none⟩) (pre.length + 1) cap)).heap[q]? = W1.heap[q]? := fun q hq hn =>
      (setCell_other W3 sb 0 _ (fun e => hn (by rw [e]; exact hsR))).trans ((Hhg.out.block q (by have := Hhb2.out.size; omega) (fun e => hn ((HhRq.out q).2 (.inr e.symm)))).trans (Hhb2.out.block q hq))
    have hs3 := Hhg.out.size
    have hs2 := Hhb2.out.size
    have hsz : W1.heap.size ≤ (W3.setCell ⟨sb, 0, none⟩ (.slice (some ⟨g, 0, none⟩) (pre.length + 1) cap)).heap.size := by
      have e : (W3.setCell ⟨sb, 0, none⟩ (.slice (some ⟨g, 0, none⟩) (pre.length + 1) cap)).heap.size = W3.heap.size := by simp [World.setCell]
      omega
    have hgsb : g ≠ sb := fun e => row_ne Hhown.out Hxs3.out (by decide) (by rw [e]; rfl)
    refine ⟨⟨Hhg.out.os.trans Hhb2.out.os, Hhg.out.tape.trans Hhb2.out.tape, Hhg.out.output.trans Hhb2.out.output, hsz, hz⟩, fun q => q = sb ∨ q = g, fun q hq => ?_, .slice (some ⟨g, 0, none⟩) (pre.length + 1) cap, fun q => ?_, ?_, ?_⟩
    · rcases hq with rfl | rfl
      · exact .inl hsR
      · rcases Hhlie.out with h | h
        · exact .inl ((HhRq.out q).2 (.inr h))
        · exact .inr (by omega)
    · have e : ((Value.slice (some ⟨g, 0, none⟩) (pre.length + 1) cap).ownBlock = some q) ↔ q = g := by
        show (some g = some q) ↔ _
        rw [Option.some.injEq]
        exact eq_comm
      rw [e]
    · exact (heap_setCell_at Hxs3.out _).trans rfl
    · rw [logCells_snoc, show (pre ++ [x]).length = pre.length + 1 from by simp]
      exact row_same Hhown.out (fun g' hg' => setCell_other W3 sb 0 _ (fun e => by
        have e2 : g = g' := by simpa [Value.ownBlock] using hg'
        exact hgsb (e2.trans e)))
  case done =>
    rintro D R W hD hk hnD ⟨v, hRq, hsW, hrow⟩ hdef
    have c1 := cells_of hsW
    have l1 := lt_of_heap hsW
    have HhRq := Lib.hid hRq; clear hRq; have HhsW := Lib.hid hsW; clear hsW; have Hhrow := Lib.hid hrow; clear hrow; have Hhk := Lib.hid hk; clear hk; have Hhdef := Lib.hid hdef; clear hdef
    go_wp2_with fail
    refine ⟨by simp, .inl ⟨_, _, rfl, run_takeDeferred Hhdef.out, ?_⟩⟩
    have hbs := Hhbb.out.size
    have hks := Hhk.out.size
    have hnDo : ∀ g, v.ownBlock = some g → g ≠ D := fun g hg e => hnD ((HhRq.out D).2 (.inr (by rw [← e]; exact hg)))
    refine ⟨_, results_tmp rfl _ _ _, v, rfl, ?_, ⟨Hhk.out.os.trans Hhbb.out.os, Hhk.out.tape.trans Hhbb.out.tape, Hhk.out.output.trans Hhbb.out.output, by simp; omega, fun q hq hn => ?_⟩⟩
    · rw [hsb]
      exact row_same Hhrow.out (fun g hg => World.putObj_heap_other (hnDo g hg))
    · exact (World.putObj_heap_other (show q ≠ D by omega)).trans ((Hhk.out.block q (by omega) (fun h => by
        rcases h with h | h
        · exact hn h
        · omega)).trans (Hhbb.out.block q hq))

end Go.Proofs.Ytjoihijlcpnhoaa
