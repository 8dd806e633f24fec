/- drill: what logged notes with. -/
import Derived.Test.YtjoihijlcpnhoaaIterN
import Derived.Test.YtjoihijlcpnhoaaDrY
import Derived.Test.YtjoihijlcpnhoaaBgD
import Derived.Laws.EntriesVeiled
namespace Go.Proofs.Ytjoihijlcpnhoaa
open Go.RowKit Go.Shelf
attribute [local go_sem] Oper.semAt_some

def encEn (e : Entry) : Value := .agg #[.int .i64 e.step, .int .i64 e.kind, .int .i64 e.party, .int .i64 e.at_, .int .i64 e.people]

theorem encEn_eq (e : Entry) : encEn e = .agg #[.int .i64 e.step, .int .i64 e.kind, .int .i64 e.party, .int .i64 e.at_, .int .i64 e.people] := rfl

/-- The boxes of 'on' and of yield, beside what the consumer keeps. -/
def LogJ (l onb yb : Nat) (J Jx : World → (Nat → Prop) → List Entry → Prop) (w : World) (P : Nat → Prop) (s : List Entry) : Prop :=
  ∃ Q : Nat → Prop, (∀ q, P q ↔ Q q ∨ q = onb ∨ q = yb) ∧ ¬ Q onb ∧ ¬ Q yb ∧ w.heap[yb]? = some (.cells #[.func (.yield l) #[] #[]] 174 (0, 0)) ∧
    ((w.heap[onb]? = some (.cells #[.bool true] 4 (0, 0)) ∧ J w Q s) ∨ (w.heap[onb]? = some (.cells #[.bool false] 4 (0, 0)) ∧ ∃ pre, pre <+: s ∧ Jx w Q pre))

theorem enters_log2 : ∀ (args : Array Value) (w : World), (callFunc 66 args).run Try.prog w = .ok (.enter 66 args) w := by
  intro args w
  go_simp

theorem LogJ.fin {N l onb yb : Nat} {J Jx : World → (Nat → Prop) → List Entry → Prop} (hY : NoteY N Try.prog l (fun e => #[encEn e]) J Jx) (hNo : N ≤ onb) {w wa w3 w' : World} {P Q Q' : Nat → Prop} {s : List Entry} (b : Bool) (hP : ∀ q, P q ↔ Q q ∨ q = onb ∨ q = yb) (n1 : ¬ Q onb) (n2 : ¬ Q yb)
    (hy : w.heap[yb]? = some (.cells #[.func (.yield l) #[] #[]] 174 (0, 0))) {b0 : Bool} (ho : w.heap[onb]? = some (.cells #[.bool b0] 4 (0, 0))) (hba : Below w.heap.size w wa) (hk : KeepsP Q wa w3) (hgr : ∀ q, Q' q → Q q ∨ wa.heap.size ≤ q)
    (hj : (b = true ∧ J w3 Q' s) ∨ (b = false ∧ ∃ pre, pre <+: s ∧ Jx w3 Q' pre)) (hb4 : Below w3.heap.size (w3.setCell ⟨onb, 0, none⟩ (.bool b)) w') :
    (w'.os = w.os ∧ w'.tape = w.tape ∧ w'.output = w.output ∧ w.heap.size ≤ w'.heap.size) ∧ (∀ q, q < w.heap.size → ¬ P q → w'.heap[q]? = w.heap[q]?) ∧ ∃ P', LogJ l onb yb J Jx w' P' s ∧ ∀ q, P' q → P q ∨ w.heap.size ≤ q := by
  have hne : onb ≠ yb := cells_ne ho hy (by decide)
  have hol := lt_of_heap ho
  have hyl := lt_of_heap hy
  have hsa := hba.size
  have hsk := hk.size
  have hz : (w3.setCell ⟨onb, 0, none⟩ (.bool b)).heap.size = w3.heap.size := by simp [World.setCell]
  have hs4 := hb4.size
  have far : ∀ q, q < w.heap.size → ¬ Q q → w3.heap[q]? = w.heap[q]? := fun q hq hn => (hk.block q (by omega) hn).trans (hba.block q hq)
  have hq4 : ∀ q, q < w3.heap.size → q ≠ onb → w'.heap[q]? = w3.heap[q]? := fun q hq hn => (hb4.block q hq).trans (setCell_other _ _ _ _ hn)
  have m1 : ¬ Q' onb := fun e => by
    rcases hgr onb e with h | h
    · exact n1 h
    · omega
  have m2 : ¬ Q' yb := fun e => by
    rcases hgr yb e with h | h
    · exact n2 h
    · omega
  refine ⟨⟨hb4.os.trans (hk.os.trans hba.os), hb4.tape.trans (hk.tape.trans hba.tape), hb4.output.trans (hk.output.trans hba.output), by omega⟩, fun q hq hn => ?_, fun q => Q' q ∨ q = onb ∨ q = yb, ⟨Q', fun _ => Iff.rfl, m1, m2, ?_, ?_⟩, fun q hq => ?_⟩
  · have h1 : q ≠ onb := fun e => hn ((hP q).2 (.inr (.inl e)))
    have h2 : ¬ Q q := fun e => hn ((hP q).2 (.inl e))
    exact (hq4 q (by omega) h1).trans (far q hq h2)
  · exact (hq4 yb (by omega) (Ne.symm hne)).trans ((far yb hyl n2).trans hy)
  · have h0 : w'.heap[onb]? = some (.cells #[.bool b] 4 (0, 0)) := (hb4.block onb (by omega)).trans ((heap_setCell_at ((far onb hol n1).trans ho) (.bool b)).trans rfl)
    rcases hj with ⟨rfl, hj⟩ | ⟨rfl, pre, hpre, hj⟩
    · exact .inl ⟨h0, hY.stable _ _ _ _ hj (fun q hq => hq4 q (hY.lt _ _ _ _ hj hq) (fun e => m1 (by rw [← e]; exact hq))) (fun q hq => hq4 q (by omega) (by omega)) (by omega)⟩
    · exact .inr ⟨h0, pre, hpre, hY.stablex _ _ _ _ hj (fun q hq => hq4 q (hY.ltx _ _ _ _ hj hq) (fun e => m1 (by rw [← e]; exact hq))) (fun q hq => hq4 q (by omega) (by omega)) (by omega)⟩
  · rcases hq with h | h
    · rcases hgr q h with h | h
      · exact .inl ((hP q).2 (.inl h))
      · exact .inr (by omega)
    · exact .inl ((hP q).2 (.inr h))

set_option maxHeartbeats 4000000 in
set_option maxRecDepth 100000 in
theorem log_call {N l onb yb : Nat} {J Jx : World → (Nat → Prop) → List Entry → Prop} (hY : NoteY N Try.prog l (fun e => #[encEn e]) J Jx) (hNo : N ≤ onb) (w : World) (P : Nat → Prop) (s : List Entry) (e : Entry) (hJ : LogJ l onb yb J Jx w P s) (hlen : s.length ≤ 1000000000) :
    Calls Try.prog 66 (#[.agg #[.int .i64 e.step, .int .i64 e.kind, .int .i64 e.party, .int .i64 e.at_, .int .i64 e.people]] ++ #[.pointer (some ⟨onb, 0, none⟩), .pointer (some ⟨yb, 0, none⟩)]) w fun en w' =>
    (∃ u, en = .returned u) ∧ (w'.os = w.os ∧ w'.tape = w.tape ∧ w'.output = w.output ∧ w.heap.size ≤ w'.heap.size) ∧ (∀ q, q < w.heap.size → ¬ P q → w'.heap[q]? = w.heap[q]?) ∧ ∃ P', LogJ l onb yb J Jx w' P' (s ++ [e]) ∧ ∀ q, P' q → P q ∨ w.heap.size ≤ q := by
  obtain ⟨Q, hP, n1, n2, hy, hon⟩ := hJ
  have hyc := cells_of hy
  have hyl := lt_of_heap hy
  rcases hon with ⟨ho, hj⟩ | ⟨ho, pre, hpre, hj⟩
  · have hoc := cells_of ho
    have hof := frozen_of ho
    have hol := lt_of_heap ho
    have hEl := encEn_eq e
    obtain ⟨wa, hwa⟩ : ∃ W, w.alloc (.cells #[.int .i64 e.step, .int .i64 e.kind, .int .i64 e.party, .int .i64 e.at_, .int .i64 e.people] 69) = W := ⟨_, rfl⟩
    have hba : Below w.heap.size w wa := by rw [← hwa]; exact bl_alloc (Below.refl _ _) _
    have hja : J wa Q s := hY.stable _ _ _ _ hj (fun q hq => hba.block q (hY.lt _ _ _ _ hj hq)) (fun q hq => hba.block q (by omega)) hba.size
    obtain ⟨fn, tmps, assign, body, hy2, hR⟩ := anyDepthY (F := Fence.wide) rfl 2 (hY.call wa Q s e hja hlen)
    rw [hEl] at hy2
    rw [← hwa] at hy2 hR
    have Hhwa := Lib.hid hwa; clear hwa; have HhP := Lib.hid hP; clear hP; have Hhy := Lib.hid hy; clear hy; have Hho := Lib.hid ho; clear ho; have Hhj := Lib.hid hj; clear hj; have HhY := Lib.hid hY; clear hY; have Hhba := Lib.hid hba; clear hba; have Hhja := Lib.hid hja; clear hja; have HhEl := Lib.hid hEl; clear hEl
    go_enter Try.func66, Try.ntmps66
    refine (wpIn_wide (n := 3)).1 ?_
    gi_wp2_with fail
    refine hR.mono ?_
    rintro e2 w3 ⟨hk, Q', hgr, hfin⟩
    have hk3 : KeepsP Q wa w3 := by rw [← Hhwa.out]; exact hk
    have hgr3 : ∀ q, Q' q → Q q ∨ wa.heap.size ≤ q := by rw [← Hhwa.out]; exact hgr
    have hsz := Hhba.out.size
    have ho3 : w3.heap[onb]? = some (.cells #[.bool true] 4 (0, 0)) := (hk3.block onb (by omega) n1).trans ((Hhba.out.block onb hol).trans Hho.out)
    clear hoc hof hyc hk hgr hR hy2
    have hoc := cells_of ho3
    have hof := frozen_of ho3
    have hol3 := lt_of_heap ho3
    have Hho3 := Lib.hid ho3; clear ho3; have Hhk3 := Lib.hid hk3; clear hk3; have Hhgr3 := Lib.hid hgr3; clear hgr3
    rcases hfin with ⟨rfl, hj3⟩ | ⟨rfl, hj3⟩
    · have Hhj3 := Lib.hid hj3; clear hj3
      gi_wp2_with fail
      (try simp only [Exit.inBlock, Exit.then]); refine bodyPost_end (results_none rfl _ _ _) rfl ?_
      exact ⟨⟨_, rfl⟩, LogJ.fin HhY.out hNo true HhP.out n1 n2 Hhy.out Hho.out Hhba.out Hhk3.out Hhgr3.out (.inl ⟨rfl, Hhj3.out⟩) (Below.refl _ _)⟩
    · have Hhj3 := Lib.hid hj3; clear hj3
      gi_wp2_with fail
      (try simp only [Exit.inBlock, Exit.then]); refine bodyPost_end (results_none rfl _ _ _) rfl ?_
      exact ⟨⟨_, rfl⟩, LogJ.fin HhY.out hNo false HhP.out n1 n2 Hhy.out Hho.out Hhba.out Hhk3.out Hhgr3.out (.inr ⟨rfl, _, List.prefix_refl _, Hhj3.out⟩) (Below.refl _ _)⟩
  · have hoc := cells_of ho
    have hof := frozen_of ho
    have hol := lt_of_heap ho
    have HhP := Lib.hid hP; clear hP; have Hhy := Lib.hid hy; clear hy; have Hho := Lib.hid ho; clear ho; have Hhj := Lib.hid hj; clear hj; have Hhpre := Lib.hid hpre; clear hpre; have HhY := Lib.hid hY; clear hY
    go_enter Try.func66, Try.ntmps66
    go_wp2_with fail
    (try simp only [Exit.inBlock, Exit.then]); refine bodyPost_end (results_none rfl _ _ _) rfl ?_
    have hz : (w.setCell ⟨onb, 0, none⟩ (.bool false)).heap.size = w.heap.size := by simp [World.setCell]
    exact ⟨⟨_, rfl⟩, LogJ.fin HhY.out hNo false HhP.out n1 n2 Hhy.out Hho.out (Below.refl _ _) (KeepsP.refl Q w) (fun q h => .inl h) (.inr ⟨rfl, pre, Hhpre.out.trans (List.prefix_append _ _), Hhj.out⟩) (by have := bl_alloc (Below.refl (w.setCell ⟨onb, 0, none⟩ (.bool false)).heap.size (w.setCell ⟨onb, 0, none⟩ (.bool false))) (.cells #[.int .i64 e.step, .int .i64 e.kind, .int .i64 e.party, .int .i64 e.at_, .int .i64 e.people] 69); rw [hz] at this; exact this)⟩

theorem log_note {N l onb yb : Nat} {J Jx : World → (Nat → Prop) → List Entry → Prop} (hY : NoteY N Try.prog l (fun e => #[encEn e]) J Jx) (hNo : N ≤ onb) : NoteC N 66 #[.pointer (some ⟨onb, 0, none⟩), .pointer (some ⟨yb, 0, none⟩)] (LogJ l onb yb J Jx) := by
  refine ⟨enters_log2, ?_, ?_, ?_, fun w P s e hJ hlen => log_call hY hNo w P s e hJ hlen⟩
  · rintro w w' P s ⟨Q, hP, n1, n2, hy, hon⟩ hq hqN hs
    have hQ : ∀ q, Q q → w'.heap[q]? = w.heap[q]? := fun q h => hq q ((hP q).2 (.inl h))
    have ho := hq onb ((hP onb).2 (.inr (.inl rfl)))
    refine ⟨Q, hP, n1, n2, (hq yb ((hP yb).2 (.inr (.inr rfl)))).trans hy, ?_⟩
    rcases hon with ⟨h1, h2⟩ | ⟨h1, pre, h2, h3⟩
    · exact .inl ⟨ho.trans h1, hY.stable _ _ _ _ h2 hQ hqN hs⟩
    · exact .inr ⟨ho.trans h1, pre, h2, hY.stablex _ _ _ _ h3 hQ hqN hs⟩
  · rintro w P s q ⟨Q, hP, n1, n2, hy, hon⟩ hq
    rcases (hP q).1 hq with h | rfl | rfl
    · rcases hon with ⟨_, h2⟩ | ⟨_, pre, _, h3⟩
      · exact hY.lt _ _ _ _ h2 h
      · exact hY.ltx _ _ _ _ h3 h
    · rcases hon with ⟨h1, _⟩ | ⟨h1, _⟩ <;> exact lt_of_heap h1
    · exact lt_of_heap hy
  · rintro w P s q ⟨Q, hP, n1, n2, hy, hon⟩ hq
    rcases (hP q).1 hq with h | rfl | rfl
    · rcases hon with ⟨_, h2⟩ | ⟨_, pre, _, h3⟩
      · exact hY.lone _ _ _ _ h2 h
      · exact hY.lonex _ _ _ _ h3 h
    · exact .inl hNo
    · exact .inr ⟨_, _, _, hy⟩

/-- A run that notes nothing. -/
theorem none_note {N : Nat} : NoteC N 61 #[] (fun _ P _ => ∀ q, ¬ P q) := by
  refine ⟨?_, fun _ _ _ _ h _ _ _ => h, fun _ _ _ q h hq => absurd hq (h q), fun _ _ _ q h hq => absurd hq (h q), fun w P l e hJ _ => ?_⟩
  · intro args w
    go_simp
  · go_enter Try.func61, Try.ntmps61
    go_wp2_with fail
    (try simp only [Exit.inBlock, Exit.then]); refine bodyPost_end (results_none rfl _ _ _) rfl ?_
    have hb := bl_alloc (Below.refl w.heap.size w) (.cells #[.int .i64 e.step, .int .i64 e.kind, .int .i64 e.party, .int .i64 e.at_, .int .i64 e.people] 69)
    exact ⟨⟨_, rfl⟩, ⟨rfl, rfl, rfl, hb.size⟩, fun q hq _ => hb.block q hq, P, hJ, fun q h => .inl h⟩

end Go.Proofs.Ytjoihijlcpnhoaa
namespace Go.Proofs.Ytjoihijlcpnhoaa
open Go.RowKit Go.Shelf

set_option maxHeartbeats 8000000 in
set_option maxRecDepth 100000 in
theorem log_iter (T : Town) (a1 a2 a3 a4 : Option Addr) (c1 c2 c3 c4 : Nat) (p : Plan) (p1 p2 : Option Addr) (d1 d2 : Nat) (B : Nat) (A : RA) (w0 : World) (r : RunS) (n : Nat) (qr : Nat) (hG : TownG T) (hnt : p.trips.length ≤ 4096) (hr : RunM T a1 a2 a3 a4 c1 c2 c3 c4 p p1 p2 d1 d2 B A w0 r 0 none) (hR : RunG T r) (hl : r.log = []) (hn : T.steps = n) (hn2 : n ≤ 200)
    (hq : w0.heap[qr]? = some (.cells #[.pointer (some ⟨A.rb, 0, none⟩)] 106 (0, 0))) :
    IterW B Try.prog 65 #[.pointer (some ⟨qr, 0, none⟩)] (fun e => #[encEn e]) (fun q => A.own r.parties.length r.waits.length q ∨ q = qr) (fun q => A.own r.parties.length r.waits.length q) (playN T p.trips.length (n + 1) r).log w0 := by
  intro l J Jx W Q hY hbW hj hQ
  have hrW := hr.below hbW
  have hqW := heap_below hbW hq
  have hrb := hrW.blk
  have hac := cells_of hrb
  have haf := frozen_of hrb
  have hal := lt_of_heap hrb
  simp only [runCells] at hac
  have hqc := cells_of hqW
  have hql := lt_of_heap hqW
  have hqrb : qr ≠ A.rb := cells_ne hqW hrb (by decide)
  have hle := hrW.le
  have HhY := Lib.hid hY; clear hY; have HhbW := Lib.hid hbW; clear hbW; have Hhj := Lib.hid hj; clear hj; have HhQ := Lib.hid hQ; clear hQ; have Hhr := Lib.hid hr; clear hr; have HhrW := Lib.hid hrW; clear hrW; have HhR := Lib.hid hR; clear hR; have HhG := Lib.hid hG; clear hG; have Hhrb := Lib.hid hrb; clear hrb; have HhqW := Lib.hid hqW; clear hqW; have Hhl := Lib.hid hl; clear hl; have Hhq := Lib.hid hq; clear hq
  go_enter Try.func65, Try.ntmps65
  go_upto_region 3 with fail
  obtain ⟨yb, hyb⟩ : ∃ q, W.heap.size = q := ⟨_, rfl⟩
  obtain ⟨lbv, hlbv⟩ : ∃ v : Array Value, v = #[.pointer (some ⟨yb + 1, 0, none⟩), .pointer (some ⟨yb, 0, none⟩)] := ⟨_, rfl⟩
  obtain ⟨w1, hw1⟩ : ∃ X, ((W.setCell ⟨A.rb, 12, none⟩ (.func (.func 66) #[] lbv)).alloc (.cells #[.func (.yield l) #[] #[]] 174)).alloc (.cells #[.bool true] 4) = X := ⟨_, rfl⟩
  have hz0 : (W.setCell ⟨A.rb, 12, none⟩ (.func (.func 66) #[] lbv)).heap.size = W.heap.size := by simp [World.setCell]
  have hb1 : w1.heap[A.rb]? = some (.cells (runCells T a1 a2 a3 a4 c1 c2 c3 c4 p p1 p2 d1 d2 { A with k := 66, lb := lbv } none 0) 161 (0, 0)) := by
    rw [← hw1]
    exact heap_alloc_off (heap_alloc_off ((heap_setCell_at Hhrb.out _).trans rfl) _) _
  have hyb1 : w1.heap[yb]? = some (.cells #[.func (.yield l) #[] #[]] 174 (0, 0)) := by
    rw [← hw1]
    exact heap_alloc_off (heap_alloc_at' _ _ (by rw [hz0, hyb])) _
  have hon1 : w1.heap[yb + 1]? = some (.cells #[.bool true] 4 (0, 0)) := by
    rw [← hw1]
    exact heap_alloc_at' _ _ (by simp [World.setCell]; omega)
  have hs1 : w1.heap.size = yb + 2 := by rw [← hw1]; simp [World.setCell]; omega
  have ho1 : ∀ q, q < W.heap.size → q ≠ A.rb → w1.heap[q]? = W.heap[q]? := by
    intro q hq hn
    rw [← hw1]
    refine ((bl_alloc (bl_alloc (Below.refl _ _) _) _).block q (by rw [hz0]; exact hq)).trans (setCell_other _ _ _ _ hn)
  have hk1 : w1.os = W.os ∧ w1.tape = W.tape ∧ w1.output = W.output := by rw [← hw1]; exact ⟨rfl, rfl, rfl⟩
  have hrbl : B ≤ A.rb := HhrW.out.lo _ (.inl rfl)
  have hB1 : Below B W w1 := ⟨hk1.1, hk1.2.1, hk1.2.2, by omega, fun q hq => ho1 q (by omega) (by omega)⟩
  have hr1 := HhrW.out.turn 66 lbv r.used none 0 hb1 ho1 HhrW.out.used hB1
  have hown : ∀ q, A.own r.parties.length r.waits.length q → q < yb := fun q h => by have := HhrW.out.lt h; omega
  have hQ1 : ∀ q, Q q → q < yb ∧ ¬ A.own r.parties.length r.waits.length q ∧ True := fun q h => by
    have h1 := HhY.out.lt _ _ _ _ Hhj.out h
    have h2 := HhQ.out q h
    exact ⟨by omega, fun e => h2 (.inl e), trivial⟩
  have hQrb : ∀ q, Q q → q ≠ A.rb := fun q h e => (hQ1 q h).2.1 (.inl e)
  have hJ1 : LogJ l (yb + 1) yb J Jx w1 (fun q => Q q ∨ q = yb + 1 ∨ q = yb) [] :=
    ⟨Q, fun _ => Iff.rfl, fun e => by have := (hQ1 _ e).1; omega, fun e => by have := (hQ1 _ e).1; omega, hyb1, .inl ⟨hon1, HhY.out.stable _ _ _ _ Hhj.out (fun q h => ho1 q (by have := (hQ1 q h).1; omega) (hQrb q h)) (fun q h => ho1 q (by omega) (by omega)) (by omega)⟩⟩
  have hrj : RunJ T a1 a2 a3 a4 c1 c2 c3 c4 p p1 p2 d1 d2 B { A with k := 66, lb := lbv } (LogJ l (yb + 1) yb J Jx) w1 r 0 none (fun q => Q q ∨ q = yb + 1 ∨ q = yb) := by
    refine ⟨hr1, by rw [Hhl.out]; exact hJ1, fun q h => ?_⟩
    rcases h with h | rfl | rfl
    · exact ⟨(hQ1 q h).2.1, by simp, trivial⟩
    · exact ⟨fun e => by have := hown _ e; omega, by simp, trivial⟩
    · exact ⟨fun e => by have := hown _ e; omega, by simp, trivial⟩
  have hNC : NoteC B 66 lbv (LogJ l (yb + 1) yb J Jx) := by rw [hlbv]; exact log_note HhY.out (by omega)
  have HP : ∀ X, X = w1.drew → Calls Try.prog 35 #[.pointer (some ⟨A.rb, 0, none⟩), .int .i64 n] X fun e w' => (∃ u, e = .returned u) ∧ ∃ um' P', RunJ T a1 a2 a3 a4 c1 c2 c3 c4 p p1 p2 d1 d2 B { A with k := 66, lb := lbv } (LogJ l (yb + 1) yb J Jx) w' (playN T p.trips.length (n + 1) r) (n + 1 : Nat) um' P' ∧ Fr A r.parties.length r.waits.length none (fun q => Q q ∨ q = yb + 1 ∨ q = yb) P' w1 w' := by
    intro X hX
    subst hX
    refine (play_any T _ _ _ _ _ _ _ _ p _ _ _ _ B { A with k := 66, lb := lbv } (LogJ l (yb + 1) yb J Jx) hNC HhG.out hnt _ r 0 n _ (hrj.drew hNC) HhR.out hn2 (by rw [Hhl.out]; simp)).mono ?_
    rintro e w' ⟨h1, um', P', h2, h3⟩
    exact ⟨h1, um', P', h2, ⟨h3.os, h3.tape, h3.output, h3.size, fun q hq ho hu hp => h3.block q hq ho hu hp, h3.grow⟩⟩
  have hqr1 := (ho1 qr (by omega) hqrb).trans HhqW.out
  rw [hlbv, ← hyb] at hw1
  rw [hw1]
  clear hw1 hac haf hal hqc hql
  have hac := cells_of hb1
  have hal := lt_of_heap hb1
  simp only [runCells] at hac
  have hqc := cells_of hqr1
  have hql := lt_of_heap hqr1
  have hI : Below w1.heap.size w1 w1.drew := (Below.refl _ _).drew
  rw [hn] at hac
  have Hhb1 := Lib.hid hb1; clear hb1; have Hhyb1 := Lib.hid hyb1; clear hyb1; have Hhon1 := Lib.hid hon1; clear hon1; have Hhr1 := Lib.hid hr1; clear hr1; have HhJ1 := Lib.hid hJ1; clear hJ1; have Hhrj := Lib.hid hrj; clear hrj; have HhNC := Lib.hid hNC; clear hNC; have HHP := Lib.hid HP; clear HP; have Hhqr1 := Lib.hid hqr1; clear hqr1; have Hhown := Lib.hid hown; clear hown; have HhQ1 := Lib.hid hQ1; clear hQ1; have HhQrb := Lib.hid hQrb; clear hQrb
  refine wp_region_ord (fun X => Below w1.heap.size w1 X) [] [0, 1, 2, 3, 4, 5] (some 6) (by kernel_rfl) (by kernel_rfl) hI ?_
  refine OrdI_snk ?_
  (apply StI_plain (w0 := w1.drew) hI rfl rfl rfl rfl; (focus (intro W hW K hK; obtain ⟨_, _, _⟩ := bk A.rb hW hal; obtain ⟨_, _, _⟩ := bk qr hW hql; go_step; exact hK)); (focus rfl)); (apply StI_plain (w0 := w1.drew) hI rfl rfl rfl rfl; (focus (intro W hW K hK; obtain ⟨_, _, _⟩ := bk A.rb hW hal; obtain ⟨_, _, _⟩ := bk qr hW hql; go_step; exact hK)); (focus rfl)); (apply StI_plain (w0 := w1.drew) hI rfl rfl rfl rfl; (focus (intro W hW K hK; obtain ⟨_, _, _⟩ := bk A.rb hW hal; obtain ⟨_, _, _⟩ := bk qr hW hql; go_step; exact hK)); (focus rfl)); (apply StI_plain (w0 := w1.drew) hI rfl rfl rfl rfl; (focus (intro W hW K hK; obtain ⟨_, _, _⟩ := bk A.rb hW hal; obtain ⟨_, _, _⟩ := bk qr hW hql; go_step; exact hK)); (focus rfl)); (apply StI_plain (w0 := w1.drew) hI rfl rfl rfl rfl; (focus (intro W hW K hK; obtain ⟨_, _, _⟩ := bk A.rb hW hal; obtain ⟨_, _, _⟩ := bk qr hW hql; go_step; exact hK)); (focus rfl)); (apply StI_plain (w0 := w1.drew) hI rfl rfl rfl rfl; (focus (intro W hW K hK; obtain ⟨_, _, _⟩ := bk A.rb hW hal; obtain ⟨_, _, _⟩ := bk qr hW hql; go_step; exact hK)); (focus rfl))
  (apply StI_eff rfl; go_wp2_with (first | (go_at_call 35; refine (HHP.out _ rfl).mono ?_; rintro e w2 ⟨⟨u, rfl⟩, um', P2, hr2, hf2⟩; have Hhr2 := Lib.hid hr2; clear hr2; have Hhf2 := Lib.hid hf2; clear hf2)))
  refine onNormal_last ?_
  go_wp2_with fail
  (try simp only [Exit.inBlock, Exit.then]); refine bodyPost_end (results_none rfl _ _ _) rfl ?_
  obtain ⟨Q', hP', m1, m2, _, hfin⟩ := Hhr2.out.note
  refine ⟨⟨_, rfl⟩, ⟨Hhf2.out.os.trans hk1.1, Hhf2.out.tape.trans hk1.2.1, Hhf2.out.output.trans hk1.2.2, by have := Hhf2.out.size; omega, fun q hq hn => ?_⟩, Q', fun q h => ?_, ?_⟩
  · have h1 : ¬ A.own r.parties.length r.waits.length q := fun e => hn (.inl e)
    refine (Hhf2.out.block q (by omega) h1 (by simp) (fun e => ?_)).trans (ho1 q hq (fun e => h1 (.inl e)))
    rcases e with e | e | e
    · exact hn (.inr e)
    · omega
    · omega
  · rcases Hhf2.out.grow q ((hP' q).2 (.inl h)) with h1 | h1
    · rcases h1 with h1 | h1 | h1
      · exact .inl h1
      · exact .inr (by omega)
      · exact .inr (by omega)
    · exact .inr (by omega)
  · rcases hfin with ⟨_, h⟩ | ⟨_, pre, hpre, h⟩
    · exact .inl h
    · exact .inr ⟨pre, hpre, h⟩

end Go.Proofs.Ytjoihijlcpnhoaa
