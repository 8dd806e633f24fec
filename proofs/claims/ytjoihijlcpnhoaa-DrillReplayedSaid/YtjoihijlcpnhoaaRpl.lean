/- drill: Replay. -/
import Derived.Test.YtjoihijlcpnhoaaDrCnt
import Derived.Test.YtjoihijlcpnhoaaEntE
import Derived.Test.YtjoihijlcpnhoaaReplay
import Derived.Stop.RegionWithIn
import Derived.OwnWalkIn
namespace Go.Proofs.Ytjoihijlcpnhoaa
open Go.RowKit Go.Shelf
attribute [local go_sem] Oper.semAt_some

theorem ekl_entry (B : Nat) : EKL B EntryE := fun _ _ _ _ _ hB hb ⟨h0, h1, h2, h3, h4⟩ => let k := hB.two hb (by omega) h0 h1; ⟨k _ _ h0, k _ _ h1, k _ _ h2, k _ _ h3, k _ _ h4⟩

/-- What Replay answers. -/
def RplPost (T : Town) (p : Plan) (c : Case) (m : List Entry) (w : World) (e : Ending) (w' : World) : Prop :=
  Below w.heap.size w w' ∧ ((begunErr T p c ≠ 0 ∧ e = .returned (.tuple #[.int .i64 0, .int .i64 (begunErr T p c)])) ∨
    (verifyT T p = 0 ∧ caseErr p c = 0 ∧ e = .returned (.tuple #[.int .i64 (replayT (runLog T p c) m).1, .int .i64 (replayT (runLog T p c) m).2])))

/-- What Replay's loop keeps. -/
structure RplI (ib q4 q5 qL s : Nat) (lm : Option Addr) (m : List Entry) (em : Nat) (pre : List Entry) (R : Nat → Prop) (W : World) : Prop where
  hR : ∀ q, R q ↔ q = ib ∨ q = q4 ∨ q = q5
  i : W.heap[ib]? = some (.cells #[.int .i64 pre.length] 3 (0, 0))
  n : W.heap[q4]? = some (.cells #[.int .i64 0] 3 (0, 0))
  e : W.heap[q5]? = some (.cells #[.int .i64 0] 34 (0, 0))
  lb : W.heap[qL]? = some (.cells #[.slice lm m.length em] 64 (0, 0))
  log : Sl EntryE 5 s W lm m
  ag : agree pre m = pre.length
/-- What it leaves behind where it stops. -/
def RplX (ib q4 q5 : Nat) (m : List Entry) (c : Code) (pre : List Entry) (R : Nat → Prop) (W : World) : Prop :=
  c = .ret ∧ (∀ q, R q ↔ q = ib ∨ q = q4 ∨ q = q5) ∧ (∃ v, W.heap[ib]? = some (.cells #[v] 3 (0, 0))) ∧ ∃ k : Nat, (∀ l, pre <+: l → agree l m = k ∧ k < l.length) ∧
    W.heap[q4]? = some (.cells #[.int .i64 k] 3 (0, 0)) ∧ W.heap[q5]? = some (.cells #[.int .i64 23] 34 (0, 0))

theorem agree_stop : ∀ (pre m : List Entry) (x : Entry), agree pre m = pre.length → (∀ h : pre.length < m.length, m[pre.length] ≠ x) → ∀ l, (pre ++ [x]) <+: l → agree l m = pre.length ∧ pre.length < l.length
  | [], m, x, _, hx, l, hl => by
    obtain ⟨r, rfl⟩ := hl
    refine ⟨?_, by simp⟩
    cases m with
    | nil => simp [agree]
    | cons y m =>
      have := hx (by simp)
      simp only [List.length_nil, List.getElem_cons_zero] at this
      simp [agree, Ne.symm this]
  | z :: pre, m, x, h, hx, l, hl => by
    obtain ⟨r, rfl⟩ := hl
    cases m with
    | nil => simp [agree] at h
    | cons y m =>
      simp only [agree] at h
      split at h
      · rename_i hzy
        subst hzy
        have ih := agree_stop pre m x (by simpa using h) (fun h1 => by
          have := hx (by simp; omega)
          simpa using this) (pre ++ [x] ++ r) ⟨r, rfl⟩
        constructor
        · simpa [agree] using ih.1
        · simp
      · simp at h
theorem agree_more1 : ∀ (pre m : List Entry) (x : Entry), agree pre m = pre.length → (h : pre.length < m.length) → m[pre.length] = x → agree (pre ++ [x]) m = pre.length + 1
  | [], m, x, _, h, hx => by
    cases m with
    | nil => simp at h
    | cons y m =>
      simp only [List.length_nil, List.getElem_cons_zero] at hx
      subst hx
      simp [agree]
  | z :: pre, m, x, hp, h, hx => by
    cases m with
    | nil => simp at h
    | cons y m =>
      simp only [agree] at hp
      split at hp
      · rename_i hzy
        subst hzy
        have ih := agree_more1 pre m x (by simpa using hp) (by simpa using h) (by simpa using hx)
        simp [agree, ih]
      · simp at hp

/-- Where the loop stops: the two result cells are written. -/
theorem rpl_stop {ib q4 q5 : Nat} {m pre : List Entry} {x : Entry} {R : Nat → Prop} {W W1 W' : World} {v : Value} (hR : ∀ q, R q ↔ q = ib ∨ q = q4 ∨ q = q5) (i1 : W1.heap[ib]? = some (.cells #[v] 3 (0, 0))) {u4 u5 : Value}
    (n1 : W1.heap[q4]? = some (.cells #[u4] 3 (0, 0))) (f1 : W1.heap[q5]? = some (.cells #[u5] 34 (0, 0))) (h4 : ib ≠ q4) (h5 : ib ≠ q5) (h45 : q4 ≠ q5)
    (hag : agree pre m = pre.length) (hx : ∀ h : pre.length < m.length, m[pre.length] ≠ x) (hos : W'.os = W1.os ∧ W'.tape = W1.tape ∧ W'.output = W1.output)
    (hW : W'.heap = ((W1.setCell ⟨q4, 0, none⟩ (.int .i64 pre.length)).setCell ⟨q5, 0, none⟩ (.int .i64 23)).heap) :
    KeepsP R W1 W' ∧ ∃ R' : Nat → Prop, (∀ q, R' q → R q ∨ W.heap.size ≤ q) ∧ RplX ib q4 q5 m .ret (pre ++ [x]) R' W' := by
  have e1 : ∀ q, q ≠ q4 → q ≠ q5 → W'.heap[q]? = W1.heap[q]? := fun q a b => by
    rw [hW]
    exact (setCell_other _ _ _ _ b).trans (setCell_other _ _ _ _ a)
  refine ⟨⟨hos.1, hos.2.1, hos.2.2, by rw [hW]; simp [World.setCell], fun q _ hn => e1 q (fun e => hn ((hR q).2 (.inr (.inl e)))) (fun e => hn ((hR q).2 (.inr (.inr e))))⟩, R, fun q h => .inl h, rfl, hR, ⟨v, (e1 ib h4 h5).trans i1⟩, pre.length, agree_stop pre m x hag hx, ?_, ?_⟩
  · rw [hW]
    exact (setCell_other _ _ _ _ h45).trans ((heap_setCell_at n1 _).trans rfl)
  · rw [hW]
    exact (heap_setCell_at ((setCell_other _ _ _ _ (Ne.symm h45)).trans f1) _).trans rfl

/-- Where the loop goes on: the counter is one more. -/
theorem rpl_go {ib q4 q5 qL s : Nat} {lm : Option Addr} {em : Nat} {m pre : List Entry} {x : Entry} {R : Nat → Prop} {W W1 W' : World} (hR : ∀ q, R q ↔ q = ib ∨ q = q4 ∨ q = q5) {v : Value} (i1 : W1.heap[ib]? = some (.cells #[v] 3 (0, 0)))
    (n1 : W1.heap[q4]? = some (.cells #[.int .i64 0] 3 (0, 0))) (f1 : W1.heap[q5]? = some (.cells #[.int .i64 0] 34 (0, 0))) (L1 : W1.heap[qL]? = some (.cells #[.slice lm m.length em] 64 (0, 0))) (g1 : Sl EntryE 5 s W1 lm m)
    (h4 : ib ≠ q4) (h5 : ib ≠ q5) (hL : ib ≠ qL) (hs : s ≤ ib)
    (hag : agree pre m = pre.length) (h : pre.length < m.length) (hx : m[pre.length] = x) (hos : W'.os = W1.os ∧ W'.tape = W1.tape ∧ W'.output = W1.output)
    (hW : W'.heap = (W1.setCell ⟨ib, 0, none⟩ (.int .i64 ((pre.length : Int) + 1))).heap) :
    KeepsP R W1 W' ∧ ∃ R' : Nat → Prop, (∀ q, R' q → R q ∨ W.heap.size ≤ q) ∧ RplI ib q4 q5 qL s lm m em (pre ++ [x]) R' W' := by
  have e1 : ∀ q, q ≠ ib → W'.heap[q]? = W1.heap[q]? := fun q a => by
    rw [hW]
    exact setCell_other _ _ _ _ a
  refine ⟨⟨hos.1, hos.2.1, hos.2.2, by rw [hW]; simp [World.setCell], fun q _ hn => e1 q (fun e => hn ((hR q).2 (.inl e)))⟩, R, fun q h => .inl h, hR, ?_, (e1 q4 h4.symm).trans n1, (e1 q5 h5.symm).trans f1, (e1 qL hL.symm).trans L1, g1.belowL (ekl_entry _) (fun q hq => .inl (e1 q (by omega))), ?_⟩
  · rw [hW]
    exact (heap_setCell_at i1 _).trans (by simp)
  · rw [agree_more1 pre m x hag h hx]
    simp

set_option maxHeartbeats 8000000 in
set_option maxRecDepth 100000 in
theorem replay_any (T : Town) (a1 a2 a3 a4 : Option Addr) (c1 c2 c3 c4 : Nat) (p : Plan) (p1 p2 : Option Addr) (d1 d2 : Nat) (c : Case) (l1 l2 l3 l4 : Option Addr) (e1 e2 e3 e4 : Nat) (m : List Entry) (lm : Option Addr) (em : Nat) (w : World) (hT : TownM w.heap.size w a1 a2 a3 a4 T) (hP : PlanM w.heap.size w p1 p2 p) (hC : CaseM w.heap.size w l1 l2 l3 l4 c) (hM : Sl EntryE 5 w.heap.size w lm m) :
    Calls Try.prog 20 #[.agg #[.int .i64 T.steps, .slice a1 T.places.length c1, .slice a2 T.ways.length c2, .slice a3 T.groups.length c3, .slice a4 T.vehicles.length c4], .agg #[.slice p1 p.trips.length d1, .slice p2 p.rides.length d2], .agg #[.slice l1 c.late.length e1, .slice l2 c.absent.length e2, .slice l3 c.rides.length e3, .slice l4 c.broken.length e4], .slice lm m.length em] w (RplPost T p c m w) := by
  have HBg : ∀ W, Below w.heap.size w W → Calls Try.prog 32 #[.agg #[.int .i64 T.steps, .slice a1 T.places.length c1, .slice a2 T.ways.length c2, .slice a3 T.groups.length c3, .slice a4 T.vehicles.length c4], .agg #[.slice p1 p.trips.length d1, .slice p2 p.rides.length d2], .agg #[.slice l1 c.late.length e1, .slice l2 c.absent.length e2, .slice l3 c.rides.length e3, .slice l4 c.broken.length e4]] W (BgPost T a1 a2 a3 a4 c1 c2 c3 c4 p p1 p2 d1 d2 c W) := fun W hW =>
    begun_any T _ _ _ _ _ _ _ _ p _ _ _ _ c l1 l2 l3 l4 e1 e2 e3 e4 W ((hT.below hW).mono hW.size) ((hP.below hW).mono hW.size) ((hC.below hW).mono hW.size)
  by_cases hz : verifyT T p = 0 ∧ caseErr p c = 0
  · obtain ⟨hv, hc⟩ := hz
    have hbe : begunErr T p c = 0 := by unfold begunErr; rw [if_pos hv, hc]
    have HB2 : ∀ W, Below w.heap.size w W → Calls Try.prog 32 #[.agg #[.int .i64 T.steps, .slice a1 T.places.length c1, .slice a2 T.ways.length c2, .slice a3 T.groups.length c3, .slice a4 T.vehicles.length c4], .agg #[.slice p1 p.trips.length d1, .slice p2 p.rides.length d2], .agg #[.slice l1 c.late.length e1, .slice l2 c.absent.length e2, .slice l3 c.rides.length e3, .slice l4 c.broken.length e4]] W
        fun e w' => ∃ (B : Nat) (A : RA), e = .returned (.tuple #[.pointer (some ⟨A.rb, 0, none⟩), .int .i64 0]) ∧ Below W.heap.size W w' ∧ W.heap.size ≤ B ∧ RunM T a1 a2 a3 a4 c1 c2 c3 c4 p p1 p2 d1 d2 B A w' (begunS T p c) 0 none := by
      intro W hW
      refine (HBg W hW).mono ?_
      rintro e w' ⟨hb, ⟨hne, _⟩ | ⟨_, _, B, A, hB, _, _, he, hr⟩⟩
      · exact absurd hbe hne
      · exact ⟨B, A, he, hb, hB, hr⟩
    obtain ⟨hG, hPG⟩ := verifyT_zero hv
    obtain ⟨hR, _, _⟩ := begunS_good hG hPG (caseErr_zero hc)
    have hst := hG.steps
    have hfew := runLog_few hv hc
    obtain ⟨n, hn⟩ : ∃ n : Nat, T.steps = n := ⟨T.steps.toNat, by omega⟩
    have hlog : runLog T p c = (playN T p.trips.length (n + 1) (begunS T p c)).log := by
      have e : T.steps.toNat = n := by omega
      unfold runLog playedT
      rw [e]
    have hn2 : n ≤ 200 := by omega
    have hml := hM.1
    obtain ⟨W0, hW0⟩ : ∃ W0, W0 = (((((w.alloc (.cells (townBox T a1 a2 a3 a4 c1 c2 c3 c4) 27)).alloc (.cells #[.slice p1 p.trips.length d1, .slice p2 p.rides.length d2] 31)).alloc (.cells #[.slice l1 c.late.length e1, .slice l2 c.absent.length e2, .slice l3 c.rides.length e3, .slice l4 c.broken.length e4] 62)).alloc (.cells #[.slice lm m.length em] 64)).alloc (.cells #[.int .i64 0] 3)).alloc (.cells #[.int .i64 0] 34) := ⟨_, rfl⟩
    have hbW0 : Below w.heap.size w W0 := by rw [hW0]; exact (by repeat (first | exact Below.refl _ _ | (refine bl_setCell ?_ _ _ ?_; rotate_left; focus (first | omega | (simp; done) | (simp; omega))) | refine bl_alloc ?_ _ | refine bl_step ?_ (by assumption) | refine bl_drew ?_ | refine bl_drewN ?_ _))
    have hsW0 : W0.heap.size = w.heap.size + 6 := by rw [hW0]; simp
    have x3 : W0.heap[w.heap.size + 1 + 1 + 1]? = some (.cells #[.slice lm m.length em] 64 (0, 0)) := by rw [hW0]; repeat (first | with_reducible assumption | (with_reducible refine heap_alloc_at' _ _ ?_; focus (simp; done)) | with_reducible refine heap_alloc_off ?_ _ | (with_reducible refine heap_setCell_off ?_ _ ?_; rotate_left; focus omega) | with_reducible refine heap_drew' ?_ | with_reducible refine heap_drewN' ?_ | with_reducible refine heap_below (by with_reducible assumption) ?_)
    have x4 : W0.heap[w.heap.size + 1 + 1 + 1 + 1]? = some (.cells #[.int .i64 0] 3 (0, 0)) := by rw [hW0]; repeat (first | with_reducible assumption | (with_reducible refine heap_alloc_at' _ _ ?_; focus (simp; done)) | with_reducible refine heap_alloc_off ?_ _ | (with_reducible refine heap_setCell_off ?_ _ ?_; rotate_left; focus omega) | with_reducible refine heap_drew' ?_ | with_reducible refine heap_drewN' ?_ | with_reducible refine heap_below (by with_reducible assumption) ?_)
    have x5 : W0.heap[w.heap.size + 1 + 1 + 1 + 1 + 1]? = some (.cells #[.int .i64 0] 34 (0, 0)) := by rw [hW0]; repeat (first | with_reducible assumption | (with_reducible refine heap_alloc_at' _ _ ?_; focus (simp; done)) | with_reducible refine heap_alloc_off ?_ _ | (with_reducible refine heap_setCell_off ?_ _ ?_; rotate_left; focus omega) | with_reducible refine heap_drew' ?_ | with_reducible refine heap_drewN' ?_ | with_reducible refine heap_below (by with_reducible assumption) ?_)
    obtain ⟨qL, hqL⟩ : ∃ q, q = w.heap.size + 1 + 1 + 1 := ⟨_, rfl⟩
    obtain ⟨q4, hq4⟩ : ∃ q, q = w.heap.size + 1 + 1 + 1 + 1 := ⟨_, rfl⟩
    obtain ⟨q5, hq5⟩ : ∃ q, q = w.heap.size + 1 + 1 + 1 + 1 + 1 := ⟨_, rfl⟩
    clear HBg hst
    have HHB2 := Lib.hid HB2; clear HB2; have HhT := Lib.hid hT; clear hT; have HhP := Lib.hid hP; clear hP; have HhC := Lib.hid hC; clear hC; have HhM := Lib.hid hM; clear hM; have HhG := Lib.hid hG; clear hG; have HhPG := Lib.hid hPG; clear hPG; have HhR := Lib.hid hR; clear hR; have Hhlog := Lib.hid hlog; clear hlog; have Hhv := Lib.hid hv; clear hv; have Hhc := Lib.hid hc; clear hc; have Hhn := Lib.hid hn; clear hn; have Hhbe := Lib.hid hbe; clear hbe; have Hhfew := Lib.hid hfew; clear hfew; have HhbW0 := Lib.hid hbW0; clear hbW0; have Hx3 := Lib.hid x3; clear x3; have Hx4 := Lib.hid x4; clear x4; have Hx5 := Lib.hid x5; clear x5
    refine (callsIn_wide (n := 5)).1 ?_
    refine callsIn_of_wp_marks Try.func20 rfl trivial ?_ rfl
    simp only [Try.ntmps20, List.size_toArray, List.length_cons, List.length_nil, Nat.reduceAdd, Nat.reduceSub, Array.replicate_succ, Array.replicate_zero, List.push_toArray, List.append_toArray, List.nil_append, List.cons_append]
    refine wpIn_wide.2 ?_
    go_upto_region 4 with (go_at_call 32; refine (HHB2.out _ (by repeat (first | exact Below.refl _ _ | (refine bl_setCell ?_ _ _ ?_; rotate_left; focus (first | omega | (simp; done) | (simp; omega))) | refine bl_alloc ?_ _ | refine bl_step ?_ (by assumption) | refine bl_drew ?_ | refine bl_drewN ?_ _))).mono ?_; rintro e w1 ⟨B, A, rfl, hb1, hB1, hr1⟩; have Hhr1 := Lib.hid hr1; clear hr1)
    have hbW01 : Below W0.heap.size W0 w1 := by rw [hW0]; exact hb1
    have hB0 : w.heap.size + 6 ≤ B := by have := hB1; simp only [World.size_alloc] at this; omega
    have hbw1 := bl_step HhbW0.out hbW01
    have x31 := heap_below hbW01 Hx3.out
    have x41 := heap_below hbW01 Hx4.out
    have x51 := heap_below hbW01 Hx5.out
    have hle1 := Hhr1.out.le
    obtain ⟨ib, hib⟩ : ∃ q, q = w1.heap.size := ⟨_, rfl⟩
    obtain ⟨wi, hwi⟩ : ∃ W, W = w1.alloc (.cells #[.int .i64 0] 3) := ⟨_, rfl⟩
    have hbi : Below w1.heap.size w1 wi := by rw [hwi]; exact bl_alloc (Below.refl _ _) _
    have xi : wi.heap[ib]? = some (.cells #[.int .i64 0] 3 (0, 0)) := by rw [hwi, hib]; exact heap_alloc_at _ _
    have hwis : wi.heap.size = w1.heap.size + 1 := by rw [hwi]; simp
    clear hb1
    have HhbW01 := Lib.hid hbW01; clear hbW01; have Hhbw1 := Lib.hid hbw1; clear hbw1; have Hx31 := Lib.hid x31; clear x31; have Hx41 := Lib.hid x41; clear x41; have Hx51 := Lib.hid x51; clear x51; have Hhbi := Lib.hid hbi; clear hbi; have Hxi := Lib.hid xi; clear xi
    go_wp2_with (go_at_call 34; refine (logged_any A.rb _).mono ?_; rintro e w2 ⟨rfl, hb2, hq2⟩; have Hhb2 := Lib.hid hb2; clear hb2; have Hhq2 := Lib.hid hq2; clear hq2)
    have hb2' : Below wi.heap.size wi w2 := by rw [hwi]; exact Hhb2.out
    have hq2' : w2.heap[w1.heap.size + 1]? = some (.cells #[.pointer (some ⟨A.rb, 0, none⟩)] 106 (0, 0)) := by have := Hhq2.out; rw [← hwi, hwis] at this; exact this
    have hb12 := bl_step Hhbi.out hb2'
    have hbw2 := bl_step Hhbw1.out hb12
    have hr2 := Hhr1.out.below hb12
    have hit := log_iter T _ _ _ _ _ _ _ _ p _ _ _ _ B A w2 (begunS T p c) n (w1.heap.size + 1) HhG.out HhPG.out.nt hr2 HhR.out rfl Hhn.out hn2 hq2'
    rw [← Hhlog.out] at hit
    have hs2 := lt_of_heap hq2'
    have X3 := heap_below hb12 Hx31.out
    have X4 := heap_below hb12 Hx41.out
    have X5 := heap_below hb12 Hx51.out
    have XI := heap_below hb2' Hxi.out
    rw [← hqL] at X3
    rw [← hq4] at X4
    rw [← hq5] at X5
    have hM2 := HhM.out.below (ek_entry _) hbw2
    refine (wpIn_wide (n := 5)).1 ?_
    refine rangeNote (by omega) (gf := 65) (lb := #[.pointer (some ⟨w1.heap.size + 1, 0, none⟩)]) rfl enters_log1 (encs := fun e => #[encEn e]) (fun _ => rfl) (xs := runLog T p c) hit hr2.le (fun q h => ?hO1)
      (RplI ib q4 q5 qL w.heap.size lm m em) (RplX ib q4 q5 m) ?hI ?hIl ?hIo ?hX ?hXl ?hXo (fun q => q = ib ∨ q = q4 ∨ q = q5) ?h0 ?hR0 ?round ?done ?stop
    case hO1 =>
      rcases h with h | h
      · exact hr2.lt h
      · rw [h]; exact hs2
    case hI =>
      rintro s R W W' ⟨h1, h2, h3, h4, h5, h6, h7⟩ hR hN hs
      exact ⟨h1, (hR ib ((h1 ib).2 (.inl rfl))).trans h2, (hR q4 ((h1 q4).2 (.inr (.inl rfl)))).trans h3, (hR q5 ((h1 q5).2 (.inr (.inr rfl)))).trans h4, (hN qL (by omega)).trans h5, h6.belowL (ekl_entry _) (fun q hq => .inl (hN q (by omega))), h7⟩
    case hIl =>
      rintro s R W q ⟨h1, h2, h3, h4, h5, h6, h7⟩ hq
      rcases (h1 q).1 hq with rfl | rfl | rfl
      · exact lt_of_heap h2
      · exact lt_of_heap h3
      · exact lt_of_heap h4
    case hIo =>
      rintro s R W q ⟨h1, h2, h3, h4, h5, h6, h7⟩ hq
      rcases (h1 q).1 hq with rfl | rfl | rfl
      · exact .inr ⟨_, _, _, h2⟩
      · exact .inr ⟨_, _, _, h3⟩
      · exact .inr ⟨_, _, _, h4⟩
    case hX =>
      rintro c s R W W' ⟨h0, h1, ⟨v, h2⟩, k, h3, h4, h5⟩ hR hN hs
      exact ⟨h0, h1, ⟨v, (hR ib ((h1 ib).2 (.inl rfl))).trans h2⟩, k, h3, (hR q4 ((h1 q4).2 (.inr (.inl rfl)))).trans h4, (hR q5 ((h1 q5).2 (.inr (.inr rfl)))).trans h5⟩
    case hXl =>
      rintro c s R W q ⟨h0, h1, ⟨v, h2⟩, k, h3, h4, h5⟩ hq
      rcases (h1 q).1 hq with rfl | rfl | rfl
      · exact lt_of_heap h2
      · exact lt_of_heap h4
      · exact lt_of_heap h5
    case hXo =>
      rintro c s R W q ⟨h0, h1, ⟨v, h2⟩, k, h3, h4, h5⟩ hq
      rcases (h1 q).1 hq with rfl | rfl | rfl
      · exact .inr ⟨_, _, _, h2⟩
      · exact .inr ⟨_, _, _, h4⟩
      · exact .inr ⟨_, _, _, h5⟩
    case h0 => exact ⟨fun _ => Iff.rfl, XI, X4, X5, X3, hM2, by cases m <;> rfl⟩
    case hR0 =>
      rintro q hq ho
      rcases ho with ho | ho
      · have h1 := Hhr1.out.lt ho
        have h2 := hr2.lo q ho
        rcases hq with h | h | h <;> omega
      · rcases hq with h | h | h <;> omega
    case round =>
      rintro l pre x R W K o hlen hl hlo hnR ⟨hRq, hi, hn4, he5, hL, hLog, hag⟩ hbody
      have HB := Lib.hid hbody
      clear hbody
      have hl4 : q4 < W.heap.size := lt_of_heap hn4
      have hl5 : q5 < W.heap.size := lt_of_heap he5
      have hlL : qL < W.heap.size := lt_of_heap hL
      have hli : ib < W.heap.size := lt_of_heap hi
      have nli : ib ≠ l := fun e => hnR ((hRq l).2 (.inl e.symm))
      have nl4 : q4 ≠ l := fun e => hnR ((hRq l).2 (.inr (.inl e.symm)))
      have nl5 : q5 ≠ l := fun e => hnR ((hRq l).2 (.inr (.inr e.symm)))
      have hll := lt_of_heap hlo
      have hpm : pre.length ≤ m.length := by rw [← hag]; exact (agree_le pre m).2
      have HhRq := Lib.hid hRq; clear hRq; have Hhi := Lib.hid hi; clear hi; have Hhn4 := Lib.hid hn4; clear hn4; have Hhe5 := Lib.hid he5; clear he5; have HhL := Lib.hid hL; clear hL; have HhLog := Lib.hid hLog; clear hLog; have Hhag := Lib.hid hag; clear hag; have Hhlo := Lib.hid hlo; clear hlo; have HhnR := Lib.hid hnR; clear hnR
      simp only [encEn]
      gi_wp2_with fail
      refine HB.out _ _ (KeepsP.of_below (bl_alloc (Below.refl _ _) _) R) (fun lo hlc => ?_)
      obtain ⟨W1, hW1⟩ : ∃ X, (W.alloc (.cells #[.int .i64 x.step, .int .i64 x.kind, .int .i64 x.party, .int .i64 x.at_, .int .i64 x.people] 69)).putObj l lo = X := ⟨_, rfl⟩
      obtain ⟨qx, hqx⟩ : ∃ q, W.heap.size = q := ⟨_, rfl⟩
      rw [hW1]
      have hWs : W1.heap.size = qx + 1 := by rw [← hW1, ← hqx]; simp
      have old : ∀ q, q < qx → q ≠ l → W1.heap[q]? = W.heap[q]? := fun q hq hn => by
        rw [← hW1]
        exact (World.putObj_heap_other hn).trans ((bl_alloc (Below.refl _ _) _).block q (by omega))
      have xx1 : W1.heap[qx]? = some (.cells #[.int .i64 x.step, .int .i64 x.kind, .int .i64 x.party, .int .i64 x.at_, .int .i64 x.people] 69 (0, 0)) := by
        rw [← hW1, ← hqx]
        exact (World.putObj_heap_other (show W.heap.size ≠ l by omega)).trans (heap_alloc_at _ _)
      have i1 := (old ib (by omega) nli).trans Hhi.out
      have n1 := (old q4 (by omega) nl4).trans Hhn4.out
      have f1 := (old q5 (by omega) nl5).trans Hhe5.out
      have L1 := (old qL (by omega) (by omega)).trans HhL.out
      have g1 := HhLog.out.belowL (ekl_entry _) (w' := W1) (fun q hq => .inl (old q (by omega) (by omega)))
      rw [hqx]
      clear hW1
      have ic := cells_of i1
      have nc := cells_of n1
      have fc := cells_of f1
      have Lc := cells_of L1
      have xc := cells_of xx1
      have il := lt_of_heap i1
      have nl := lt_of_heap n1
      have fl := lt_of_heap f1
      have Ll := lt_of_heap L1
      have iF := frozen_of i1
      have nF := frozen_of n1
      have fF := frozen_of f1
      have Hi1 := Lib.hid i1; clear i1; have Hn1 := Lib.hid n1; clear n1; have Hf1 := Lib.hid f1; clear f1; have HL1 := Lib.hid L1; clear L1; have Hxx1 := Lib.hid xx1; clear xx1; have Hold := Lib.hid old; clear old
      rw [hib] at ic il iF
      rw [hq4] at nc nl nF
      rw [hq5] at fc fl fF
      rw [hqL] at Lc Ll
      by_cases hk : pre.length < m.length
      rotate_left
      · have hkm : pre.length = m.length := by omega
        have ne1 : ib ≠ q4 := by omega
        have ne2 : ib ≠ q5 := by omega
        have ne3 : q4 ≠ q5 := by omega
        have hnx : ∀ h : pre.length < m.length, m[pre.length] ≠ x := fun h => absurd h (by omega)
        have Hhnx := Lib.hid hnx; clear hnx; have Hne1 := Lib.hid ne1; clear ne1; have Hne2 := Lib.hid ne2; clear ne2; have Hne3 := Lib.hid ne3; clear ne3
        gi_wp2_with fail
        gi_region_with (fail)
        all_goals (gi_wp2_with fail)
        all_goals exact rpl_stop HhRq.out Hi1.out Hn1.out Hf1.out Hne1.out Hne2.out Hne3.out Hhag.out Hhnx.out ⟨rfl, rfl, rfl⟩ (by rw [hq4, hq5, hkm]; rfl)
      · obtain ⟨b0, off0, hlm, hb0, r0, r1, r2, r3, r4⟩ := g1.2 pre.length hk
        obtain ⟨y, hy⟩ : ∃ y, y = m[pre.length] := ⟨_, rfl⟩
        rw [← hy] at r0 r1 r2 r3 r4
        have ne1 : ib ≠ q4 := by omega
        have ne2 : ib ≠ q5 := by omega
        have ne3 : q4 ≠ q5 := by omega
        have ne4 : ib ≠ qL := by omega
        have hsib : w.heap.size ≤ ib := by omega
        have hb0l : b0 < W1.heap.size := by omega
        have hk' : (pre.length : Int) < (m.length : Int) := by omega
        have hk3 : ¬ (pre.length : Int) = (m.length : Int) := by omega
        have hk2 : ((pre.length : Int) == (m.length : Int)) = false := by simpa using hk3
        subst hlm
        have Hhy' := Lib.hid hy
        have Hne1 := Lib.hid ne1; clear ne1; have Hne2 := Lib.hid ne2; clear ne2; have Hne4 := Lib.hid ne4; clear ne4; have Hhsib := Lib.hid hsib; clear hsib; have Hg1 := Lib.hid g1; clear g1
        by_cases he : y = x
        · subst he
          clear ne3 Hhy'
          have Hhy := Lib.hid hy; clear hy
          gi_wp2_with fail
          gi_region_with (fail)
          all_goals (gi_wp2_with fail)
          all_goals exact rpl_go HhRq.out Hi1.out Hn1.out Hf1.out HL1.out Hg1.out Hne1.out Hne2.out Hne4.out Hhsib.out Hhag.out hk Hhy.out.symm ⟨rfl, rfl, rfl⟩ (by rw [hib]; rfl)
        · have hdis : y.step ≠ x.step ∨ (y.step = x.step ∧ (y.kind ≠ x.kind ∨ (y.kind = x.kind ∧ (y.party ≠ x.party ∨ (y.party = x.party ∧ (y.at_ ≠ x.at_ ∨ (y.at_ = x.at_ ∧ y.people ≠ x.people))))))) := by
            cases y
            cases x
            simp only [Entry.mk.injEq] at he
            simp only
            omega
          have hnx : ∀ h : pre.length < m.length, m[pre.length] ≠ x := fun h e => he (Hhy'.out.trans e)
          clear he hy
          have Hhnx := Lib.hid hnx; clear hnx; have Hne3 := Lib.hid ne3; clear ne3
          rcases hdis with d0 | ⟨d0, d1 | ⟨d1, d2 | ⟨d2, d3 | ⟨d3, d4⟩⟩⟩⟩
          all_goals (gi_wp2_with fail)
          all_goals (gi_region_with (fail))
          all_goals (gi_wp2_with fail)
          all_goals exact rpl_stop HhRq.out Hi1.out Hn1.out Hf1.out Hne1.out Hne2.out Hne3.out Hhag.out Hhnx.out ⟨rfl, rfl, rfl⟩ (by rw [hq4, hq5]; rfl)
    case done =>
      rintro D R W hD hk hnD ⟨hRq, hi, hn4, he5, hL, hLog, hag⟩ hdef
      have ic := cells_of hi
      have il := lt_of_heap hi
      have nc := cells_of hn4
      have nl := lt_of_heap hn4
      have nF := frozen_of hn4
      have fc := cells_of he5
      have fl := lt_of_heap he5
      have fF := frozen_of he5
      have Lc := cells_of hL
      have Ll := lt_of_heap hL
      rw [hib] at ic il
      rw [hq4] at nc nl nF
      rw [hq5] at fc fl fF
      rw [hqL] at Lc Ll
      obtain ⟨l, hl⟩ : ∃ l, l = runLog T p c := ⟨_, rfl⟩
      rw [← hl] at ic hag
      have hlm : l.length ≤ m.length := by rw [← hag]; exact (agree_le l m).2
      have hcase : l.length < m.length ∨ l.length = m.length := by omega
      have hrep := Lib.hid (show replayT l m = ((l.length : Int), if l.length < m.length then 23 else 0) by
        unfold replayT
        rw [hag]
        by_cases h : l.length < m.length
        · rw [if_pos (.inr h), if_pos h]
        · rw [if_neg (by omega), if_neg h])
      have HhRq := Lib.hid hRq; clear hRq; have Hhi := Lib.hid hi; clear hi; have Hhn4 := Lib.hid hn4; clear hn4; have Hhe5 := Lib.hid he5; clear he5; have HhL := Lib.hid hL; clear hL; have HhLog := Lib.hid hLog; clear hLog; have Hhag := Lib.hid hag; clear hag; have Hhk := Lib.hid hk; clear hk; have Hhdef := Lib.hid hdef; clear hdef; have Hhl := Lib.hid hl; clear hl
      have nD4 : q4 ≠ D := fun e => hnD ((HhRq.out D).2 (.inr (.inl e.symm)))
      have nD5 : q5 ≠ D := fun e => hnD ((HhRq.out D).2 (.inr (.inr e.symm)))
      have hbelow : ∀ V : World, (V.os = W.os ∧ V.tape = W.tape ∧ V.output = W.output) → W.heap.size ≤ V.heap.size → (∀ q, q < w.heap.size → V.heap[q]? = W.heap[q]?) → Below w.heap.size w V := by
        intro V hr hs hq
        have hk2 := Hhk.out
        have hz2 := hk2.size
        have hz3 := hbw2.size
        refine ⟨hr.1.trans (hk2.os.trans hbw2.os), hr.2.1.trans (hk2.tape.trans hbw2.tape), hr.2.2.trans (hk2.output.trans hbw2.output), by omega, fun q h => (hq q h).trans ((hk2.block q (by omega) (fun ho => ?_)).trans (hbw2.block q h))⟩
        rcases ho with ho | ho | ho | ho
        · have := hr2.lo q ho; omega
        · omega
        · omega
        · omega
      have Hhbelow := Lib.hid hbelow; clear hbelow
      rcases hcase with hlt | heq
      · go_wp2_with fail
        have hbelow := Hhbelow.out
        obtain ⟨V1, hV1⟩ : ∃ V, V = (W.setCell ⟨w.heap.size + 1 + 1 + 1 + 1, 0, none⟩ (.int .i64 l.length)).setCell ⟨w.heap.size + 1 + 1 + 1 + 1 + 1, 0, none⟩ (.int .i64 23) := ⟨_, rfl⟩
        have hVo : ∀ q, q ≠ q4 → q ≠ q5 → V1.heap[q]? = W.heap[q]? := fun q x y => by rw [hV1]; exact (setCell_other _ _ _ _ (by omega)).trans (setCell_other _ _ _ _ (by omega))
        have hV4 : V1.heap[q4]? = some (.cells #[.int .i64 l.length] 3 (0, 0)) := by rw [hV1, ← hq4]; exact (setCell_other _ _ _ _ (by omega)).trans ((heap_setCell_at Hhn4.out _).trans rfl)
        have hV5 : V1.heap[q5]? = some (.cells #[.int .i64 23] 34 (0, 0)) := by rw [hV1, ← hq5, ← hq4]; exact (heap_setCell_at ((setCell_other _ _ _ _ (by omega)).trans Hhe5.out) _).trans rfl
        have hVs : V1.heap.size = W.heap.size := by rw [hV1]; simp [World.setCell]
        have hVr : V1.os = W.os ∧ V1.tape = W.tape ∧ V1.output = W.output := by rw [hV1]; exact ⟨rfl, rfl, rfl⟩
        rw [← hV1]
        have hVD := (hVo D nD4.symm nD5.symm).trans Hhdef.out
        refine ⟨by simp, .inl ⟨_, _, rfl, run_takeDeferred hVD, ?_⟩⟩
        have c4 : (V1.putObj D (.deferred none)).cell? ⟨w.heap.size + 1 + 1 + 1 + 1, 0, none⟩ = some (.int .i64 l.length) := by rw [← hq4]; exact (World.cell?_of_block (w := V1) (a := ⟨q4, 0, none⟩) (World.putObj_heap_other nD4)).trans ((cells_of hV4 0).trans rfl)
        have c5 : (V1.putObj D (.deferred none)).cell? ⟨w.heap.size + 1 + 1 + 1 + 1 + 1, 0, none⟩ = some (.int .i64 23) := by rw [← hq5]; exact (World.cell?_of_block (w := V1) (a := ⟨q5, 0, none⟩) (World.putObj_heap_other nD5)).trans ((cells_of hV5 0).trans rfl)
        have hBV := hbelow (V1.putObj D (.deferred none)) hVr (by simp [hVs]) (fun q hq => (World.putObj_heap_other (by omega)).trans (hVo q (by omega) (by omega)))
        clear hV1
        have HhBV := Lib.hid hBV; clear hBV; have HhVo := Lib.hid hVo; clear hVo; have HhV4 := Lib.hid hV4; clear hV4; have HhV5 := Lib.hid hV5; clear hV5; have HhVs := Lib.hid hVs; clear hVs; have HhVr := Lib.hid hVr; clear hVr; have HhVD := Lib.hid hVD; clear hVD
        refine ⟨.tuple #[.int .i64 l.length, .int .i64 23], by simp [results, Try.results20, go_sem, *], ?_⟩
        exact ⟨HhBV.out, .inr ⟨Hhv.out, Hhc.out, by rw [← Hhl.out, hrep.out, if_pos hlt]⟩⟩
      · go_wp2_with fail
        have hbelow := Hhbelow.out
        obtain ⟨V1, hV1⟩ : ∃ V, V = (W.setCell ⟨w.heap.size + 1 + 1 + 1 + 1, 0, none⟩ (.int .i64 m.length)).setCell ⟨w.heap.size + 1 + 1 + 1 + 1 + 1, 0, none⟩ (.int .i64 0) := ⟨_, rfl⟩
        have hVo : ∀ q, q ≠ q4 → q ≠ q5 → V1.heap[q]? = W.heap[q]? := fun q x y => by rw [hV1]; exact (setCell_other _ _ _ _ (by omega)).trans (setCell_other _ _ _ _ (by omega))
        have hV4 : V1.heap[q4]? = some (.cells #[.int .i64 m.length] 3 (0, 0)) := by rw [hV1, ← hq4]; exact (setCell_other _ _ _ _ (by omega)).trans ((heap_setCell_at Hhn4.out _).trans rfl)
        have hV5 : V1.heap[q5]? = some (.cells #[.int .i64 0] 34 (0, 0)) := by rw [hV1, ← hq5, ← hq4]; exact (heap_setCell_at ((setCell_other _ _ _ _ (by omega)).trans Hhe5.out) _).trans rfl
        have hVs : V1.heap.size = W.heap.size := by rw [hV1]; simp [World.setCell]
        have hVr : V1.os = W.os ∧ V1.tape = W.tape ∧ V1.output = W.output := by rw [hV1]; exact ⟨rfl, rfl, rfl⟩
        rw [← hV1]
        have hVD := (hVo D nD4.symm nD5.symm).trans Hhdef.out
        refine ⟨by simp, .inl ⟨_, _, rfl, run_takeDeferred hVD, ?_⟩⟩
        have c4 : (V1.putObj D (.deferred none)).cell? ⟨w.heap.size + 1 + 1 + 1 + 1, 0, none⟩ = some (.int .i64 m.length) := by rw [← hq4]; exact (World.cell?_of_block (w := V1) (a := ⟨q4, 0, none⟩) (World.putObj_heap_other nD4)).trans ((cells_of hV4 0).trans rfl)
        have c5 : (V1.putObj D (.deferred none)).cell? ⟨w.heap.size + 1 + 1 + 1 + 1 + 1, 0, none⟩ = some (.int .i64 0) := by rw [← hq5]; exact (World.cell?_of_block (w := V1) (a := ⟨q5, 0, none⟩) (World.putObj_heap_other nD5)).trans ((cells_of hV5 0).trans rfl)
        have hBV := hbelow (V1.putObj D (.deferred none)) hVr (by simp [hVs]) (fun q hq => (World.putObj_heap_other (by omega)).trans (hVo q (by omega) (by omega)))
        clear hV1
        have HhBV := Lib.hid hBV; clear hBV; have HhVo := Lib.hid hVo; clear hVo; have HhV4 := Lib.hid hV4; clear hV4; have HhV5 := Lib.hid hV5; clear hV5; have HhVs := Lib.hid hVs; clear hVs; have HhVr := Lib.hid hVr; clear hVr; have HhVD := Lib.hid hVD; clear hVD
        refine ⟨.tuple #[.int .i64 m.length, .int .i64 0], by simp [results, Try.results20, go_sem, *], ?_⟩
        exact ⟨HhBV.out, .inr ⟨Hhv.out, Hhc.out, by rw [← Hhl.out, hrep.out, if_neg (by omega), heq]⟩⟩
    case stop =>
      rintro D R cd pre W hD hk hnD hpre ⟨rfl, hRq, ⟨v, hi⟩, k, hag, hn4, he5⟩ hdef
      have nc := cells_of hn4
      have nl := lt_of_heap hn4
      have fc := cells_of he5
      have fl := lt_of_heap he5
      rw [hq4] at nc nl
      rw [hq5] at fc fl
      obtain ⟨hag1, hag2⟩ := hag _ hpre
      have hrep := Lib.hid (show replayT (runLog T p c) m = ((k : Int), 23) by
        unfold replayT
        rw [hag1, if_pos (.inl hag2)])
      have nD4 : q4 ≠ D := fun e => hnD ((hRq D).2 (.inr (.inl e.symm)))
      have nD5 : q5 ≠ D := fun e => hnD ((hRq D).2 (.inr (.inr e.symm)))
      have c4 : (W.putObj D (.deferred none)).cell? ⟨w.heap.size + 1 + 1 + 1 + 1, 0, none⟩ = some (.int .i64 k) := by rw [← hq4]; exact (World.cell?_of_block (w := W) (a := ⟨q4, 0, none⟩) (World.putObj_heap_other nD4)).trans ((cells_of hn4 0).trans rfl)
      have c5 : (W.putObj D (.deferred none)).cell? ⟨w.heap.size + 1 + 1 + 1 + 1 + 1, 0, none⟩ = some (.int .i64 23) := by rw [← hq5]; exact (World.cell?_of_block (w := W) (a := ⟨q5, 0, none⟩) (World.putObj_heap_other nD5)).trans ((cells_of he5 0).trans rfl)
      have hbelow : Below w.heap.size w (W.putObj D (.deferred none)) := by
        have hz2 := hk.size
        have hz3 := hbw2.size
        refine ⟨hk.os.trans hbw2.os, hk.tape.trans hbw2.tape, hk.output.trans hbw2.output, by simp; omega, fun q h => (World.putObj_heap_other (by omega)).trans ((hk.block q (by omega) (fun ho => ?_)).trans (hbw2.block q h))⟩
        rcases ho with ho | ho | ho | ho
        · have := hr2.lo q ho; omega
        · omega
        · omega
        · omega
      have HhRq := Lib.hid hRq; clear hRq; have Hhi := Lib.hid hi; clear hi; have Hhn4 := Lib.hid hn4; clear hn4; have Hhe5 := Lib.hid he5; clear he5; have Hhag := Lib.hid hag; clear hag; have Hhag1 := Lib.hid hag1; clear hag1; have Hhag2 := Lib.hid hag2; clear hag2; have Hhk := Lib.hid hk; clear hk; have Hhdef := Lib.hid hdef; clear hdef; have Hhbelow := Lib.hid hbelow; clear hbelow
      refine wpIn_wide.2 ?_
      go_wp2_with fail
      refine ⟨by simp, .inl ⟨_, _, rfl, run_takeDeferred Hhdef.out, ?_⟩⟩
      refine ⟨.tuple #[.int .i64 k, .int .i64 23], by simp [results, Try.results20, go_sem, *], ?_⟩
      exact ⟨Hhbelow.out, .inr ⟨Hhv.out, Hhc.out, by rw [hrep.out]⟩⟩

  · have hbe : begunErr T p c ≠ 0 := by
      unfold begunErr
      by_cases h : verifyT T p = 0
      · rw [if_pos h]; exact fun e => hz ⟨h, e⟩
      · rw [if_neg h]; exact h
    have HB2 : ∀ W, Below w.heap.size w W → Calls Try.prog 32 #[.agg #[.int .i64 T.steps, .slice a1 T.places.length c1, .slice a2 T.ways.length c2, .slice a3 T.groups.length c3, .slice a4 T.vehicles.length c4], .agg #[.slice p1 p.trips.length d1, .slice p2 p.rides.length d2], .agg #[.slice l1 c.late.length e1, .slice l2 c.absent.length e2, .slice l3 c.rides.length e3, .slice l4 c.broken.length e4]] W
        fun e w' => e = .returned (.tuple #[.pointer none, .int .i64 (begunErr T p c)]) ∧ Below W.heap.size W w' := by
      intro W hW
      refine (HBg W hW).mono ?_
      rintro e w' ⟨hb, ⟨_, he⟩ | ⟨h1, h2, _⟩⟩
      · exact ⟨he, hb⟩
      · exact absurd ⟨h1, h2⟩ hz
    obtain ⟨ev, hev⟩ : ∃ v, begunErr T p c = v := ⟨_, rfl⟩
    rw [hev] at HB2 hbe
    have hd : (ev != 0) = true := by simpa using hbe
    clear HBg hz
    have HHB2 := Lib.hid HB2; clear HB2; have HhT := Lib.hid hT; clear hT; have HhP := Lib.hid hP; clear hP; have HhC := Lib.hid hC; clear hC; have HhM := Lib.hid hM; clear hM; have Hhev := Lib.hid hev; clear hev
    refine (callsIn_wide (n := 5)).1 ?_
    refine callsIn_of_wp_marks Try.func20 rfl trivial ?_ rfl
    simp only [Try.ntmps20, List.size_toArray, List.length_cons, List.length_nil, Nat.reduceAdd, Nat.reduceSub, Array.replicate_succ, Array.replicate_zero, List.push_toArray, List.append_toArray, List.nil_append, List.cons_append]
    refine wpIn_wide.2 ?_
    go_wp2_with (go_at_call 32; refine (HHB2.out _ (by repeat (first | exact Below.refl _ _ | (refine bl_setCell ?_ _ _ ?_; rotate_left; focus (first | omega | (simp; done) | (simp; omega))) | refine bl_alloc ?_ _ | refine bl_step ?_ (by assumption) | refine bl_drew ?_ | refine bl_drewN ?_ _))).mono ?_; rintro e w1 ⟨rfl, hb1⟩; obtain ⟨_, _, _⟩ := bk (w.heap.size) hb1 (by (first | omega | (simp; done) | (simp; omega))); obtain ⟨_, _, _⟩ := bk (w.heap.size + 1 + 1 + 1 + 1) hb1 (by (first | omega | (simp; done) | (simp; omega))); obtain ⟨_, _, _⟩ := bk (w.heap.size + 1 + 1 + 1 + 1 + 1) hb1 (by (first | omega | (simp; done) | (simp; omega))); have hzhb1 := bsz hb1; (try simp only [World.size_alloc] at hzhb1))
    refine ⟨.tuple #[.int .i64 0, .int .i64 ev], by simp [results, Try.results20, go_sem, *], ?_⟩
    exact ⟨(by repeat (first | exact Below.refl _ _ | (refine bl_setCell ?_ _ _ ?_; rotate_left; focus (first | omega | (simp; done) | (simp; omega))) | refine bl_alloc ?_ _ | refine bl_step ?_ (by assumption) | refine bl_drew ?_ | refine bl_drewN ?_ _)), .inl (by rw [Hhev.out]; exact ⟨hbe, rfl⟩)⟩

end Go.Proofs.Ytjoihijlcpnhoaa
