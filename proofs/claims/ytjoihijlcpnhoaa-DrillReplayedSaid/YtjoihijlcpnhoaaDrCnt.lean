/- drill: Run. -/
import Derived.Test.YtjoihijlcpnhoaaDrC
import Derived.Test.YtjoihijlcpnhoaaBgC
import Derived.Test.YtjoihijlcpnhoaaDrTb
namespace Go.Proofs.Ytjoihijlcpnhoaa
open Go.RowKit Go.Shelf

theorem enters_log1 : ∀ (args : Array Value) (w : World), (callFunc 65 args).run Try.prog w = .ok (.enter 65 args) w := by
  intro args w
  go_simp

set_option maxHeartbeats 4000000 in
set_option maxRecDepth 100000 in
theorem collect_any {N : Nat} (gf : Nat) (lb : Array Value) (xs : List Entry) (O1 O2 : Nat → Prop) (w : World) (hit : IterW N Try.prog gf lb (fun e => #[encEn e]) O1 O2 xs w) (hNw : N ≤ w.heap.size) (hO1 : ∀ q, O1 q → q < w.heap.size) (eg : ∀ args w, (callFunc gf args).run Try.prog w = .ok (.enter gf args) w) :
    Calls Try.prog 33 #[.func (.func gf) #[] lb] w
      fun e w' => ∃ v, e = .returned v ∧ w'.ownsRow w.heap.size 69 5 v xs.length (logCells xs) ∧ KeepsP O2 w w' := by
  have HA := Lib.hid (appendSeq_any gf lb xs O1 O2 w hit hNw hO1 eg)
  clear hit hO1 eg hNw
  go_enter Try.func33, Try.ntmps33
  go_wp2_with (go_at_call 64; refine HA.out.mono ?_; rintro e w1 ⟨v, rfl, hr, hk⟩)
  go_ret
  exact ⟨v, rfl, hr, hk⟩

set_option maxHeartbeats 4000000 in
set_option maxRecDepth 100000 in
theorem logged_any (rb : Nat) (w : World) :
    Calls Try.prog 34 #[.pointer (some ⟨rb, 0, none⟩)] w
      fun e w' => e = .returned (.func (.func 65) #[] #[.pointer (some ⟨w.heap.size, 0, none⟩)]) ∧ Below w.heap.size w w' ∧ w'.heap[w.heap.size]? = some (.cells #[.pointer (some ⟨rb, 0, none⟩)] 106 (0, 0)) := by
  go_enter Try.func34, Try.ntmps34
  go_wp2_with fail
  go_ret
  exact ⟨rfl, (by repeat (first | exact Below.refl _ _ | (refine bl_setCell ?_ _ _ ?_; rotate_left; focus (first | omega | (simp; done) | (simp; omega))) | refine bl_alloc ?_ _ | refine bl_step ?_ (by assumption) | refine bl_drew ?_ | refine bl_drewN ?_ _)), heap_alloc_at _ _⟩

/-- What Run answers. -/
def RunPost (T : Town) (p : Plan) (c : Case) (w : World) (e : Ending) (w' : World) : Prop :=
  Below w.heap.size w w' ∧ ((begunErr T p c ≠ 0 ∧ e = .returned (.tuple #[.slice none 0 0, .int .i64 (begunErr T p c)])) ∨
    (verifyT T p = 0 ∧ caseErr p c = 0 ∧ ∃ v, e = .returned (.tuple #[v, .int .i64 0]) ∧ w'.ownsRow w.heap.size 69 5 v (runLog T p c).length (logCells (runLog T p c))))

theorem runLog_few {T : Town} {p : Plan} {c : Case} (hv : verifyT T p = 0) (hc : caseErr p c = 0) : (runLog T p c).length ≤ 100000000 := by
  obtain ⟨hG, hP⟩ := verifyT_zero hv
  obtain ⟨hR, _, _⟩ := begunS_good hG hP (caseErr_zero hc)
  have h1 := playN_log hG p.trips.length _ _ (begunS T p c) hR rfl rfl (T.steps.toNat + 1) (by have := hG.steps; omega)
  have h2 := hR.np
  have h3 := hR.nw
  have h4 : (begunS T p c).log.length = 0 := rfl
  have h5 : (T.steps.toNat + 1) * (4 * (2 * (begunS T p c).parties.length + (begunS T p c).waits.length)) ≤ 201 * (4 * (2 * (begunS T p c).parties.length + (begunS T p c).waits.length)) := Nat.mul_le_mul_right _ (by have := hG.steps; omega)
  show (playN T p.trips.length (T.steps.toNat + 1) (begunS T p c)).log.length ≤ _
  omega

set_option maxHeartbeats 8000000 in
set_option maxRecDepth 100000 in
theorem run_any (T : Town) (a1 a2 a3 a4 : Option Addr) (c1 c2 c3 c4 : Nat) (p : Plan) (p1 p2 : Option Addr) (d1 d2 : Nat) (c : Case) (l1 l2 l3 l4 : Option Addr) (e1 e2 e3 e4 : Nat) (w : World) (hT : TownM w.heap.size w a1 a2 a3 a4 T) (hP : PlanM w.heap.size w p1 p2 p) (hC : CaseM w.heap.size w l1 l2 l3 l4 c) :
    Calls Try.prog 17 #[.agg #[.int .i64 T.steps, .slice a1 T.places.length c1, .slice a2 T.ways.length c2, .slice a3 T.groups.length c3, .slice a4 T.vehicles.length c4], .agg #[.slice p1 p.trips.length d1, .slice p2 p.rides.length d2], .agg #[.slice l1 c.late.length e1, .slice l2 c.absent.length e2, .slice l3 c.rides.length e3, .slice l4 c.broken.length e4]] w (RunPost T p c w) := by
  have HBg : ∀ W, Below w.heap.size w W → Calls Try.prog 32 #[.agg #[.int .i64 T.steps, .slice a1 T.places.length c1, .slice a2 T.ways.length c2, .slice a3 T.groups.length c3, .slice a4 T.vehicles.length c4], .agg #[.slice p1 p.trips.length d1, .slice p2 p.rides.length d2], .agg #[.slice l1 c.late.length e1, .slice l2 c.absent.length e2, .slice l3 c.rides.length e3, .slice l4 c.broken.length e4]] W (BgPost T a1 a2 a3 a4 c1 c2 c3 c4 p p1 p2 d1 d2 c W) := fun W hW =>
    begun_any T _ _ _ _ _ _ _ _ p _ _ _ _ c l1 l2 l3 l4 e1 e2 e3 e4 W ((hT.below hW).mono hW.size) ((hP.below hW).mono hW.size) ((hC.below hW).mono hW.size)
  by_cases hz : verifyT T p = 0 ∧ caseErr p c = 0
  · obtain ⟨hv, hc⟩ := hz
    have hbe : begunErr T p c = 0 := by unfold begunErr; rw [if_pos hv, hc]
    have HB2 : ∀ W, Below w.heap.size w W → Calls Try.prog 32 #[.agg #[.int .i64 T.steps, .slice a1 T.places.length c1, .slice a2 T.ways.length c2, .slice a3 T.groups.length c3, .slice a4 T.vehicles.length c4], .agg #[.slice p1 p.trips.length d1, .slice p2 p.rides.length d2], .agg #[.slice l1 c.late.length e1, .slice l2 c.absent.length e2, .slice l3 c.rides.length e3, .slice l4 c.broken.length e4]] W
        fun e w' => ∃ (B : Nat) (A : RA), e = .returned (.tuple #[.pointer (some ⟨A.rb, 0, none⟩), .int .i64 0]) ∧ Below W.heap.size W w' ∧ W.heap.size ≤ B ∧ RunM T a1 a2 a3 a4 c1 c2 c3 c4 p p1 p2 d1 d2 B A w' (begunS T p c) 0 none := by
      intro W hW
      refine (HBg W hW).mono ?_
      rintro e w' ⟨hb, ⟨hne, _⟩ | ⟨_, _, B, A, hB, _, _, he, hr⟩⟩
      · exact absurd hbe hne
      · exact ⟨B, A, he, hb, hB, hr⟩
    obtain ⟨hG, hPG⟩ := verifyT_zero hv
    obtain ⟨hR, _, _⟩ := begunS_good hG hPG (caseErr_zero hc)
    have hst := hG.steps
    obtain ⟨n, hn⟩ : ∃ n : Nat, T.steps = n := ⟨T.steps.toNat, by omega⟩
    have hlog : runLog T p c = (playN T p.trips.length (n + 1) (begunS T p c)).log := by
      have e : T.steps.toNat = n := by omega
      unfold runLog playedT
      rw [e]
    have hn2 : n ≤ 200 := by omega
    clear HBg hst
    have HHB2 := Lib.hid HB2; clear HB2; have HhT := Lib.hid hT; clear hT; have HhP := Lib.hid hP; clear hP; have HhC := Lib.hid hC; clear hC; have HhG := Lib.hid hG; clear hG; have HhPG := Lib.hid hPG; clear hPG; have HhR := Lib.hid hR; clear hR; have Hhlog := Lib.hid hlog; clear hlog; have Hhv := Lib.hid hv; clear hv; have Hhc := Lib.hid hc; clear hc; have Hhn := Lib.hid hn; clear hn; have Hhbe := Lib.hid hbe; clear hbe
    go_enter Try.func17, Try.ntmps17
    go_upto_region 4 with (go_at_call 32; refine (HHB2.out _ (by repeat (first | exact Below.refl _ _ | (refine bl_setCell ?_ _ _ ?_; rotate_left; focus (first | omega | (simp; done) | (simp; omega))) | refine bl_alloc ?_ _ | refine bl_step ?_ (by assumption) | refine bl_drew ?_ | refine bl_drewN ?_ _))).mono ?_; rintro e w1 ⟨B, A, rfl, hb1, hB1, hr1⟩; have Hhr1 := Lib.hid hr1; clear hr1)
    have hbw1 : Below w.heap.size w w1 := (by repeat (first | exact Below.refl _ _ | (refine bl_setCell ?_ _ _ ?_; rotate_left; focus (first | omega | (simp; done) | (simp; omega))) | refine bl_alloc ?_ _ | refine bl_step ?_ (by assumption) | refine bl_drew ?_ | refine bl_drewN ?_ _))
    have hB0 : w.heap.size ≤ B := by simp only [World.size_alloc] at hB1; omega
    have HI : ∀ w2, Below w1.heap.size w1 w2 → w2.heap[w1.heap.size]? = some (.cells #[.pointer (some ⟨A.rb, 0, none⟩)] 106 (0, 0)) → Calls Try.prog 33 #[.func (.func 65) #[] #[.pointer (some ⟨w1.heap.size, 0, none⟩)]] w2
        fun e w' => ∃ v, e = .returned v ∧ w'.ownsRow w.heap.size 69 5 v (runLog T p c).length (logCells (runLog T p c)) ∧ Below w.heap.size w w' := by
      intro w2 hb2 hq2
      have hr2 := Hhr1.out.below hb2
      have hit := log_iter T _ _ _ _ _ _ _ _ p _ _ _ _ B A w2 (begunS T p c) n w1.heap.size HhG.out HhPG.out.nt hr2 HhR.out rfl Hhn.out hn2 hq2
      rw [← Hhlog.out] at hit
      refine (collect_any _ _ _ _ _ w2 hit hr2.le (fun q h => ?_) enters_log1).mono ?_
      · rcases h with h | h
        · exact hr2.lt h
        · rw [h]; exact lt_of_heap hq2
      · rintro e w' ⟨v, rfl, hrow, hk⟩
        have hbw2 := bl_step hbw1 hb2
        refine ⟨v, rfl, row_mono hrow hbw2.size, ⟨hk.os.trans hbw2.os, hk.tape.trans hbw2.tape, hk.output.trans hbw2.output, Nat.le_trans hbw2.size hk.size, fun q hq => (hk.block q (Nat.lt_of_lt_of_le hq hbw2.size) (fun ho => ?_)).trans (hbw2.block q hq)⟩⟩
        have := hr2.lo q ho
        omega
    have HHI := Lib.hid HI; clear HI; have Hhbw1 := Lib.hid hbw1; clear hbw1
    go_wp2_with (first | (go_at_call 34; refine (logged_any A.rb w1).mono ?_; rintro e w2 ⟨rfl, hb2, hq2⟩; have Hhq2 := Lib.hid hq2; clear hq2) | (go_at_call 33; refine (HHI.out _ hb2 Hhq2.out).mono ?_; rintro e w3 ⟨v, rfl, hrow, hb3⟩))
    go_ret2
    exact ⟨hb3, .inr ⟨Hhv.out, Hhc.out, v, rfl, hrow⟩⟩
  · have hbe : begunErr T p c ≠ 0 := by
      unfold begunErr
      by_cases h : verifyT T p = 0
      · rw [if_pos h]; exact fun e => hz ⟨h, e⟩
      · rw [if_neg h]; exact h
    have HB2 : ∀ W, Below w.heap.size w W → Calls Try.prog 32 #[.agg #[.int .i64 T.steps, .slice a1 T.places.length c1, .slice a2 T.ways.length c2, .slice a3 T.groups.length c3, .slice a4 T.vehicles.length c4], .agg #[.slice p1 p.trips.length d1, .slice p2 p.rides.length d2], .agg #[.slice l1 c.late.length e1, .slice l2 c.absent.length e2, .slice l3 c.rides.length e3, .slice l4 c.broken.length e4]] W
        fun e w' => e = .returned (.tuple #[.pointer none, .int .i64 (begunErr T p c)]) ∧ Below W.heap.size W w' := by
      intro W hW
      refine (HBg W hW).mono ?_
      rintro e w' ⟨hb, ⟨_, he⟩ | ⟨h1, h2, _⟩⟩
      · exact ⟨he, hb⟩
      · exact absurd ⟨h1, h2⟩ hz
    obtain ⟨ev, hev⟩ : ∃ v, begunErr T p c = v := ⟨_, rfl⟩
    rw [hev] at HB2 hbe
    have hd : (ev != 0) = true := by simpa using hbe
    clear HBg hz
    have HHB2 := Lib.hid HB2; clear HB2; have HhT := Lib.hid hT; clear hT; have HhP := Lib.hid hP; clear hP; have HhC := Lib.hid hC; clear hC; have Hhev := Lib.hid hev; clear hev
    go_enter Try.func17, Try.ntmps17
    go_wp2_with (go_at_call 32; refine (HHB2.out _ (by repeat (first | exact Below.refl _ _ | (refine bl_setCell ?_ _ _ ?_; rotate_left; focus (first | omega | (simp; done) | (simp; omega))) | refine bl_alloc ?_ _ | refine bl_step ?_ (by assumption) | refine bl_drew ?_ | refine bl_drewN ?_ _))).mono ?_; rintro e w1 ⟨rfl, hb1⟩)
    go_ret2
    exact ⟨(by repeat (first | exact Below.refl _ _ | (refine bl_setCell ?_ _ _ ?_; rotate_left; focus (first | omega | (simp; done) | (simp; omega))) | refine bl_alloc ?_ _ | refine bl_step ?_ (by assumption) | refine bl_drew ?_ | refine bl_drewN ?_ _)), .inl (by rw [Hhev.out]; exact ⟨hbe, rfl⟩)⟩

end Go.Proofs.Ytjoihijlcpnhoaa
namespace Go.Proofs.Ytjoihijlcpnhoaa
open Go.RowKit Go.Shelf

/-- The tallies at the end. -/
def countT (T : Town) (p : Plan) (c : Case) : List Tally := talliesT T p (playedT T p c (T.steps.toNat + 1))

/-- What Count answers. -/
def CntPost (T : Town) (p : Plan) (c : Case) (w : World) (e : Ending) (w' : World) : Prop :=
  Below w.heap.size w w' ∧ ((begunErr T p c ≠ 0 ∧ e = .returned (.tuple #[.slice none 0 0, .int .i64 (begunErr T p c)])) ∨
    (verifyT T p = 0 ∧ caseErr p c = 0 ∧ ∃ v, e = .returned (.tuple #[v, .int .i64 0]) ∧ w'.ownsRow w.heap.size 82 6 v T.groups.length (tcells (countT T p c))))

set_option maxHeartbeats 8000000 in
set_option maxRecDepth 100000 in
theorem cnt_any (T : Town) (a1 a2 a3 a4 : Option Addr) (c1 c2 c3 c4 : Nat) (p : Plan) (p1 p2 : Option Addr) (d1 d2 : Nat) (c : Case) (l1 l2 l3 l4 : Option Addr) (e1 e2 e3 e4 : Nat) (w : World) (hT : TownM w.heap.size w a1 a2 a3 a4 T) (hP : PlanM w.heap.size w p1 p2 p) (hC : CaseM w.heap.size w l1 l2 l3 l4 c) :
    Calls Try.prog 19 #[.agg #[.int .i64 T.steps, .slice a1 T.places.length c1, .slice a2 T.ways.length c2, .slice a3 T.groups.length c3, .slice a4 T.vehicles.length c4], .agg #[.slice p1 p.trips.length d1, .slice p2 p.rides.length d2], .agg #[.slice l1 c.late.length e1, .slice l2 c.absent.length e2, .slice l3 c.rides.length e3, .slice l4 c.broken.length e4]] w (CntPost T p c w) := by
  have HBg : ∀ W, Below w.heap.size w W → Calls Try.prog 32 #[.agg #[.int .i64 T.steps, .slice a1 T.places.length c1, .slice a2 T.ways.length c2, .slice a3 T.groups.length c3, .slice a4 T.vehicles.length c4], .agg #[.slice p1 p.trips.length d1, .slice p2 p.rides.length d2], .agg #[.slice l1 c.late.length e1, .slice l2 c.absent.length e2, .slice l3 c.rides.length e3, .slice l4 c.broken.length e4]] W (BgPost T a1 a2 a3 a4 c1 c2 c3 c4 p p1 p2 d1 d2 c W) := fun W hW =>
    begun_any T _ _ _ _ _ _ _ _ p _ _ _ _ c l1 l2 l3 l4 e1 e2 e3 e4 W ((hT.below hW).mono hW.size) ((hP.below hW).mono hW.size) ((hC.below hW).mono hW.size)
  by_cases hz : verifyT T p = 0 ∧ caseErr p c = 0
  · obtain ⟨hv, hc⟩ := hz
    have hbe : begunErr T p c = 0 := by unfold begunErr; rw [if_pos hv, hc]
    have HB2 : ∀ W, Below w.heap.size w W → Calls Try.prog 32 #[.agg #[.int .i64 T.steps, .slice a1 T.places.length c1, .slice a2 T.ways.length c2, .slice a3 T.groups.length c3, .slice a4 T.vehicles.length c4], .agg #[.slice p1 p.trips.length d1, .slice p2 p.rides.length d2], .agg #[.slice l1 c.late.length e1, .slice l2 c.absent.length e2, .slice l3 c.rides.length e3, .slice l4 c.broken.length e4]] W
        fun e w' => ∃ (B : Nat) (A : RA), e = .returned (.tuple #[.pointer (some ⟨A.rb, 0, none⟩), .int .i64 0]) ∧ Below W.heap.size W w' ∧ W.heap.size ≤ B ∧ A.k = 61 ∧ A.lb = #[] ∧ RunM T a1 a2 a3 a4 c1 c2 c3 c4 p p1 p2 d1 d2 B A w' (begunS T p c) 0 none := by
      intro W hW
      refine (HBg W hW).mono ?_
      rintro e w' ⟨hb, ⟨hne, _⟩ | ⟨_, _, B, A, hB, hA1, hA2, he, hr⟩⟩
      · exact absurd hbe hne
      · exact ⟨B, A, he, hb, hB, hA1, hA2, hr⟩
    obtain ⟨hG, hPG⟩ := verifyT_zero hv
    have hCG := caseErr_zero hc
    obtain ⟨hR, hlp, hlw⟩ := begunS_good hG hPG hCG
    have hst := hG.steps
    obtain ⟨n, hn⟩ : ∃ n : Nat, T.steps = n := ⟨T.steps.toNat, by omega⟩
    have hcnt : countT T p c = talliesT T p (playN T p.trips.length (n + 1) (begunS T p c)) := by
      have e : T.steps.toNat = n := by omega
      unfold countT playedT
      rw [e]
    have hn2 : n ≤ 200 := by omega
    clear HBg hst
    have HHB2 := Lib.hid HB2; clear HB2; have HhT := Lib.hid hT; clear hT; have HhP := Lib.hid hP; clear hP; have HhC := Lib.hid hC; clear hC; have HhG := Lib.hid hG; clear hG; have HhPG := Lib.hid hPG; clear hPG; have HhCG := Lib.hid hCG; clear hCG; have HhR := Lib.hid hR; clear hR; have Hhcnt := Lib.hid hcnt; clear hcnt; have Hhv := Lib.hid hv; clear hv; have Hhc := Lib.hid hc; clear hc; have Hhn := Lib.hid hn; clear hn; have Hhbe := Lib.hid hbe; clear hbe; have Hhlp := Lib.hid hlp; clear hlp; have Hhlw := Lib.hid hlw; clear hlw
    go_enter Try.func19, Try.ntmps19
    go_upto_region 4 with (go_at_call 32; refine (HHB2.out _ (by repeat (first | exact Below.refl _ _ | (refine bl_setCell ?_ _ _ ?_; rotate_left; focus (first | omega | (simp; done) | (simp; omega))) | refine bl_alloc ?_ _ | refine bl_step ?_ (by assumption) | refine bl_drew ?_ | refine bl_drewN ?_ _))).mono ?_; rintro e w1 ⟨B, A, rfl, hb1, hB1, hA1, hA2, hr1⟩; have Hhr1 := Lib.hid hr1; clear hr1)
    have hbw1 : Below w.heap.size w w1 := (by repeat (first | exact Below.refl _ _ | (refine bl_setCell ?_ _ _ ?_; rotate_left; focus (first | omega | (simp; done) | (simp; omega))) | refine bl_alloc ?_ _ | refine bl_step ?_ (by assumption) | refine bl_drew ?_ | refine bl_drewN ?_ _))
    have hB0 : w.heap.size ≤ B := by simp only [World.size_alloc] at hB1; omega
    have HPl : Calls Try.prog 35 #[.pointer (some ⟨A.rb, 0, none⟩), .int .i64 n] w1 fun e w' => (∃ u, e = .returned u) ∧ Below w.heap.size w w' ∧ ∃ um' s', RunM T a1 a2 a3 a4 c1 c2 c3 c4 p p1 p2 d1 d2 B A w' (playN T p.trips.length (n + 1) (begunS T p c)) s' um' := by
      have hN : NoteC B A.k A.lb (fun _ (P : Nat → Prop) (_ : List Entry) => ∀ q, ¬ P q) := by rw [hA1, hA2]; exact none_note
      refine (play_any T _ _ _ _ _ _ _ _ p _ _ _ _ B A _ hN HhG.out HhPG.out.nt w1 (begunS T p c) 0 n (fun _ => False) ⟨Hhr1.out, fun _ h => h, fun _ h => h.elim⟩ HhR.out hn2 (by simp [begunS])).mono ?_
      rintro e w' ⟨hu, um', P', hr, hf⟩
      refine ⟨hu, ⟨hf.os.trans hbw1.os, hf.tape.trans hbw1.tape, hf.output.trans hbw1.output, Nat.le_trans hbw1.size hf.size, fun q hq => (hf.block q (Nat.lt_of_lt_of_le hq hbw1.size) (fun ho => ?_) (by simp) (fun h => h)).trans (hbw1.block q hq)⟩, um', _, hr.run⟩
      have := Hhr1.out.lo q ho
      omega
    have HTl : ∀ w2, Below w.heap.size w w2 → (∃ um' s', RunM T a1 a2 a3 a4 c1 c2 c3 c4 p p1 p2 d1 d2 B A w2 (playN T p.trips.length (n + 1) (begunS T p c)) s' um') → Calls Try.prog 36 #[.pointer (some ⟨A.rb, 0, none⟩)] w2
        fun e w' => ∃ v, e = .returned v ∧ w'.ownsRow w.heap.size 82 6 v T.groups.length (tcells (countT T p c)) ∧ Below w.heap.size w w' := by
      rintro w2 hb2 ⟨um', s', hr2⟩
      obtain ⟨g1, g2, g3⟩ := playN_good HhG.out p.trips.length _ _ (begunS T p c) HhR.out rfl rfl (n + 1) (by omega)
      refine (tallies_any T _ _ _ _ _ _ _ _ p _ _ _ _ B A w2 _ s' um' HhG.out HhPG.out hr2 g1 (TalG.play _ T _ (n + 1) _ (begunS_tal HhG.out HhPG.out HhCG.out)) (g2.trans Hhlp.out) ?_).mono ?_
      · rw [g3, Hhlw.out, rideWaits_boards _ _ (Nat.le_refl _), List.take_length]
      · rintro e w' ⟨v, rfl, hrow, hb⟩
        rw [Hhcnt.out]
        exact ⟨v, rfl, row_mono hrow hb2.size, bl_step hb2 hb⟩
    have y3 : w1.heap[w.heap.size]? = some (.cells (townBox T a1 a2 a3 a4 c1 c2 c3 c4) 27 (0, 0)) := heap_below hb1 (by unfold townBox; repeat (first | with_reducible assumption | (with_reducible refine heap_alloc_at' _ _ ?_; focus (simp; done)) | with_reducible refine heap_alloc_off ?_ _ | (with_reducible refine heap_setCell_off ?_ _ ?_; rotate_left; focus omega) | with_reducible refine heap_drew' ?_ | with_reducible refine heap_drewN' ?_ | with_reducible refine heap_below (by with_reducible assumption) ?_))
    have z3 := cells_of y3
    simp only [townBox] at z3
    rw [Hhn.out] at z3
    have HHPl := Lib.hid HPl; clear HPl; have HHTl := Lib.hid HTl; clear HTl; have Hhbw1 := Lib.hid hbw1; clear hbw1; have Hy3 := Lib.hid y3; clear y3
    go_wp2_with (first | (go_at_call 35; refine HHPl.out.mono ?_; rintro e w2 ⟨⟨u, rfl⟩, hb2, hr2⟩; have Hhb2 := Lib.hid hb2; clear hb2; have Hhr2 := Lib.hid hr2; clear hr2) | (go_at_call 36; refine (HHTl.out _ Hhb2.out Hhr2.out).mono ?_; rintro e w3 ⟨v, rfl, hrow, hb3⟩))
    go_ret2
    exact ⟨hb3, .inr ⟨Hhv.out, Hhc.out, v, rfl, hrow⟩⟩
  · have hbe : begunErr T p c ≠ 0 := by
      unfold begunErr
      by_cases h : verifyT T p = 0
      · rw [if_pos h]; exact fun e => hz ⟨h, e⟩
      · rw [if_neg h]; exact h
    have HB2 : ∀ W, Below w.heap.size w W → Calls Try.prog 32 #[.agg #[.int .i64 T.steps, .slice a1 T.places.length c1, .slice a2 T.ways.length c2, .slice a3 T.groups.length c3, .slice a4 T.vehicles.length c4], .agg #[.slice p1 p.trips.length d1, .slice p2 p.rides.length d2], .agg #[.slice l1 c.late.length e1, .slice l2 c.absent.length e2, .slice l3 c.rides.length e3, .slice l4 c.broken.length e4]] W
        fun e w' => e = .returned (.tuple #[.pointer none, .int .i64 (begunErr T p c)]) ∧ Below W.heap.size W w' := by
      intro W hW
      refine (HBg W hW).mono ?_
      rintro e w' ⟨hb, ⟨_, he⟩ | ⟨h1, h2, _⟩⟩
      · exact ⟨he, hb⟩
      · exact absurd ⟨h1, h2⟩ hz
    obtain ⟨ev, hev⟩ : ∃ v, begunErr T p c = v := ⟨_, rfl⟩
    rw [hev] at HB2 hbe
    have hd : (ev != 0) = true := by simpa using hbe
    clear HBg hz
    have HHB2 := Lib.hid HB2; clear HB2; have HhT := Lib.hid hT; clear hT; have HhP := Lib.hid hP; clear hP; have HhC := Lib.hid hC; clear hC; have Hhev := Lib.hid hev; clear hev
    go_enter Try.func19, Try.ntmps19
    go_wp2_with (go_at_call 32; refine (HHB2.out _ (by repeat (first | exact Below.refl _ _ | (refine bl_setCell ?_ _ _ ?_; rotate_left; focus (first | omega | (simp; done) | (simp; omega))) | refine bl_alloc ?_ _ | refine bl_step ?_ (by assumption) | refine bl_drew ?_ | refine bl_drewN ?_ _))).mono ?_; rintro e w1 ⟨rfl, hb1⟩)
    go_ret2
    exact ⟨(by repeat (first | exact Below.refl _ _ | (refine bl_setCell ?_ _ _ ?_; rotate_left; focus (first | omega | (simp; done) | (simp; omega))) | refine bl_alloc ?_ _ | refine bl_step ?_ (by assumption) | refine bl_drew ?_ | refine bl_drewN ?_ _)), .inl (by rw [Hhev.out]; exact ⟨hbe, rfl⟩)⟩

end Go.Proofs.Ytjoihijlcpnhoaa
