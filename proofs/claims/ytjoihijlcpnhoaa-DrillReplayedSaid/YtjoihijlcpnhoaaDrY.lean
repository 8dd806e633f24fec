/- drill: play. -/
import Derived.Test.YtjoihijlcpnhoaaDrW
import Derived.Test.YtjoihijlcpnhoaaDrX
import Derived.Test.YtjoihijlcpnhoaaDrU
namespace Go.Proofs.Ytjoihijlcpnhoaa
open Go.RowKit

def phaseCells (rb : Nat) : Array Value :=
  #[.func (.func 67) #[.pointer (some ⟨rb, 0, none⟩)] #[], .func (.func 68) #[.pointer (some ⟨rb, 0, none⟩)] #[], .func (.func 69) #[.pointer (some ⟨rb, 0, none⟩)] #[], .func (.func 70) #[.pointer (some ⟨rb, 0, none⟩)] #[]]

/-- The step that the run's block holds. -/
def stepCell (rb : Nat) (W : World) : Nat := match W.cell? ⟨rb, 11, none⟩ with
  | some (.int _ z) => z.toNat
  | _ => 0

theorem phaseN_log (T : Town) (n s : Int) (np nw : Nat) (r : RunS) : ∀ i, i ≤ 4 → (phaseN T n s np nw r i).log.length ≤ r.log.length + i * (2 * np + nw) := by
  have a1 := each1_log (arrive_log s) np { r with used := [] }
  have a2 := each1_log (flood_log T s) np (eachI (arriveAt s) np { r with used := [] })
  have a3 := each1_log (floodW_log T n s) nw (eachI (floodAt T s) np (eachI (arriveAt s) np { r with used := [] }))
  have a4 := each1_log (enter_log T s) np (eachI (floodW T n s) nw (eachI (floodAt T s) np (eachI (arriveAt s) np { r with used := [] })))
  have a5 := each1_log (begin_log T s) np (eachI (enterAt T s) np (eachI (floodW T n s) nw (eachI (floodAt T s) np (eachI (arriveAt s) np { r with used := [] }))))
  simp only at a1
  intro i hi
  match i, hi with
  | 0, _ => show r.log.length ≤ _; omega
  | 1, _ => show (eachI (arriveAt s) np { r with used := [] }).log.length ≤ _; omega
  | 2, _ => show (eachI (floodW T n s) nw _).log.length ≤ _; omega
  | 3, _ => show (eachI (enterAt T s) np _).log.length ≤ _; omega
  | 4, _ => show (eachI (beginAt T s) np _).log.length ≤ _; omega
theorem playN_log {T : Town} (hG : TownG T) (n : Int) (np nw : Nat) (r : RunS) (hr : RunG T r) (h1 : r.parties.length = np) (h2 : r.waits.length = nw) : ∀ k, k ≤ 201 → (playN T n k r).log.length ≤ r.log.length + k * (4 * (2 * np + nw))
  | 0, _ => by simp [playN]
  | k + 1, hk => by
    have ih := playN_log hG n np nw r hr h1 h2 k (by omega)
    obtain ⟨_, g2, g3⟩ := playN_good hG n np nw r hr h1 h2 k (by omega)
    have h4 := phaseN_log T n k np nw (playN T n k r) 4 (by omega)
    rw [← g2, ← g3, phaseN_all] at h4
    show (stepRun T n k (playN T n k r)).log.length ≤ _
    rw [g2, g3] at h4
    rw [Nat.add_mul]
    omega

set_option maxHeartbeats 16000000 in
set_option maxRecDepth 100000 in
theorem play_any (T : Town) (a1 a2 a3 a4 : Option Addr) (c1 c2 c3 c4 : Nat) (p : Plan) (p1 p2 : Option Addr) (d1 d2 : Nat) (B : Nat) (A : RA) (J : World → (Nat → Prop) → List Entry → Prop) (hN : NoteC B A.k A.lb J) (hG : TownG T) (hnt : p.trips.length ≤ 4096) (w : World) (r : RunS) (s0 : Int) (n : Nat) (P : Nat → Prop)
    (h : RunJ T a1 a2 a3 a4 c1 c2 c3 c4 p p1 p2 d1 d2 B A J w r s0 none P) (hR : RunG T r) (hn : n ≤ 200) (hlog : r.log.length ≤ 100000000) :
    Calls Try.prog 35 #[.pointer (some ⟨A.rb, 0, none⟩), .int .i64 n] w
      fun e w' => (∃ u, e = .returned u) ∧ ∃ um' P', RunJ T a1 a2 a3 a4 c1 c2 c3 c4 p p1 p2 d1 d2 B A J w' (playN T p.trips.length (n + 1) r) (n + 1 : Nat) um' P' ∧ Fr A r.parties.length r.waits.length none P P' w w' := by
  have hac := cells_of h.run.blk
  have haf := frozen_of h.run.blk
  have hal := lt_of_heap h.run.blk
  simp only [runCells] at hac
  have hrb0 := h.run.blk
  have hle := h.run.le
  have Hh := Lib.hid h; clear h; have HhN := Lib.hid hN; clear hN; have HhR := Lib.hid hR; clear hR; have HhG := Lib.hid hG; clear hG; have Hhrb0 := Lib.hid hrb0; clear hrb0; have Hhlog := Lib.hid hlog; clear hlog
  go_enter Try.func35, Try.ntmps35
  go_wp2_with fail
  obtain ⟨w1, hw1⟩ : ∃ W, (w.setCell ⟨A.rb, 11, none⟩ (.int .i64 0)).alloc (.cells (phaseCells A.rb) 1) = W := ⟨_, rfl⟩
  have hb1 : w1.heap[A.rb]? = some (.cells (runCells T a1 a2 a3 a4 c1 c2 c3 c4 p p1 p2 d1 d2 A none 0) 161 (0, 0)) := by
    rw [← hw1]
    exact heap_alloc_off ((heap_setCell_at Hhrb0.out _).trans rfl) _
  have hph : w1.heap[w.heap.size]? = some (.cells (phaseCells A.rb) 1 (0, 0)) := by
    rw [← hw1]
    exact heap_alloc_at' _ _ (by simp [World.setCell])
  have hk1 : w1.os = w.os ∧ w1.tape = w.tape ∧ w1.output = w.output ∧ w.heap.size ≤ w1.heap.size := by
    rw [← hw1]
    exact ⟨rfl, rfl, rfl, by simp [World.setCell]⟩
  have ho1 : ∀ q, q < w.heap.size → q ≠ A.rb → w1.heap[q]? = w.heap[q]? := by
    intro q hq hn
    rw [← hw1]
    exact ((bl_alloc (Below.refl _ _) _).block q (by simpa [World.setCell] using hq)).trans (setCell_other _ _ _ _ hn)
  obtain ⟨hj1, hf1⟩ := Hh.out.turn HhN.out r.used none 0 hb1 ho1 Hh.out.run.used (.inl rfl) hk1
  have hnP0 : ¬ P w.heap.size := fun e => by have := HhN.out.lt _ _ _ _ Hh.out.note e; omega
  have hnown : ¬ A.own r.parties.length r.waits.length w.heap.size := fun e => by have := Hh.out.run.lt e; omega
  unfold phaseCells at hw1
  rw [hw1]
  obtain ⟨qf, hqf⟩ : ∃ q, w.heap.size = q := ⟨_, rfl⟩
  rw [hqf] at hph hnP0 hnown ⊢
  have hqfl : w.heap.size ≤ qf := by omega
  have hqrb : qf ≠ A.rb := by omega
  clear hw1 hb1 hk1 ho1 hac haf hal
  have Hhqf := Lib.hid hqf; clear hqf; have Hhj1 := Lib.hid hj1; clear hj1; have Hhf1 := Lib.hid hf1; clear hf1; have Hhph := Lib.hid hph; clear hph; have Hhnown := Lib.hid hnown; clear hnown
  go_loopw [] (fun wr => ∃ (k : Nat) (um' : Option Nat) (P' : Nat → Prop), k ≤ n + 1 ∧ RunJ T a1 a2 a3 a4 c1 c2 c3 c4 p p1 p2 d1 d2 B A J wr (playN T p.trips.length k r) k um' P' ∧ Fr A r.parties.length r.waits.length none P P' w wr ∧ wr.heap[qf]? = some (.cells (phaseCells A.rb) 1 (0, 0)) ∧ ¬ P' qf ∧ um' ≠ some qf ∧ ∀ m, um' = some m → w.heap.size ≤ m)
    (fun W => n + 1 - stepCell A.rb W)
  case atStart => exact ⟨0, none, P, Nat.zero_le _, Hhj1.out, Hhf1.out, Hhph.out, hnP0, by simp, by simp⟩
  case round =>
    clear hnP0 Hhj1 Hhf1 Hhph
    obtain ⟨k, um, P1, hk, hrj, hfr, hph, hnP, hnu, hum⟩ := hrel
    obtain ⟨hRk, hl1, hl2⟩ := playN_good HhG.out p.trips.length _ _ r HhR.out rfl rfl k (by omega)
    have hlgk := playN_log HhG.out p.trips.length _ _ r HhR.out rfl rfl k (by omega)
    obtain ⟨rk, hrk⟩ : ∃ q, playN T p.trips.length k r = q := ⟨_, rfl⟩
    rw [hrk] at hrj hRk hl1 hl2 hlgk
    have Hhlgk := Lib.hid hlgk; clear hlgk
    have hblk := hrj.run.blk
    have hwac := cells_of hblk
    have hwaf := frozen_of hblk
    have hwal := lt_of_heap hblk
    simp only [runCells] at hwac
    have hst : stepCell A.rb wr = k := by
      unfold stepCell
      rw [hwac]
      rfl
    have hle2 := hrj.run.le
    have Hhrk := Lib.hid hrk; clear hrk; have Hhrj := Lib.hid hrj; clear hrj; have Hhfr := Lib.hid hfr; clear hfr; have HhRk := Lib.hid hRk; clear hRk; have Hhl1 := Lib.hid hl1; clear hl1; have Hhl2 := Lib.hid hl2; clear hl2; have Hhph := Lib.hid hph; clear hph; have Hhblk := Lib.hid hblk; clear hblk; have Hhum := Lib.hid hum; clear hum; have Hhst := Lib.hid hst; clear hst
    by_cases hlt : k ≤ n
    · have hmm := @run_makeMap Try.prog
      go_wp2_with fail
      have hks : 0 ≤ (k : Int) ∧ (k : Int) ≤ 200 := by omega
      obtain ⟨w2, hw2⟩ : ∃ W, (wr.setCell ⟨A.rb, 10, none⟩ (.map (some wr.heap.size))).alloc (.map #[] 0) = W := ⟨_, rfl⟩
      have hb2 : w2.heap[A.rb]? = some (.cells (runCells T a1 a2 a3 a4 c1 c2 c3 c4 p p1 p2 d1 d2 A (some wr.heap.size) k) 161 (0, 0)) := by
        rw [← hw2]
        exact heap_alloc_off ((heap_setCell_at Hhblk.out _).trans rfl) _
      have hz2 : (wr.setCell ⟨A.rb, 10, none⟩ (.map (some wr.heap.size))).heap.size = wr.heap.size := by simp [World.setCell]
      have hk2 : w2.os = wr.os ∧ w2.tape = wr.tape ∧ w2.output = wr.output ∧ wr.heap.size ≤ w2.heap.size := by
        rw [← hw2]
        exact ⟨rfl, rfl, rfl, by simp [World.setCell]⟩
      have ho2 : ∀ q, q < wr.heap.size → q ≠ A.rb → w2.heap[q]? = wr.heap[q]? := by
        intro q hq hn
        rw [← hw2]
        exact ((bl_alloc (Below.refl _ _) _).block q (by omega)).trans (setCell_other _ _ _ _ hn)
      have hm2 : MapE encU intV w2 wr.heap.size [] := by
        have := MapE.made encU intV (wr.setCell ⟨A.rb, 10, none⟩ (.map (some wr.heap.size)))
        rw [hz2, hw2] at this
        exact this
      obtain ⟨hr2, hf2'⟩ := Hhrj.out.turn HhN.out [] (some wr.heap.size) k hb2 ho2 hm2 (.inr fun m e => by cases e; exact Nat.le_refl _) hk2
      rw [Hhl1.out, Hhl2.out] at hf2'
      have hf2 := Hhfr.out.step hf2' (fun m e => .inr (Hhum.out m e))
      have hqfw : qf < wr.heap.size := lt_of_heap Hhph.out
      have hph2 := (ho2 qf hqfw hqrb).trans Hhph.out
      have hnm : (some wr.heap.size : Option Nat) ≠ some qf := fun e => by simp only [Option.some.injEq] at e; omega
      have hf0 := Hhfr.out.size
      rw [hw2]
      obtain ⟨mq, hmq⟩ : ∃ q, wr.heap.size = q := ⟨_, rfl⟩
      rw [hmq] at hr2 hnm hf0 hle2 ⊢
      clear hw2 hb2 hk2 ho2 hm2 hwac hwaf hf2' hz2 Hhfr
      have Hhr2 := Lib.hid hr2; clear hr2; have Hhf2 := Lib.hid hf2; clear hf2; have Hhph2 := Lib.hid hph2; clear hph2; have Hhnm := Lib.hid hnm; clear hnm; have Hhf0 := Lib.hid hf0; clear hf0
      go_loopw [38] (fun v wr2 => ∃ (i : Nat) (P' : Nat → Prop), i ≤ 4 ∧ v = .int .i64 i ∧ RunJ T a1 a2 a3 a4 c1 c2 c3 c4 p p1 p2 d1 d2 B A J wr2 (phaseN T p.trips.length k r.parties.length r.waits.length rk i) k (some mq) P' ∧ Fr A r.parties.length r.waits.length none P P' w wr2 ∧ wr2.heap[qf]? = some (.cells (phaseCells A.rb) 1 (0, 0)) ∧ ¬ P' qf) (fun v _ => 4 - (intOf v).toNat)
      case atStart => exact ⟨0, P1, Nat.zero_le _, rfl, Hhr2.out, Hhf2.out, Hhph2.out, hnP⟩
      case round =>
        clear Hhr2 Hhf2 Hhph2
        obtain ⟨i, P2, hi, rfl, hr2, hf2, hph2, hnP2⟩ := hrel
        obtain ⟨hRi, hli1, hli2⟩ := phase_good HhG.out p.trips.length k hks _ _ rk HhRk.out Hhl1.out Hhl2.out i
        have hlgi := phaseN_log T p.trips.length k r.parties.length r.waits.length rk i hi
        obtain ⟨ri, hri⟩ : ∃ q, phaseN T p.trips.length k r.parties.length r.waits.length rk i = q := ⟨_, rfl⟩
        have hpc := cells_of hph2
        simp only [phaseCells] at hpc
        have hpcl := lt_of_heap hph2
        rw [hri] at hr2 hRi hli1 hli2 hlgi
        have hlgp : ri.log.length + ri.parties.length + ri.waits.length ≤ 1000000000 := by
          have h1 := Hhlgk.out
          have h2 := HhR.out.np
          have h3 := HhR.out.nw
          have h4 := Hhlog.out
          have h5 : k * (4 * (2 * r.parties.length + r.waits.length)) ≤ 201 * (4 * (2 * r.parties.length + r.waits.length)) := Nat.mul_le_mul_right _ (by omega)
          have h6 : i * (2 * r.parties.length + r.waits.length) ≤ 4 * (2 * r.parties.length + r.waits.length) := Nat.mul_le_mul_right _ hi
          omega
        have hlgq : ri.log.length + ri.parties.length ≤ 1000000000 := by omega
        clear hlgi
        have Hhlgp := Lib.hid hlgp; clear hlgp; have Hhlgq := Lib.hid hlgq; clear hlgq
        have Hhr2 := Lib.hid hr2; clear hr2; have Hhf2 := Lib.hid hf2; clear hf2; have Hhph2 := Lib.hid hph2; clear hph2; have HhRi := Lib.hid hRi; clear hRi; have Hhli1 := Lib.hid hli1; clear hli1; have Hhli2 := Lib.hid hli2; clear hli2
        by_cases hlti : i < 4
        · have hi4 : i = 0 ∨ i = 1 ∨ i = 2 ∨ i = 3 := by omega
          have Hhri := Lib.hid hri; clear hri
          clear hlti
          rcases hi4 with rfl | rfl | rfl | rfl
          · have e0 : ((0 : Nat) : Int) = 0 := rfl
            rw [e0]
            clear e0
            have hnx : phaseN T p.trips.length k r.parties.length r.waits.length rk (0 + 1) = eachI (arriveAt k) r.parties.length ri := by rw [← Hhri.out]; rfl
            go_wp2_with (go_at_call 67; refine (arrive_any T _ _ _ _ _ _ _ _ p _ _ _ _ B A J HhN.out _ ri k (some mq) P2 Hhr2.out HhRi.out.np Hhlgq.out).mono ?_; rintro e w5 ⟨⟨u, rfl⟩, P5, hr5, hf5⟩; have Hhr5 := Lib.hid hr5; clear hr5; have Hhf5 := Lib.hid hf5; clear hf5)
            have hf5 := Hhf5.out
            rw [Hhli1.out, Hhli2.out] at hf5
            have hr5 := Hhr5.out
            rw [Hhli1.out, ← hnx] at hr5
            have hfz := Hhf2.out.step hf5 (fun m e => .inr (by cases e; exact Hhf0.out))
            have hph5 := hf5.keep Hhph2.out Hhnown.out Hhnm.out hnP2
            have hnP5 : ¬ P5 qf := fun e => by
              rcases hf5.grow qf e with h1 | h1
              · exact hnP2 h1
              · have := lt_of_heap Hhph2.out; omega
            clear hf5
            have Hhr5 := Lib.hid hr5; clear hr5; have Hhfz := Lib.hid hfz; clear hfz; have Hhph5 := Lib.hid hph5; clear hph5
            go_roundw
            case rel => exact ⟨1, P5, by omega, rfl, Hhr5.out, Hhfz.out, Hhph5.out, hnP5⟩
            case measure => simp [intOf]
          · have e0 : ((1 : Nat) : Int) = 1 := rfl
            rw [e0]
            clear e0
            have hnx : phaseN T p.trips.length k r.parties.length r.waits.length rk (1 + 1) = eachI (floodW T p.trips.length k) r.waits.length (eachI (floodAt T k) r.parties.length ri) := by rw [← Hhri.out]; rfl
            go_wp2_with (go_at_call 68; refine (flood_any T _ _ _ _ _ _ _ _ p _ _ _ _ B A J HhN.out _ ri k (some mq) P2 Hhr2.out HhRi.out hnt Hhlgp.out).mono ?_; rintro e w5 ⟨⟨u, rfl⟩, P5, hr5, hf5⟩; have Hhr5 := Lib.hid hr5; clear hr5; have Hhf5 := Lib.hid hf5; clear hf5)
            have hf5 := Hhf5.out
            rw [Hhli1.out, Hhli2.out] at hf5
            have hr5 := Hhr5.out
            rw [Hhli1.out, Hhli2.out, ← hnx] at hr5
            have hfz := Hhf2.out.step hf5 (fun m e => .inr (by cases e; exact Hhf0.out))
            have hph5 := hf5.keep Hhph2.out Hhnown.out Hhnm.out hnP2
            have hnP5 : ¬ P5 qf := fun e => by
              rcases hf5.grow qf e with h1 | h1
              · exact hnP2 h1
              · have := lt_of_heap Hhph2.out; omega
            clear hf5
            have Hhr5 := Lib.hid hr5; clear hr5; have Hhfz := Lib.hid hfz; clear hfz; have Hhph5 := Lib.hid hph5; clear hph5
            go_roundw
            case rel => exact ⟨2, P5, by omega, rfl, Hhr5.out, Hhfz.out, Hhph5.out, hnP5⟩
            case measure => simp [intOf]
          · have e0 : ((2 : Nat) : Int) = 2 := rfl
            rw [e0]
            clear e0
            have hnx : phaseN T p.trips.length k r.parties.length r.waits.length rk (2 + 1) = eachI (enterAt T k) r.parties.length ri := by rw [← Hhri.out]; rfl
            go_wp2_with (go_at_call 69; refine (renter_any T _ _ _ _ _ _ _ _ p _ _ _ _ B A J HhN.out HhG.out _ ri k mq P2 Hhr2.out HhRi.out hle2 hks Hhlgq.out).mono ?_; rintro e w5 ⟨⟨u, rfl⟩, P5, hr5, hf5⟩; have Hhr5 := Lib.hid hr5; clear hr5; have Hhf5 := Lib.hid hf5; clear hf5)
            have hf5 := Hhf5.out
            rw [Hhli1.out, Hhli2.out] at hf5
            have hr5 := Hhr5.out
            rw [Hhli1.out, ← hnx] at hr5
            have hfz := Hhf2.out.step hf5 (fun m e => .inr (by cases e; exact Hhf0.out))
            have hph5 := hf5.keep Hhph2.out Hhnown.out Hhnm.out hnP2
            have hnP5 : ¬ P5 qf := fun e => by
              rcases hf5.grow qf e with h1 | h1
              · exact hnP2 h1
              · have := lt_of_heap Hhph2.out; omega
            clear hf5
            have Hhr5 := Lib.hid hr5; clear hr5; have Hhfz := Lib.hid hfz; clear hfz; have Hhph5 := Lib.hid hph5; clear hph5
            go_roundw
            case rel => exact ⟨3, P5, by omega, rfl, Hhr5.out, Hhfz.out, Hhph5.out, hnP5⟩
            case measure => simp [intOf]
          · have e0 : ((3 : Nat) : Int) = 3 := rfl
            rw [e0]
            clear e0
            have hnx : phaseN T p.trips.length k r.parties.length r.waits.length rk (3 + 1) = eachI (beginAt T k) r.parties.length ri := by rw [← Hhri.out]; rfl
            go_wp2_with (go_at_call 70; refine (begin_any T _ _ _ _ _ _ _ _ p _ _ _ _ B A J HhN.out HhG.out _ ri k mq P2 Hhr2.out HhRi.out hle2 hks Hhlgq.out).mono ?_; rintro e w5 ⟨⟨u, rfl⟩, P5, hr5, hf5⟩; have Hhr5 := Lib.hid hr5; clear hr5; have Hhf5 := Lib.hid hf5; clear hf5)
            have hf5 := Hhf5.out
            rw [Hhli1.out, Hhli2.out] at hf5
            have hr5 := Hhr5.out
            rw [Hhli1.out, ← hnx] at hr5
            have hfz := Hhf2.out.step hf5 (fun m e => .inr (by cases e; exact Hhf0.out))
            have hph5 := hf5.keep Hhph2.out Hhnown.out Hhnm.out hnP2
            have hnP5 : ¬ P5 qf := fun e => by
              rcases hf5.grow qf e with h1 | h1
              · exact hnP2 h1
              · have := lt_of_heap Hhph2.out; omega
            clear hf5
            have Hhr5 := Lib.hid hr5; clear hr5; have Hhfz := Lib.hid hfz; clear hfz; have Hhph5 := Lib.hid hph5; clear hph5
            go_roundw
            case rel => exact ⟨4, P5, by omega, rfl, Hhr5.out, Hhfz.out, Hhph5.out, hnP5⟩
            case measure => simp [intOf]
        · obtain rfl : i = 4 := by omega
          have hblk5 := Hhr2.out.run.blk
          have hwac := cells_of hblk5
          have hwaf := frozen_of hblk5
          have hwal := lt_of_heap hblk5
          simp only [runCells] at hwac
          have hnx : playN T p.trips.length (k + 1) r = ri := by
            rw [← hri, ← Hhl1.out, ← Hhl2.out, phaseN_all, ← Hhrk.out]
            rfl
          have Hhblk5 := Lib.hid hblk5; clear hblk5; have Hhri := Lib.hid hri; clear hri; have Hhnx := Lib.hid hnx; clear hnx
          go_wp2_with fail
          have hb6 : (wr.setCell ⟨A.rb, 11, none⟩ (.int .i64 ((k : Int) + 1))).heap[A.rb]? = some (.cells (runCells T a1 a2 a3 a4 c1 c2 c3 c4 p p1 p2 d1 d2 A (some mq) ((k : Int) + 1)) 161 (0, 0)) := (heap_setCell_at Hhblk5.out _).trans rfl
          obtain ⟨hr6, hf6⟩ := Hhr2.out.turn HhN.out ri.used (some mq) ((k : Int) + 1) hb6 (fun q hq hn => setCell_other _ _ _ _ hn) (MapE.same Hhr2.out.run.used (setCell_other _ _ _ _ (fun e => map_ne Hhblk5.out Hhr2.out.run.used e.symm))) (.inl rfl) ⟨rfl, rfl, rfl, by simp [World.setCell]⟩
          rw [Hhli1.out, Hhli2.out] at hf6
          have hfz := Hhf2.out.step hf6 (fun m e => .inr (by cases e; exact Hhf0.out))
          have hph6 := (setCell_other wr A.rb 11 (.int .i64 ((k : Int) + 1)) hqrb).trans Hhph2.out
          have hst6 : stepCell A.rb (wr.setCell ⟨A.rb, 11, none⟩ (.int .i64 ((k : Int) + 1))) = k + 1 := by
            unfold stepCell
            rw [cells_of hb6]
            show ((k : Int) + 1).toNat = k + 1
            omega
          have hst0 := Hhst.out
          clear hf6 hb6 hwac hwaf
          have Hhr6 := Lib.hid hr6; clear hr6; have Hhfz := Lib.hid hfz; clear hfz; have Hhph6 := Lib.hid hph6; clear hph6; have Hhst6 := Lib.hid hst6; clear hst6; have Hhst0 := Lib.hid hst0; clear hst0
          go_roundw
          case rel => exact ⟨k + 1, some mq, P2, by omega, by rw [Hhnx.out]; exact Hhr6.out, Hhfz.out, Hhph6.out, hnP2, Hhnm.out, fun m e => by cases e; exact Hhf0.out⟩
          case measure => rw [Hhst6.out, Hhst0.out]; omega
    · obtain rfl : k = n + 1 := by omega
      go_wp2_with fail
      (try simp only [Exit.inBlock, Exit.then]); refine bodyPost_end (results_none rfl _ _ _) rfl ?_
      exact ⟨⟨_, rfl⟩, um, P1, by rw [Hhrk.out]; exact Hhrj.out, Hhfr.out⟩

end Go.Proofs.Ytjoihijlcpnhoaa
