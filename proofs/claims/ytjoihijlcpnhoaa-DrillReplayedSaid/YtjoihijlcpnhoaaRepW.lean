/- DrillReplayed: the walk, over the contracts of what it calls. -/
import Derived.Test.YtjoihijlcpnhoaaEntE
import Derived.Test.YtjoihijlcpnhoaaRepA
import Derived.Test.YtjoihijlcpnhoaaOrdT
namespace Go.Proofs.Ytjoihijlcpnhoaa
open Go.RowKit

/-- What Run answers, the log read as a list; its slice can bear it. -/
def RunQ (T : Town) (p : Plan) (c : Case) (w : World) (e : Ending) (w' : World) : Prop :=
  Below w.heap.size w w' ∧ ((begunErr T p c ≠ 0 ∧ e = .returned (.tuple #[.slice none 0 0, .int .i64 (begunErr T p c)])) ∨
    (verifyT T p = 0 ∧ caseErr p c = 0 ∧ (runLog T p c).length ≤ 100000000 ∧ ∃ a cap, (runLog T p c).length ≤ cap ∧ e = .returned (.tuple #[.slice a (runLog T p c).length cap, .int .i64 0]) ∧ Sl EntryE 5 w'.heap.size w' a (runLog T p c)))

set_option maxHeartbeats 16000000 in
set_option maxRecDepth 100000 in
theorem repd_body (T : Town) (a1 a2 a3 a4 : Option Addr) (c1 c2 c3 c4 : Nat) (p : Plan) (p1 p2 : Option Addr) (d1 d2 : Nat) (c : Case) (l1 l2 l3 l4 : Option Addr) (e1 e2 e3 e4 : Nat) (ka kb : Int) (w : World) (hka : 0 ≤ ka ∧ ka ≤ 255) (hkb : 0 ≤ kb ∧ kb ≤ 255)
    (HFew : ∀ W, Below w.heap.size w W → Calls Try.prog 15 #[.agg #[.int .i64 T.steps, .slice a1 T.places.length c1, .slice a2 T.ways.length c2, .slice a3 T.groups.length c3, .slice a4 T.vehicles.length c4], .agg #[.slice p1 p.trips.length d1, .slice p2 p.rides.length d2], .agg #[.slice l1 c.late.length e1, .slice l2 c.absent.length e2, .slice l3 c.rides.length e3, .slice l4 c.broken.length e4]] W fun e w' => (∃ v, e = .returned (.bool v)) ∧ Below W.heap.size W w')
    (HWk : ∀ W, Calls Try.prog 16 #[] W fun e w' => e = .returned (.bool true) ∧ Below W.heap.size W w')
    (HRun : ∀ W, Below w.heap.size w W → Calls Try.prog 17 #[.agg #[.int .i64 T.steps, .slice a1 T.places.length c1, .slice a2 T.ways.length c2, .slice a3 T.groups.length c3, .slice a4 T.vehicles.length c4], .agg #[.slice p1 p.trips.length d1, .slice p2 p.rides.length d2], .agg #[.slice l1 c.late.length e1, .slice l2 c.absent.length e2, .slice l3 c.rides.length e3, .slice l4 c.broken.length e4]] W (RunQ T p c W))
    (HRpl : ∀ W (m : List Entry) am em, Below w.heap.size w W → Sl EntryE 5 W.heap.size W am m → begunErr T p c = 0 → Calls Try.prog 20 #[.agg #[.int .i64 T.steps, .slice a1 T.places.length c1, .slice a2 T.ways.length c2, .slice a3 T.groups.length c3, .slice a4 T.vehicles.length c4], .agg #[.slice p1 p.trips.length d1, .slice p2 p.rides.length d2], .agg #[.slice l1 c.late.length e1, .slice l2 c.absent.length e2, .slice l3 c.rides.length e3, .slice l4 c.broken.length e4], .slice am m.length em] W fun e w' => e = .returned (.tuple #[.int .i64 (replayT (runLog T p c) m).1, .int .i64 (replayT (runLog T p c) m).2]) ∧ Below W.heap.size W w') :
    Calls Try.prog 6 #[.agg #[.int .i64 T.steps, .slice a1 T.places.length c1, .slice a2 T.ways.length c2, .slice a3 T.groups.length c3, .slice a4 T.vehicles.length c4], .agg #[.slice p1 p.trips.length d1, .slice p2 p.rides.length d2], .agg #[.slice l1 c.late.length e1, .slice l2 c.absent.length e2, .slice l3 c.rides.length e3, .slice l4 c.broken.length e4], .int .u8 ka, .int .u8 kb] w
      fun e w' => e = .returned (.bool true) ∧ Below w.heap.size w w' := by
  obtain ⟨W1, hW1⟩ : ∃ W1, W1 = (((w.alloc (.cells #[.int .i64 T.steps, .slice a1 T.places.length c1, .slice a2 T.ways.length c2, .slice a3 T.groups.length c3, .slice a4 T.vehicles.length c4] 27)).alloc (.cells #[.slice p1 p.trips.length d1, .slice p2 p.rides.length d2] 31)).alloc (.cells #[.slice l1 c.late.length e1, .slice l2 c.absent.length e2, .slice l3 c.rides.length e3, .slice l4 c.broken.length e4] 62)) := ⟨_, rfl⟩
  have hb01 : Below w.heap.size w W1 := by rw [hW1]; exact (by repeat (first | exact Below.refl _ _ | (refine bl_setCell ?_ _ _ ?_; rotate_left; focus (first | omega | (simp; done) | (simp; omega))) | refine bl_alloc ?_ _ | refine bl_step ?_ (by assumption) | refine bl_drew ?_ | refine bl_drewN ?_ _))
  have hs1 : W1.heap.size = w.heap.size + 3 := by rw [hW1]; simp
  have y0 : W1.heap[w.heap.size]? = some (.cells #[.int .i64 T.steps, .slice a1 T.places.length c1, .slice a2 T.ways.length c2, .slice a3 T.groups.length c3, .slice a4 T.vehicles.length c4] 27 (0, 0)) := by rw [hW1]; repeat (first | with_reducible assumption | (with_reducible refine heap_alloc_at' _ _ ?_; focus (simp; done)) | with_reducible refine heap_alloc_off ?_ _ | (with_reducible refine heap_setCell_off ?_ _ ?_; rotate_left; focus omega) | with_reducible refine heap_drew' ?_ | with_reducible refine heap_drewN' ?_ | with_reducible refine heap_below (by with_reducible assumption) ?_)
  have y1 : W1.heap[w.heap.size + 1]? = some (.cells #[.slice p1 p.trips.length d1, .slice p2 p.rides.length d2] 31 (0, 0)) := by rw [hW1]; repeat (first | with_reducible assumption | (with_reducible refine heap_alloc_at' _ _ ?_; focus (simp; done)) | with_reducible refine heap_alloc_off ?_ _ | (with_reducible refine heap_setCell_off ?_ _ ?_; rotate_left; focus omega) | with_reducible refine heap_drew' ?_ | with_reducible refine heap_drewN' ?_ | with_reducible refine heap_below (by with_reducible assumption) ?_)
  have y2 : W1.heap[w.heap.size + 1 + 1]? = some (.cells #[.slice l1 c.late.length e1, .slice l2 c.absent.length e2, .slice l3 c.rides.length e3, .slice l4 c.broken.length e4] 62 (0, 0)) := by rw [hW1]; repeat (first | with_reducible assumption | (with_reducible refine heap_alloc_at' _ _ ?_; focus (simp; done)) | with_reducible refine heap_alloc_off ?_ _ | (with_reducible refine heap_setCell_off ?_ _ ?_; rotate_left; focus omega) | with_reducible refine heap_drew' ?_ | with_reducible refine heap_drewN' ?_ | with_reducible refine heap_below (by with_reducible assumption) ?_)
  have HHFew := Lib.hid HFew; clear HFew; have HHWk := Lib.hid HWk; clear HWk; have HHRun := Lib.hid HRun; clear HRun; have HHRpl := Lib.hid HRpl; clear HRpl; have Hy0 := Lib.hid y0; clear y0; have Hy1 := Lib.hid y1; clear y1; have Hy2 := Lib.hid y2; clear y2; have Hhb01 := Lib.hid hb01; clear hb01; have Hhs1 := Lib.hid hs1; clear hs1
  go_enter Try.func6, Try.ntmps6
  go_upto_region 1 with fail
  go_cut [20] from 16 to 171 (fun v wx => Below W1.heap.size W1 wx ∧ ∃ q, v = .bool q)
  case first =>
    as_aux_lemma =>
      go_wp2_with (go_at_call 15; refine (HHFew.out _ (by repeat (first | exact Below.refl _ _ | (refine bl_setCell ?_ _ _ ?_; rotate_left; focus (first | omega | (simp; done) | (simp; omega))) | refine bl_alloc ?_ _ | refine bl_step ?_ (by assumption) | refine bl_drew ?_ | refine bl_drewN ?_ _))).mono ?_; rintro e w1 ⟨⟨v, rfl⟩, hb1⟩; obtain ⟨_, _, _⟩ := bk (w.heap.size) hb1 (by (first | omega | (simp; done) | (simp; omega))); obtain ⟨_, _, _⟩ := bk (w.heap.size + 1) hb1 (by (first | omega | (simp; done) | (simp; omega))); obtain ⟨_, _, _⟩ := bk (w.heap.size + 1 + 1) hb1 (by (first | omega | (simp; done) | (simp; omega))); have hzhb1 := bsz hb1; (try simp only [World.size_alloc] at hzhb1); have Hhb1 := Lib.hid hb1; clear hb1)
      all_goals (go_meet; exact ⟨by rw [hW1]; exact Hhb1.out, _, rfl⟩)
  case rest =>
  obtain ⟨hb1, q, rfl⟩ := hcut
  have z0 := heap_below hb1 Hy0.out
  have z1 := heap_below hb1 Hy1.out
  have z2 := heap_below hb1 Hy2.out
  have z0c := cells_of z0
  have z1c := cells_of z1
  have z2c := cells_of z2
  have z0l := lt_of_heap z0
  have z1l := lt_of_heap z1
  have z2l := lt_of_heap z2
  have hbw2 := bl_step Hhb01.out hb1
  clear Hy0 Hy1 Hy2 z0 z1 z2
  obtain ⟨W2, hW2⟩ : ∃ W2, W2 = wc := ⟨_, rfl⟩
  subst hW2
  have Hhb1 := Lib.hid hb1; clear hb1; have Hhbw2 := Lib.hid hbw2; clear hbw2
  cases q
  rotate_left
  · as_aux_lemma =>
      go_wp2_with (go_at_call 16; refine (HHWk.out _).mono ?_; rintro e w2 ⟨rfl, hb2⟩)
      go_ret
      exact ⟨rfl, bl_step Hhbw2.out hb2⟩
  by_cases hz : begunErr T p c = 0
  rotate_left
  · as_aux_lemma =>
      obtain ⟨ev, hev⟩ : ∃ v, begunErr T p c = v := ⟨_, rfl⟩
      rw [hev] at hz
      have HX2 : ∀ W, Below w.heap.size w W → Calls Try.prog 17 #[.agg #[.int .i64 T.steps, .slice a1 T.places.length c1, .slice a2 T.ways.length c2, .slice a3 T.groups.length c3, .slice a4 T.vehicles.length c4], .agg #[.slice p1 p.trips.length d1, .slice p2 p.rides.length d2], .agg #[.slice l1 c.late.length e1, .slice l2 c.absent.length e2, .slice l3 c.rides.length e3, .slice l4 c.broken.length e4]] W fun e w' => e = .returned (.tuple #[.slice none 0 0, .int .i64 ev]) ∧ Below W.heap.size W w' := by
        intro W hW
        refine (HHRun.out W hW).mono ?_
        rintro e w' ⟨hb, ⟨_, he⟩ | ⟨h1, h2, _⟩⟩
        · exact ⟨by rw [he, hev], hb⟩
        · exact absurd (by rw [← hev]; unfold begunErr; rw [if_pos h1]; exact h2) hz
      have hd : (ev != 0) = true := by simpa using hz
      have Hhev := Lib.hid hev; clear hev; have HHX2 := Lib.hid HX2; clear HX2; have Hhz := Lib.hid hz; clear hz
      go_wp2_with (first | (go_at_call 17; refine (HHX2.out _ Hhbw2.out).mono ?_; rintro e w3 ⟨rfl, hb3⟩; obtain ⟨_, _, _⟩ := bk (w.heap.size) hb3 (by (first | omega | (simp; done) | (simp; omega))); obtain ⟨_, _, _⟩ := bk (w.heap.size + 1) hb3 (by (first | omega | (simp; done) | (simp; omega))); obtain ⟨_, _, _⟩ := bk (w.heap.size + 1 + 1) hb3 (by (first | omega | (simp; done) | (simp; omega))); have hzhb3 := bsz hb3; (try simp only [World.size_alloc] at hzhb3)) | (go_at_call 16; refine (HHWk.out _).mono ?_; rintro e w4 ⟨rfl, hb4⟩))
      go_ret
      exact ⟨rfl, bl_step (bl_step Hhbw2.out hb3) hb4⟩
  obtain ⟨l, hl⟩ : ∃ l, runLog T p c = l := ⟨_, rfl⟩
  have HX2 : ∀ W, Below w.heap.size w W → Calls Try.prog 17 #[.agg #[.int .i64 T.steps, .slice a1 T.places.length c1, .slice a2 T.ways.length c2, .slice a3 T.groups.length c3, .slice a4 T.vehicles.length c4], .agg #[.slice p1 p.trips.length d1, .slice p2 p.rides.length d2], .agg #[.slice l1 c.late.length e1, .slice l2 c.absent.length e2, .slice l3 c.rides.length e3, .slice l4 c.broken.length e4]] W fun e w' => ∃ a cap, e = .returned (.tuple #[.slice a l.length cap, .int .i64 0]) ∧ l.length ≤ 100000000 ∧ l.length ≤ cap ∧ Sl EntryE 5 w'.heap.size w' a l ∧ Below W.heap.size W w' := by
    intro W hW
    refine (HHRun.out W hW).mono ?_
    rintro e w' ⟨hb, ⟨he, _⟩ | ⟨_, _, hfew, a, cap, hcap, h1, h2⟩⟩
    · exact absurd hz he
    · rw [hl] at h1 h2 hfew hcap; exact ⟨a, cap, h1, hfew, hcap, h2, hb⟩
  have HR2 : ∀ W (m : List Entry) am em, Below w.heap.size w W → Sl EntryE 5 W.heap.size W am m → Calls Try.prog 20 #[.agg #[.int .i64 T.steps, .slice a1 T.places.length c1, .slice a2 T.ways.length c2, .slice a3 T.groups.length c3, .slice a4 T.vehicles.length c4], .agg #[.slice p1 p.trips.length d1, .slice p2 p.rides.length d2], .agg #[.slice l1 c.late.length e1, .slice l2 c.absent.length e2, .slice l3 c.rides.length e3, .slice l4 c.broken.length e4], .slice am m.length em] W fun e w' => e = .returned (.tuple #[.int .i64 (replayT l m).1, .int .i64 (replayT l m).2]) ∧ Below W.heap.size W w' := by
    intro W m am em h1 h2
    rw [← hl]
    exact HHRpl.out W m am em h1 h2 hz
  have HR3 : ∀ W am em, Below w.heap.size w W → Sl EntryE 5 W.heap.size W am l → Calls Try.prog 20 #[.agg #[.int .i64 T.steps, .slice a1 T.places.length c1, .slice a2 T.ways.length c2, .slice a3 T.groups.length c3, .slice a4 T.vehicles.length c4], .agg #[.slice p1 p.trips.length d1, .slice p2 p.rides.length d2], .agg #[.slice l1 c.late.length e1, .slice l2 c.absent.length e2, .slice l3 c.rides.length e3, .slice l4 c.broken.length e4], .slice am l.length em] W fun e w' => e = .returned (.tuple #[.int .i64 l.length, .int .i64 0]) ∧ Below W.heap.size W w' := by
    intro W am em h1 h2
    have := HR2 W l am em h1 h2
    rw [replay_self] at this
    exact this
  have Hhz := Lib.hid hz; clear hz; have Hhl := Lib.hid hl; clear hl; have HHX2 := Lib.hid HX2; clear HX2; have HHR2 := Lib.hid HR2; clear HR2; have HHR3 := Lib.hid HR3; clear HR3
  go_upto_region 4 with (go_at_call 17; refine (HHX2.out _ Hhbw2.out).mono ?_; rintro e w3 ⟨al, cl, rfl, hfew, hcap, hsl, hb3⟩; obtain ⟨_, _, _⟩ := bk (w.heap.size) hb3 (by (first | omega | (simp; done) | (simp; omega))); obtain ⟨_, _, _⟩ := bk (w.heap.size + 1) hb3 (by (first | omega | (simp; done) | (simp; omega))); obtain ⟨_, _, _⟩ := bk (w.heap.size + 1 + 1) hb3 (by (first | omega | (simp; done) | (simp; omega))); have hzhb3 := bsz hb3; (try simp only [World.size_alloc] at hzhb3); have hll := hsl.1; have Hhsl := Lib.hid hsl; clear hsl)
  have hbw3 := bl_step Hhbw2.out hb3
  have Hhbw3 := Lib.hid hbw3; clear hbw3
  go_upto_region 8 with (go_at_call 20; refine (HHR3.out _ _ _ Hhbw3.out Hhsl.out).mono ?_; rintro e w4 ⟨rfl, hb4⟩; obtain ⟨_, _, _⟩ := bk (w.heap.size) hb4 (by (first | omega | (simp; done) | (simp; omega))); obtain ⟨_, _, _⟩ := bk (w.heap.size + 1) hb4 (by (first | omega | (simp; done) | (simp; omega))); obtain ⟨_, _, _⟩ := bk (w.heap.size + 1 + 1) hb4 (by (first | omega | (simp; done) | (simp; omega))); have hzhb4 := bsz hb4; (try simp only [World.size_alloc] at hzhb4))
  have hbw4 := bl_step Hhbw3.out hb4
  have hsl4 := (Hhsl.out.below (ek_entry _) hb4).up hb4.size
  have hq0 : w.heap.size < w4.heap.size := by have := hbw4.size; have := hb4.size; omega
  have Hhbw4 := Lib.hid hbw4; clear hbw4; have Hhsl4 := Lib.hid hsl4; clear hsl4
  go_upto_region 9 with fail
  go_cut [12, 13] from 48 to 60 (fun v12 v13 wx => v12 = .int .i64 23 ∧ v13 = .int .i64 l.length ∧ Below w4.heap.size w4 wx)
  case first =>
    as_aux_lemma =>
    have hI : Below w4.heap.size w4 w4.drew := (Below.refl _ _).drew
    obtain ⟨n1, hn1⟩ : ∃ n, n = (l ++ [(⟨0, 0, 0, 0, 0⟩ : Entry)]).length := ⟨_, rfl⟩
    have HR4 : ∀ W am em, Below w.heap.size w W → Sl EntryE 5 W.heap.size W am (l ++ [⟨0, 0, 0, 0, 0⟩]) → Calls Try.prog 20 #[.agg #[.int .i64 T.steps, .slice a1 T.places.length c1, .slice a2 T.ways.length c2, .slice a3 T.groups.length c3, .slice a4 T.vehicles.length c4], .agg #[.slice p1 p.trips.length d1, .slice p2 p.rides.length d2], .agg #[.slice l1 c.late.length e1, .slice l2 c.absent.length e2, .slice l3 c.rides.length e3, .slice l4 c.broken.length e4], .slice am n1 em] W fun e w' => e = .returned (.tuple #[.int .i64 l.length, .int .i64 23]) ∧ Below W.heap.size W w' := by
      intro W am em h1 h2
      have := HHR2.out W _ am em h1 h2
      rw [replay_more, ← hn1] at this
      exact this
    have HHR4 := Lib.hid HR4; clear HR4
    have Hhn1 := Lib.hid hn1
    clear hn1
    refine wp_region_ordT (fun W => Below w4.heap.size w4 W) (.two [0, 1, 2, 4, 6] 3 (.two [] 5 (.one [] 7 (.one [] 8 (.one [] 9 (.fin [10, 11, 12, 13, 14] none)))) 7 (.one [] 5 (.one [] 8 (.one [] 9 (.fin [10, 11, 12, 13, 14] none))))) 7 (.one [] 3 (.one [] 5 (.one [] 8 (.one [] 9 (.fin [10, 11, 12, 13, 14] none)))))) (by kernel_rfl) (by kernel_rfl) hI ?_
    refine otTwo ?_
    (apply StI_plain (w0 := w4.drew) hI rfl rfl rfl rfl; (focus (intro W hW K hK; obtain ⟨_, _, _⟩ := bk w.heap.size hW (by omega); obtain ⟨_, _, _⟩ := bk (w.heap.size + 1) hW (by omega); obtain ⟨_, _, _⟩ := bk (w.heap.size + 1 + 1) hW (by omega); go_step; exact hK)); (focus rfl)); (apply StI_plain (w0 := w4.drew) hI rfl rfl rfl rfl; (focus (intro W hW K hK; obtain ⟨_, _, _⟩ := bk w.heap.size hW (by omega); obtain ⟨_, _, _⟩ := bk (w.heap.size + 1) hW (by omega); obtain ⟨_, _, _⟩ := bk (w.heap.size + 1 + 1) hW (by omega); go_step; exact hK)); (focus rfl)); (apply StI_plain (w0 := w4.drew) hI rfl rfl rfl rfl; (focus (intro W hW K hK; obtain ⟨_, _, _⟩ := bk w.heap.size hW (by omega); obtain ⟨_, _, _⟩ := bk (w.heap.size + 1) hW (by omega); obtain ⟨_, _, _⟩ := bk (w.heap.size + 1 + 1) hW (by omega); go_step; exact hK)); (focus rfl)); (apply StI_plain (w0 := w4.drew) hI rfl rfl rfl rfl; (focus (intro W hW K hK; obtain ⟨_, _, _⟩ := bk w.heap.size hW (by omega); obtain ⟨_, _, _⟩ := bk (w.heap.size + 1) hW (by omega); obtain ⟨_, _, _⟩ := bk (w.heap.size + 1 + 1) hW (by omega); go_step; exact hK)); (focus rfl)); (apply StI_plain (w0 := w4.drew) hI rfl rfl rfl rfl; (focus (intro W hW K hK; obtain ⟨_, _, _⟩ := bk w.heap.size hW (by omega); obtain ⟨_, _, _⟩ := bk (w.heap.size + 1) hW (by omega); obtain ⟨_, _, _⟩ := bk (w.heap.size + 1 + 1) hW (by omega); go_step; exact hK)); (focus rfl))
    refine StI_nil ⟨?_, ?_⟩
    · (apply wpOp_eff rfl; go_wp2_with (first | fail))
      have hIa : Below w4.heap.size w4 (w4.alloc (.cells #[] 69)).drew := ((Below.refl _ _).alloc (Nat.le_refl _) _).drew
      have hrow3 : (w4.alloc (.cells #[] 69)).drew.ownsRow w4.heap.size 69 5 (.slice (some ⟨w4.heap.size, 0, none⟩) 0 0) 0 [] := World.ownsRow_lit w4 #[] 0 (Nat.le_refl _) (by decide) rfl
      generalize (w4.alloc (.cells #[] 69)).drew = xa at hIa hrow3 ⊢
      refine otN hIa (otTwo ?_)
      refine StI_nil ⟨?_, ?_⟩
      · as_aux_lemma =>
        refine append_logO rfl rfl _ _ rfl _ rfl w4.heap.size (.slice (some ⟨w4.heap.size, 0, none⟩) 0 0) 0 [] rfl hrow3 al cl w4.heap.size l rfl (Hhsl4.out.below (ek_entry _) hIa) (by omega) hIa.size (fun u => (by simp only [Act.put]; exact rfl)) ?_
        intro v5 x5 hrow5 hg5 hat5
        simp only [Nat.zero_add, List.nil_append] at hrow5
        obtain ⟨a5, cap5, rfl⟩ := row_len hrow5
        have hI5 : Below w4.heap.size w4 x5 := bl_grown hIa hIa.size hg5 (fun k hk => (hrow3.lt k hk).1)
        have Hhrow5 := Lib.hid hrow5; clear hrow5; have Hhg5 := Lib.hid hg5; clear hg5; have Hhat5 := Lib.hid hat5; clear hat5
        refine otN hI5 (otOne ?_)
        refine StI_nil ?_
        refine entry_build rfl rfl _ rfl _ rfl 0 0 0 0 0 rfl (by simp only [Act.put]; exact rfl) ?_
        have hIb : Below w4.heap.size w4 (x5.alloc (.cells #[.int .i64 0, .int .i64 0, .int .i64 0, .int .i64 0, .int .i64 0] 69)) := hI5.alloc hI5.size _
        have xe := heap_alloc_at x5 (.cells #[.int .i64 0, .int .i64 0, .int .i64 0, .int .i64 0, .int .i64 0] 69)
        have hrow6 := row_below Hhrow5.out (bl_alloc (Below.refl _ x5) (.cells #[.int .i64 0, .int .i64 0, .int .i64 0, .int .i64 0, .int .i64 0] 69))
        generalize (x5.alloc (.cells #[.int .i64 0, .int .i64 0, .int .i64 0, .int .i64 0, .int .i64 0] 69)) = xb at hIb xe hrow6 ⊢
        refine otN hIb (otOne ?_)
        refine StI_nil ?_
        refine append_logO rfl rfl _ _ rfl _ rfl w4.heap.size (.slice a5 l.length cap5) l.length (logCells l) rfl hrow6 (some ⟨x5.heap.size, 0, none⟩) _ xb.heap.size [⟨0, 0, 0, 0, 0⟩] rfl (zero_sl xe) (by simp; omega) hIb.size (fun u => (by simp only [Act.put]; exact rfl)) ?_
        intro v8 x8 hrow8 hg8 hat8
        have hI8 : Below w4.heap.size w4 x8 := bl_grown hIb hIb.size hg8 (fun k hk => (hrow6.lt k hk).1)
        have hrow8' : x8.ownsRow w4.heap.size 69 5 v8 (l ++ [(⟨0, 0, 0, 0, 0⟩ : Entry)]).length (logCells (l ++ [(⟨0, 0, 0, 0, 0⟩ : Entry)])) := by rw [logCells_append, List.length_append]; exact hrow8
        obtain ⟨a8, cap8, rfl, hsl8⟩ := log_slG hrow8' (by simp; omega)
        rw [← Hhn1.out]
        clear hrow8 hrow8' hg8 hat8
        have Hhsl8 := Lib.hid hsl8; clear hsl8
        refine otN hI8 (otOne ?_)
        (apply StI_eff rfl; go_wp2_with (first | (go_at_call 20; refine (HHR4.out _ _ _ (bl_step Hhbw4.out hI8) Hhsl8.out).mono ?_; rintro e x9 ⟨rfl, hy9⟩)))
        have hI9 : Below w4.heap.size w4 x9 := bl_step hI8 hy9
        refine otN hI9 (otFin ?_)
        (apply StI_plain (w0 := x9) hI9 rfl rfl rfl rfl; (focus (intro W hW K hK; skip; go_step; exact hK)); (focus rfl)); (apply StI_plain (w0 := x9) hI9 rfl rfl rfl rfl; (focus (intro W hW K hK; skip; go_step; exact hK)); (focus rfl)); (apply StI_plain (w0 := x9) hI9 rfl rfl rfl rfl; (focus (intro W hW K hK; skip; go_step; exact hK)); (focus rfl)); (apply StI_plain (w0 := x9) hI9 rfl rfl rfl rfl; (focus (intro W hW K hK; skip; go_step; exact hK)); (focus rfl)); (apply StI_plain (w0 := x9) hI9 rfl rfl rfl rfl; (focus (intro W hW K hK; skip; go_step; exact hK)); (focus rfl))
        refine StI_nil ?_
        go_wp2_with fail
        go_meet
        exact ⟨rfl, rfl, hI9⟩
      · as_aux_lemma =>
        refine entry_build rfl rfl _ rfl _ rfl 0 0 0 0 0 rfl (by simp only [Act.put]; exact rfl) ?_
        have hIb : Below w4.heap.size w4 (xa.alloc (.cells #[.int .i64 0, .int .i64 0, .int .i64 0, .int .i64 0, .int .i64 0] 69)) := hIa.alloc hIa.size _
        have xe := heap_alloc_at xa (.cells #[.int .i64 0, .int .i64 0, .int .i64 0, .int .i64 0, .int .i64 0] 69)
        have hrow4 := row_below hrow3 (bl_alloc (Below.refl _ xa) (.cells #[.int .i64 0, .int .i64 0, .int .i64 0, .int .i64 0, .int .i64 0] 69))
        have hne : w4.heap.size ≠ xa.heap.size := by have := (hrow3.lt w4.heap.size rfl).2; omega
        generalize (xa.alloc (.cells #[.int .i64 0, .int .i64 0, .int .i64 0, .int .i64 0, .int .i64 0] 69)) = xb at hIb xe hrow4 ⊢
        refine otN hIb (otOne ?_)
        refine StI_nil ?_
        refine append_logO rfl rfl _ _ rfl _ rfl w4.heap.size (.slice (some ⟨w4.heap.size, 0, none⟩) 0 0) 0 [] rfl hrow4 al cl w4.heap.size l rfl (Hhsl4.out.below (ek_entry _) hIb) (by omega) hIb.size (fun u => (by simp only [Act.put]; exact rfl)) ?_
        intro v5 x5 hrow5 hg5 hat5
        simp only [Nat.zero_add, List.nil_append] at hrow5
        obtain ⟨a5, cap5, rfl⟩ := row_len hrow5
        have hI5 : Below w4.heap.size w4 x5 := bl_grown hIb hIb.size hg5 (fun k hk => (hrow4.lt k hk).1)
        have Hhrow5 := Lib.hid hrow5; clear hrow5; have Hhg5 := Lib.hid hg5; clear hg5; have Hhat5 := Lib.hid hat5; clear hat5
        have xe5 := (Hhg5.out.block xa.heap.size (lt_of_heap xe) (fun e => hne (by simpa [Value.ownBlock] using e.symm))).trans xe
        refine otN hI5 (otOne ?_)
        refine StI_nil ?_
        refine append_logO rfl rfl _ _ rfl _ rfl w4.heap.size (.slice a5 l.length cap5) l.length (logCells l) rfl Hhrow5.out (some ⟨xa.heap.size, 0, none⟩) _ x5.heap.size [⟨0, 0, 0, 0, 0⟩] rfl (zero_sl xe5) (by simp; omega) hI5.size (fun u => (by simp only [Act.put]; exact rfl)) ?_
        intro v8 x8 hrow8 hg8 hat8
        have hI8 : Below w4.heap.size w4 x8 := bl_grown hI5 hI5.size hg8 (fun k hk => (Hhrow5.out.lt k hk).1)
        have hrow8' : x8.ownsRow w4.heap.size 69 5 v8 (l ++ [(⟨0, 0, 0, 0, 0⟩ : Entry)]).length (logCells (l ++ [(⟨0, 0, 0, 0, 0⟩ : Entry)])) := by rw [logCells_append, List.length_append]; exact hrow8
        obtain ⟨a8, cap8, rfl, hsl8⟩ := log_slG hrow8' (by simp; omega)
        rw [← Hhn1.out]
        clear hrow8 hrow8' hg8 hat8
        have Hhsl8 := Lib.hid hsl8; clear hsl8
        refine otN hI8 (otOne ?_)
        (apply StI_eff rfl; go_wp2_with (first | (go_at_call 20; refine (HHR4.out _ _ _ (bl_step Hhbw4.out hI8) Hhsl8.out).mono ?_; rintro e x9 ⟨rfl, hy9⟩)))
        have hI9 : Below w4.heap.size w4 x9 := bl_step hI8 hy9
        refine otN hI9 (otFin ?_)
        (apply StI_plain (w0 := x9) hI9 rfl rfl rfl rfl; (focus (intro W hW K hK; skip; go_step; exact hK)); (focus rfl)); (apply StI_plain (w0 := x9) hI9 rfl rfl rfl rfl; (focus (intro W hW K hK; skip; go_step; exact hK)); (focus rfl)); (apply StI_plain (w0 := x9) hI9 rfl rfl rfl rfl; (focus (intro W hW K hK; skip; go_step; exact hK)); (focus rfl)); (apply StI_plain (w0 := x9) hI9 rfl rfl rfl rfl; (focus (intro W hW K hK; skip; go_step; exact hK)); (focus rfl)); (apply StI_plain (w0 := x9) hI9 rfl rfl rfl rfl; (focus (intro W hW K hK; skip; go_step; exact hK)); (focus rfl))
        refine StI_nil ?_
        go_wp2_with fail
        go_meet
        exact ⟨rfl, rfl, hI9⟩
    · as_aux_lemma =>
      refine entry_build rfl rfl _ rfl _ rfl 0 0 0 0 0 rfl (by simp only [Act.put]; exact rfl) ?_
      have hIa : Below w4.heap.size w4 (w4.drew.alloc (.cells #[.int .i64 0, .int .i64 0, .int .i64 0, .int .i64 0, .int .i64 0] 69)) := hI.alloc (Nat.le_refl _) _
      have xe : (w4.drew.alloc (.cells #[.int .i64 0, .int .i64 0, .int .i64 0, .int .i64 0, .int .i64 0] 69)).heap[w4.heap.size]? = some (.cells #[.int .i64 0, .int .i64 0, .int .i64 0, .int .i64 0, .int .i64 0] 69 (0, 0)) := heap_alloc_at w4.drew (.cells #[.int .i64 0, .int .i64 0, .int .i64 0, .int .i64 0, .int .i64 0] 69)
      have hdr : w4.drew.heap.size = w4.heap.size := rfl
      rw [hdr]
      clear hdr
      generalize (w4.drew.alloc (.cells #[.int .i64 0, .int .i64 0, .int .i64 0, .int .i64 0, .int .i64 0] 69)) = xa at hIa xe ⊢
      refine otN hIa (otOne ?_)
      (apply StI_eff rfl; go_wp2_with (first | fail))
      have hIb : Below w4.heap.size w4 (xa.alloc (.cells #[] 69)) := hIa.alloc hIa.size _
      have hrow4 : (xa.alloc (.cells #[] 69)).ownsRow w4.heap.size 69 5 (.slice (some ⟨xa.heap.size, 0, none⟩) 0 0) 0 [] := World.ownsRow_lit xa #[] 0 hIa.size (by decide) rfl
      have xe2 := heap_alloc_off xe (.cells #[] 69)
      have hne : xa.heap.size ≠ w4.heap.size := by have := lt_of_heap xe; omega
      generalize (xa.alloc (.cells #[] 69)) = xb at hIb xe2 hrow4 ⊢
      refine otN hIb (otOne ?_)
      refine StI_nil ?_
      refine append_logO rfl rfl _ _ rfl _ rfl w4.heap.size (.slice (some ⟨xa.heap.size, 0, none⟩) 0 0) 0 [] rfl hrow4 al cl w4.heap.size l rfl (Hhsl4.out.below (ek_entry _) hIb) (by omega) hIb.size (fun u => (by simp only [Act.put]; exact rfl)) ?_
      intro v5 x5 hrow5 hg5 hat5
      simp only [Nat.zero_add, List.nil_append] at hrow5
      obtain ⟨a5, cap5, rfl⟩ := row_len hrow5
      have hI5 : Below w4.heap.size w4 x5 := bl_grown hIb hIb.size hg5 (fun k hk => (hrow4.lt k hk).1)
      have Hhrow5 := Lib.hid hrow5; clear hrow5; have Hhg5 := Lib.hid hg5; clear hg5; have Hhat5 := Lib.hid hat5; clear hat5
      have xe5 := (Hhg5.out.block w4.heap.size (lt_of_heap xe2) (fun e => hne (by simpa [Value.ownBlock] using e.symm))).trans xe2
      refine otN hI5 (otOne ?_)
      refine StI_nil ?_
      refine append_logO rfl rfl _ _ rfl _ rfl w4.heap.size (.slice a5 l.length cap5) l.length (logCells l) rfl Hhrow5.out (some ⟨w4.heap.size, 0, none⟩) _ x5.heap.size [⟨0, 0, 0, 0, 0⟩] rfl (zero_sl xe5) (by simp; omega) hI5.size (fun u => (by simp only [Act.put]; exact rfl)) ?_
      intro v8 x8 hrow8 hg8 hat8
      have hI8 : Below w4.heap.size w4 x8 := bl_grown hI5 hI5.size hg8 (fun k hk => (Hhrow5.out.lt k hk).1)
      have hrow8' : x8.ownsRow w4.heap.size 69 5 v8 (l ++ [(⟨0, 0, 0, 0, 0⟩ : Entry)]).length (logCells (l ++ [(⟨0, 0, 0, 0, 0⟩ : Entry)])) := by rw [logCells_append, List.length_append]; exact hrow8
      obtain ⟨a8, cap8, rfl, hsl8⟩ := log_slG hrow8' (by simp; omega)
      rw [← Hhn1.out]
      clear hrow8 hrow8' hg8 hat8
      have Hhsl8 := Lib.hid hsl8; clear hsl8
      refine otN hI8 (otOne ?_)
      (apply StI_eff rfl; go_wp2_with (first | (go_at_call 20; refine (HHR4.out _ _ _ (bl_step Hhbw4.out hI8) Hhsl8.out).mono ?_; rintro e x9 ⟨rfl, hy9⟩)))
      have hI9 : Below w4.heap.size w4 x9 := bl_step hI8 hy9
      refine otN hI9 (otFin ?_)
      (apply StI_plain (w0 := x9) hI9 rfl rfl rfl rfl; (focus (intro W hW K hK; skip; go_step; exact hK)); (focus rfl)); (apply StI_plain (w0 := x9) hI9 rfl rfl rfl rfl; (focus (intro W hW K hK; skip; go_step; exact hK)); (focus rfl)); (apply StI_plain (w0 := x9) hI9 rfl rfl rfl rfl; (focus (intro W hW K hK; skip; go_step; exact hK)); (focus rfl)); (apply StI_plain (w0 := x9) hI9 rfl rfl rfl rfl; (focus (intro W hW K hK; skip; go_step; exact hK)); (focus rfl)); (apply StI_plain (w0 := x9) hI9 rfl rfl rfl rfl; (focus (intro W hW K hK; skip; go_step; exact hK)); (focus rfl))
      refine StI_nil ?_
      go_wp2_with fail
      go_meet
      exact ⟨rfl, rfl, hI9⟩
  case rest =>
  obtain ⟨rfl, rfl, hb5⟩ := hcut
  have hbw5 := bl_step Hhbw4.out hb5
  have hsl5 := (Hhsl4.out.below (ek_entry _) hb5).up hb5.size
  obtain ⟨_, _, _⟩ := bk w.heap.size hb5 (by omega)
  obtain ⟨_, _, _⟩ := bk (w.heap.size + 1) hb5 (by omega)
  obtain ⟨_, _, _⟩ := bk (w.heap.size + 1 + 1) hb5 (by omega)
  have hq5 : w.heap.size + 1 + 1 < wc.heap.size := by have := hb5.size; omega
  obtain ⟨w5, hw5⟩ : ∃ X, X = wc := ⟨_, rfl⟩
  subst hw5
  clear Hhbw4 Hhsl4
  have Hhbw5 := Lib.hid hbw5; clear hbw5; have Hhsl5 := Lib.hid hsl5; clear hsl5
  by_cases h0 : l.length = 0
  · as_aux_lemma =>
    have h0' : (l.length : Int) = 0 := by omega
    go_wp2_with (go_at_call 16; refine (HHWk.out _).mono ?_; rintro e w6 ⟨rfl, hb6⟩)
    go_ret
    exact ⟨rfl, bl_step Hhbw5.out hb6⟩
  have h0' : ¬ (l.length : Int) = 0 := by omega
  have h0b : ((l.length : Int) == 0) = false := by simpa using h0'
  go_upto_region 14 with fail
  go_cut [12, 13] from 73 to 84 (fun v12 v13 wx => v12 = .int .i64 23 ∧ v13 = .int .i64 (l.length - 1) ∧ Below w5.heap.size w5 wx)
  case first =>
    as_aux_lemma =>
    have hI : Below w5.heap.size w5 w5.drew := (Below.refl _ _).drew
    have h1 : (l.length : Int) - 1 ≤ (cl : Int) := by omega
    have h2 : 0 ≤ (l.length : Int) - 1 := by omega
    have h3 : (1 : Int) ≤ (l.length : Int) := by omega
    have hm : (l.take (l.length - 1)).length = l.length - 1 := by simp
    have HR6 : ∀ W, Below w.heap.size w W → Sl EntryE 5 W.heap.size W al (l.take (l.length - 1)) → Calls Try.prog 20 #[.agg #[.int .i64 T.steps, .slice a1 T.places.length c1, .slice a2 T.ways.length c2, .slice a3 T.groups.length c3, .slice a4 T.vehicles.length c4], .agg #[.slice p1 p.trips.length d1, .slice p2 p.rides.length d2], .agg #[.slice l1 c.late.length e1, .slice l2 c.absent.length e2, .slice l3 c.rides.length e3, .slice l4 c.broken.length e4], .slice al (l.length - 1) cl] W fun e w' => e = .returned (.tuple #[.int .i64 ((l.length : Int) - 1), .int .i64 23]) ∧ Below W.heap.size W w' := by
      intro W h1 h2
      have := HHR2.out W _ al cl h1 h2
      rw [hm, replay_less l (by omega)] at this
      exact this
    clear hm
    have hslt : Sl EntryE 5 w5.heap.size w5.drew al (l.take (l.length - 1)) := (Hhsl5.out.below (ek_entry _) hI).takeN _
    have HHR6 := Lib.hid HR6; clear HR6; have Hhslt := Lib.hid hslt; clear hslt
    have hwr : IntKind.i64.wrap ((l.length : Int) - 1) = (l.length : Int) - 1 := by rw [IntKind.wrap_i64]; omega
    refine wp_region_ord (fun W => Below w5.heap.size w5 W) [([0, 1, 2, 3, 4, 5, 6, 7], 8)] [9, 10, 11, 12, 13] none (by kernel_rfl) (by kernel_rfl) hI ?_
    refine OrdI_cons ?_
    (apply StI_plain (w0 := w5.drew) hI rfl rfl rfl rfl; (focus (intro W hW K hK; obtain ⟨_, _, _⟩ := bk w.heap.size hW (by omega); obtain ⟨_, _, _⟩ := bk (w.heap.size + 1) hW (by omega); obtain ⟨_, _, _⟩ := bk (w.heap.size + 1 + 1) hW (by omega); go_step; exact hK)); (focus rfl)); (apply StI_plain (w0 := w5.drew) hI rfl rfl rfl rfl; (focus (intro W hW K hK; obtain ⟨_, _, _⟩ := bk w.heap.size hW (by omega); obtain ⟨_, _, _⟩ := bk (w.heap.size + 1) hW (by omega); obtain ⟨_, _, _⟩ := bk (w.heap.size + 1 + 1) hW (by omega); go_step; exact hK)); (focus rfl)); (apply StI_plain (w0 := w5.drew) hI rfl rfl rfl rfl; (focus (intro W hW K hK; obtain ⟨_, _, _⟩ := bk w.heap.size hW (by omega); obtain ⟨_, _, _⟩ := bk (w.heap.size + 1) hW (by omega); obtain ⟨_, _, _⟩ := bk (w.heap.size + 1 + 1) hW (by omega); go_step; exact hK)); (focus rfl)); (apply StI_plain (w0 := w5.drew) hI rfl rfl rfl rfl; (focus (intro W hW K hK; obtain ⟨_, _, _⟩ := bk w.heap.size hW (by omega); obtain ⟨_, _, _⟩ := bk (w.heap.size + 1) hW (by omega); obtain ⟨_, _, _⟩ := bk (w.heap.size + 1 + 1) hW (by omega); go_step; exact hK)); (focus rfl)); (apply StI_plain (w0 := w5.drew) hI rfl rfl rfl rfl; (focus (intro W hW K hK; obtain ⟨_, _, _⟩ := bk w.heap.size hW (by omega); obtain ⟨_, _, _⟩ := bk (w.heap.size + 1) hW (by omega); obtain ⟨_, _, _⟩ := bk (w.heap.size + 1 + 1) hW (by omega); go_step; exact hK)); (focus rfl)); (apply StI_plain (w0 := w5.drew) hI rfl rfl rfl rfl; (focus (intro W hW K hK; obtain ⟨_, _, _⟩ := bk w.heap.size hW (by omega); obtain ⟨_, _, _⟩ := bk (w.heap.size + 1) hW (by omega); obtain ⟨_, _, _⟩ := bk (w.heap.size + 1 + 1) hW (by omega); go_step; exact hK)); (focus rfl)); (apply StI_plain (w0 := w5.drew) hI rfl rfl rfl rfl; (focus (intro W hW K hK; obtain ⟨_, _, _⟩ := bk w.heap.size hW (by omega); obtain ⟨_, _, _⟩ := bk (w.heap.size + 1) hW (by omega); obtain ⟨_, _, _⟩ := bk (w.heap.size + 1 + 1) hW (by omega); go_step; exact hK)); (focus rfl)); (apply StI_plain (w0 := w5.drew) hI rfl rfl rfl rfl; (focus (intro W hW K hK; obtain ⟨_, _, _⟩ := bk w.heap.size hW (by omega); obtain ⟨_, _, _⟩ := bk (w.heap.size + 1) hW (by omega); obtain ⟨_, _, _⟩ := bk (w.heap.size + 1 + 1) hW (by omega); go_step; exact hK)); (focus rfl))
    refine StI_nil ?_
    refine wpOp_eff rfl ?_
    go_wp2_with (go_at_call 20; refine (HHR6.out _ (bl_step Hhbw5.out hI) Hhslt.out).mono ?_; rintro e x6 ⟨rfl, hy6⟩)
    have hI6 : Below w5.heap.size w5 x6 := bl_step hI hy6
    refine onNormal_mk hI6 ?_
    refine OrdI_fin ?_
    (apply StI_plain (w0 := x6) hI6 rfl rfl rfl rfl; (focus (intro W hW K hK; skip; go_step; exact hK)); (focus rfl)); (apply StI_plain (w0 := x6) hI6 rfl rfl rfl rfl; (focus (intro W hW K hK; skip; go_step; exact hK)); (focus rfl)); (apply StI_plain (w0 := x6) hI6 rfl rfl rfl rfl; (focus (intro W hW K hK; skip; go_step; exact hK)); (focus rfl)); (apply StI_plain (w0 := x6) hI6 rfl rfl rfl rfl; (focus (intro W hW K hK; skip; go_step; exact hK)); (focus rfl)); (apply StI_plain (w0 := x6) hI6 rfl rfl rfl rfl; (focus (intro W hW K hK; skip; go_step; exact hK)); (focus rfl))
    refine StI_nil ?_
    go_wp2_with fail
    go_meet
    exact ⟨rfl, rfl, hI6⟩
  case rest =>
  obtain ⟨rfl, rfl, hb6⟩ := hcut
  have hbw6 := bl_step Hhbw5.out hb6
  have hsl6 := (Hhsl5.out.below (ek_entry _) hb6).up hb6.size
  obtain ⟨_, _, _⟩ := bk w.heap.size hb6 (by omega)
  obtain ⟨_, _, _⟩ := bk (w.heap.size + 1) hb6 (by omega)
  obtain ⟨_, _, _⟩ := bk (w.heap.size + 1 + 1) hb6 (by omega)
  have hq6 : w.heap.size + 1 + 1 < wc.heap.size := by have := hb6.size; omega
  obtain ⟨w6, hw6⟩ : ∃ X, X = wc := ⟨_, rfl⟩
  subst hw6
  clear Hhbw5 Hhsl5
  have Hhbw6 := Lib.hid hbw6; clear hbw6; have Hhsl6 := Lib.hid hsl6; clear hsl6
  obtain ⟨k, hk⟩ : ∃ k : Nat, ka % (l.length : Int) = k := ⟨(ka % (l.length : Int)).toNat, by have := Int.emod_nonneg ka h0'; omega⟩
  have hkl : k < l.length := by have := Int.emod_lt_of_pos ka (show (0 : Int) < l.length by omega); omega
  go_upto_region 18 with fail
  rw [hk]
  clear hk h0b
  have hrow7 : (w6.alloc (.cells #[] 69)).ownsRow w6.heap.size 69 5 (.slice (some ⟨w6.heap.size, 0, none⟩) 0 0) 0 [] := World.ownsRow_lit w6 #[] 0 (Nat.le_refl _) (by decide) rfl
  have hb7 : Below w6.heap.size w6 (w6.alloc (.cells #[] 69)) := bl_alloc (Below.refl _ _) _
  have hsl7 := Hhsl6.out.below (ek_entry _) hb7
  have Hhrow7 := Lib.hid hrow7; clear hrow7; have Hhb7 := Lib.hid hb7; clear hb7; have Hhsl7 := Lib.hid hsl7; clear hsl7
  go_upto_region 19 with (at_builtin; refine append_log rfl _ _ rfl w6.heap.size (.slice (some ⟨w6.heap.size, 0, none⟩) 0 0) 0 [] rfl Hhrow7.out al cl w6.heap.size l rfl Hhsl7.out (by omega) Hhb7.out.size ?_; intro v8 w8 hrow8 hg8 hat8; simp only [Nat.zero_add, List.nil_append] at hrow8; obtain ⟨g8, cap8, rfl, hgb, hgl⟩ := hrow8.form (by omega); have Hhrow8 := Lib.hid hrow8; clear hrow8; have Hhg8 := Lib.hid hg8; clear hg8; have Hhat8 := Lib.hid hat8; clear hat8)
  have hb8 : Below w6.heap.size w6 w8 := bl_grown Hhb7.out Hhb7.out.size Hhg8.out (fun k hk => (Hhrow7.out.lt k hk).1)
  have hbw8 := bl_step Hhbw6.out hb8
  obtain ⟨_, _, _⟩ := bk w.heap.size hb8 (by omega)
  obtain ⟨_, _, _⟩ := bk (w.heap.size + 1) hb8 (by omega)
  obtain ⟨_, _, _⟩ := bk (w.heap.size + 1 + 1) hb8 (by omega)
  have c8 : ∀ j, j < 5 → w8.cell? ⟨g8, k * 5 + j, none⟩ = (enCells l[k])[j]? := fun j hj =>
    (Hhrow8.out.cellAt (k * 5 + j) (by omega)).trans (logCells_get l k j _ (List.getElem?_eq_getElem hkl) hj)
  have f8 := Hhrow8.out.frozenAt
  obtain ⟨y, hy⟩ : ∃ y, y = l[k] := ⟨_, rfl⟩
  rw [← hy] at c8
  have c80 : w8.cell? ⟨g8, k * 5, none⟩ = some (.int .i64 y.step) := c8 0 (by omega)
  have c81 : w8.cell? ⟨g8, k * 5 + 1, none⟩ = some (.int .i64 y.kind) := c8 1 (by omega)
  have c82 : w8.cell? ⟨g8, k * 5 + 2, none⟩ = some (.int .i64 y.party) := c8 2 (by omega)
  have c83 : w8.cell? ⟨g8, k * 5 + 3, none⟩ = some (.int .i64 y.at_) := c8 3 (by omega)
  have c84 : w8.cell? ⟨g8, k * 5 + 4, none⟩ = some (.int .i64 y.people) := c8 4 (by omega)
  have hki : (k : Int) < (l.length : Int) := by omega
  have HR8 : ∀ (j : Nat) W, Below w.heap.size w W → Sl EntryE 5 W.heap.size W (some ⟨g8, 0, none⟩) (l.set k (wrongE j y)) → Calls Try.prog 20 #[.agg #[.int .i64 T.steps, .slice a1 T.places.length c1, .slice a2 T.ways.length c2, .slice a3 T.groups.length c3, .slice a4 T.vehicles.length c4], .agg #[.slice p1 p.trips.length d1, .slice p2 p.rides.length d2], .agg #[.slice l1 c.late.length e1, .slice l2 c.absent.length e2, .slice l3 c.rides.length e3, .slice l4 c.broken.length e4], .slice (some ⟨g8, 0, none⟩) l.length cap8] W fun e w' => e = .returned (.tuple #[.int .i64 k, .int .i64 23]) ∧ Below W.heap.size W w' := by
    intro j W h1 h2
    have := HHR2.out W _ (some ⟨g8, 0, none⟩) cap8 h1 h2
    rw [replay_set l k _ hkl (by rw [← hy]; exact wrongE_ne j y), List.length_set] at this
    exact this
  have hrw : ∀ (j : Nat) (u : Value), j < 5 → enCells (wrongE j y) = (enCells y).set j u → (w8.setCell ⟨g8, k * 5 + j, none⟩ u).ownsRow w6.heap.size 69 5 (.slice (some ⟨g8, 0, none⟩) (l.set k (wrongE j y)).length cap8) (l.set k (wrongE j y)).length (logCells (l.set k (wrongE j y))) :=
    fun j u hj he => row_wrong Hhrow8.out hkl j hj u (wrongE j y) (by rw [← hy]; exact he)
  have hwl : ∀ j, (l.set k (wrongE j y)).length ≤ 1000000000 := fun j => by rw [List.length_set]; omega
  clear c8
  have Hhb8 := Lib.hid hb8; clear hb8; have Hhbw8 := Lib.hid hbw8; clear hbw8; have HHR8 := Lib.hid HR8; clear HR8; have Hhrw := Lib.hid hrw; clear hrw; have Hhwl := Lib.hid hwl; clear hwl; have Hhy := Lib.hid hy; clear hy
  rcases (show kb % 5 = 0 ∨ kb % 5 = 1 ∨ kb % 5 = 2 ∨ kb % 5 = 3 ∨ kb % 5 = 4 by omega) with hr | hr | hr | hr | hr
  · as_aux_lemma =>
    have hrow9 : (w8.setCell ⟨g8, k * 5, none⟩ (.int .i64 (wrap64 (y.step + 1)))).ownsRow w6.heap.size 69 5 (.slice (some ⟨g8, 0, none⟩) (l.set k (wrongE 0 y)).length cap8) (l.set k (wrongE 0 y)).length (logCells (l.set k (wrongE 0 y))) := Hhrw.out 0 _ (by omega) (by rw [← wrap_eq]; rfl)
    obtain ⟨a9, cap9, hv9, hsl9⟩ := log_slG hrow9 (Hhwl.out 0)
    obtain ⟨rfl, _, rfl⟩ := Value.slice.inj hv9
    have hb9 : Below w6.heap.size w6 (w8.setCell ⟨g8, k * 5, none⟩ (.int .i64 (wrap64 (y.step + 1)))) := bl_setCell Hhb8.out _ _ hgb
    obtain ⟨_, _, _⟩ := bk w.heap.size hb9 (by omega)
    obtain ⟨_, _, _⟩ := bk (w.heap.size + 1) hb9 (by omega)
    obtain ⟨_, _, _⟩ := bk (w.heap.size + 1 + 1) hb9 (by omega)
    clear hv9 hrow9
    have Hhb9 := Lib.hid hb9; clear hb9; have Hhsl9 := Lib.hid hsl9; clear hsl9
    go_wp2_with (first | (go_at_call 20; refine (HHR8.out 0 _ (bl_step Hhbw6.out Hhb9.out) Hhsl9.out).mono ?_; rintro e x6 ⟨rfl, hy6⟩) | (go_at_call 16; refine (HHWk.out _).mono ?_; rintro e x7 ⟨rfl, hy7⟩))
    go_ret
    exact ⟨by first | rfl | simp, bl_step (bl_step (bl_step Hhbw6.out Hhb9.out) hy6) hy7⟩
  · as_aux_lemma =>
    have hrow9 : (w8.setCell ⟨g8, k * 5 + 1, none⟩ (.int .i64 (wrap64 (y.kind + 1)))).ownsRow w6.heap.size 69 5 (.slice (some ⟨g8, 0, none⟩) (l.set k (wrongE 1 y)).length cap8) (l.set k (wrongE 1 y)).length (logCells (l.set k (wrongE 1 y))) := Hhrw.out 1 _ (by omega) (by rw [← wrap_eq]; rfl)
    obtain ⟨a9, cap9, hv9, hsl9⟩ := log_slG hrow9 (Hhwl.out 1)
    obtain ⟨rfl, _, rfl⟩ := Value.slice.inj hv9
    have hb9 : Below w6.heap.size w6 (w8.setCell ⟨g8, k * 5 + 1, none⟩ (.int .i64 (wrap64 (y.kind + 1)))) := bl_setCell Hhb8.out _ _ hgb
    obtain ⟨_, _, _⟩ := bk w.heap.size hb9 (by omega)
    obtain ⟨_, _, _⟩ := bk (w.heap.size + 1) hb9 (by omega)
    obtain ⟨_, _, _⟩ := bk (w.heap.size + 1 + 1) hb9 (by omega)
    clear hv9 hrow9
    have Hhb9 := Lib.hid hb9; clear hb9; have Hhsl9 := Lib.hid hsl9; clear hsl9
    go_wp2_with (first | (go_at_call 20; refine (HHR8.out 1 _ (bl_step Hhbw6.out Hhb9.out) Hhsl9.out).mono ?_; rintro e x6 ⟨rfl, hy6⟩) | (go_at_call 16; refine (HHWk.out _).mono ?_; rintro e x7 ⟨rfl, hy7⟩))
    go_ret
    exact ⟨by first | rfl | simp, bl_step (bl_step (bl_step Hhbw6.out Hhb9.out) hy6) hy7⟩
  · as_aux_lemma =>
    have hrow9 : (w8.setCell ⟨g8, k * 5 + 2, none⟩ (.int .i64 (wrap64 (y.party - 1)))).ownsRow w6.heap.size 69 5 (.slice (some ⟨g8, 0, none⟩) (l.set k (wrongE 2 y)).length cap8) (l.set k (wrongE 2 y)).length (logCells (l.set k (wrongE 2 y))) := Hhrw.out 2 _ (by omega) (by rw [← wrap_eq]; rfl)
    obtain ⟨a9, cap9, hv9, hsl9⟩ := log_slG hrow9 (Hhwl.out 2)
    obtain ⟨rfl, _, rfl⟩ := Value.slice.inj hv9
    have hb9 : Below w6.heap.size w6 (w8.setCell ⟨g8, k * 5 + 2, none⟩ (.int .i64 (wrap64 (y.party - 1)))) := bl_setCell Hhb8.out _ _ hgb
    obtain ⟨_, _, _⟩ := bk w.heap.size hb9 (by omega)
    obtain ⟨_, _, _⟩ := bk (w.heap.size + 1) hb9 (by omega)
    obtain ⟨_, _, _⟩ := bk (w.heap.size + 1 + 1) hb9 (by omega)
    clear hv9 hrow9
    have Hhb9 := Lib.hid hb9; clear hb9; have Hhsl9 := Lib.hid hsl9; clear hsl9
    go_wp2_with (first | (go_at_call 20; refine (HHR8.out 2 _ (bl_step Hhbw6.out Hhb9.out) Hhsl9.out).mono ?_; rintro e x6 ⟨rfl, hy6⟩) | (go_at_call 16; refine (HHWk.out _).mono ?_; rintro e x7 ⟨rfl, hy7⟩))
    go_ret
    exact ⟨by first | rfl | simp, bl_step (bl_step (bl_step Hhbw6.out Hhb9.out) hy6) hy7⟩
  · as_aux_lemma =>
    have hrow9 : (w8.setCell ⟨g8, k * 5 + 3, none⟩ (.int .i64 (wrap64 (y.at_ + 1)))).ownsRow w6.heap.size 69 5 (.slice (some ⟨g8, 0, none⟩) (l.set k (wrongE 3 y)).length cap8) (l.set k (wrongE 3 y)).length (logCells (l.set k (wrongE 3 y))) := Hhrw.out 3 _ (by omega) (by rw [← wrap_eq]; rfl)
    obtain ⟨a9, cap9, hv9, hsl9⟩ := log_slG hrow9 (Hhwl.out 3)
    obtain ⟨rfl, _, rfl⟩ := Value.slice.inj hv9
    have hb9 : Below w6.heap.size w6 (w8.setCell ⟨g8, k * 5 + 3, none⟩ (.int .i64 (wrap64 (y.at_ + 1)))) := bl_setCell Hhb8.out _ _ hgb
    obtain ⟨_, _, _⟩ := bk w.heap.size hb9 (by omega)
    obtain ⟨_, _, _⟩ := bk (w.heap.size + 1) hb9 (by omega)
    obtain ⟨_, _, _⟩ := bk (w.heap.size + 1 + 1) hb9 (by omega)
    clear hv9 hrow9
    have Hhb9 := Lib.hid hb9; clear hb9; have Hhsl9 := Lib.hid hsl9; clear hsl9
    go_wp2_with (first | (go_at_call 20; refine (HHR8.out 3 _ (bl_step Hhbw6.out Hhb9.out) Hhsl9.out).mono ?_; rintro e x6 ⟨rfl, hy6⟩) | (go_at_call 16; refine (HHWk.out _).mono ?_; rintro e x7 ⟨rfl, hy7⟩))
    go_ret
    exact ⟨by first | rfl | simp, bl_step (bl_step (bl_step Hhbw6.out Hhb9.out) hy6) hy7⟩
  · as_aux_lemma =>
    have hrow9 : (w8.setCell ⟨g8, k * 5 + 4, none⟩ (.int .i64 (wrap64 (y.people + 1)))).ownsRow w6.heap.size 69 5 (.slice (some ⟨g8, 0, none⟩) (l.set k (wrongE 4 y)).length cap8) (l.set k (wrongE 4 y)).length (logCells (l.set k (wrongE 4 y))) := Hhrw.out 4 _ (by omega) (by rw [← wrap_eq]; rfl)
    obtain ⟨a9, cap9, hv9, hsl9⟩ := log_slG hrow9 (Hhwl.out 4)
    obtain ⟨rfl, _, rfl⟩ := Value.slice.inj hv9
    have hb9 : Below w6.heap.size w6 (w8.setCell ⟨g8, k * 5 + 4, none⟩ (.int .i64 (wrap64 (y.people + 1)))) := bl_setCell Hhb8.out _ _ hgb
    obtain ⟨_, _, _⟩ := bk w.heap.size hb9 (by omega)
    obtain ⟨_, _, _⟩ := bk (w.heap.size + 1) hb9 (by omega)
    obtain ⟨_, _, _⟩ := bk (w.heap.size + 1 + 1) hb9 (by omega)
    clear hv9 hrow9
    have Hhb9 := Lib.hid hb9; clear hb9; have Hhsl9 := Lib.hid hsl9; clear hsl9
    go_wp2_with (first | (go_at_call 20; refine (HHR8.out 4 _ (bl_step Hhbw6.out Hhb9.out) Hhsl9.out).mono ?_; rintro e x6 ⟨rfl, hy6⟩) | (go_at_call 16; refine (HHWk.out _).mono ?_; rintro e x7 ⟨rfl, hy7⟩))
    go_ret
    exact ⟨by first | rfl | simp, bl_step (bl_step (bl_step Hhbw6.out Hhb9.out) hy6) hy7⟩

end Go.Proofs.Ytjoihijlcpnhoaa
