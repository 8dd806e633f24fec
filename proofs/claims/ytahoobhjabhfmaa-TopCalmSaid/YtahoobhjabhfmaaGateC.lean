/- dike: CheckSteps of steps that are well. -/
import Derived.Test.YtahoobhjabhfmaaGateB
namespace Go.Proofs.Ytahoobhjabhfmaa
open Go.RowKit

theorem sl_take {B : Nat} {w : World} {a : Option Addr} {l : List Int} (h : Sl IntE 1 B w a l) (j : Nat) : Sl IntE 1 B w a (l.take j) :=
  ⟨by have := h.1; have := List.length_take_le' j l; omega, fun k hk => by
    have hk' : k < l.length := by simp at hk; omega
    obtain ⟨b, off, h1, h2, h3⟩ := h.2 k hk'
    exact ⟨b, off, h1, h2, by rw [List.getElem_take]; exact h3⟩⟩
theorem nodup_take {l : List Int} (h : l.Nodup) {j : Nat} (hj : j < l.length) : ∀ y ∈ l.take j, l[j] ≠ y := by
  intro y hy
  obtain ⟨i, hi, rfl⟩ := List.mem_iff_getElem.1 hy
  rw [List.getElem_take]
  have hi' : i < j := by simp at hi; omega
  intro he
  have := (List.getElem_inj h).1 he
  omega

set_option maxHeartbeats 4000000 in
set_option maxRecDepth 100000 in
theorem checkSteps_ok (l : List Stp) (a : Option Addr) (c B : Nat) (w : World) (hB : B ≤ w.heap.size) (hS : Sl (StpE B) 7 B w a l) (hok : StpsOk l) (hc : l.length ≤ c) (hc' : c ≤ 9223372036854775807) :
    Calls Try.prog 13 #[.slice a l.length c] w fun e w' => e = .returned (.int .i64 0) ∧ Below w.heap.size w w' := by
  have h32 : l.length ≤ 32 := hok.few
  have hll := hS.1
  have HS := Lib.hid hS
  have HO := Lib.hid hok
  clear hS hok
  go_enter Try.func13, Try.ntmps13
  go_wp2_with (fail)
  go_loopw [12] (fun i wr => ∃ k : Nat, k ≤ l.length ∧ i = .int .i64 k ∧ Below w.heap.size w wr) (fun i _ => l.length - (intOf i).toNat)
  case atStart => exact ⟨0, Nat.zero_le _, rfl, Below.refl _ _⟩
  case round =>
    obtain ⟨k, hk, rfl, hb⟩ := hrel
    by_cases hlt : k < l.length
    · have hSr := HS.out.below (ek_stp B) (hb.mono hB)
      obtain ⟨b, off, rfl, hbB, he⟩ := hSr.2 k hlt
      have hg := HO.out.each k hlt
      have hnm := HO.out.names
      obtain ⟨s, hs⟩ : ∃ x, l[k] = x := ⟨_, rfl⟩
      have hne : ∀ j (h : j < l.length), j < k → l[j].name ≠ s.name := fun j h hj => by rw [← hs]; exact hnm j k h hlt hj
      rw [hs] at he hg
      obtain ⟨aa, ca, hca, hca', e0, e1, e2, e3, e4, e5, e6, hsl⟩ := he
      have hbw : b < wr.heap.size := by have := hb.size; omega
      have hn := named_ok s.name hg.size0 hg.size1 hg.letters
      have hct := fun W (hW : Below wr.heap.size wr W) (hq : W.cell? ⟨wr.heap.size, 0, none⟩ = some (.string s.name)) (hqs : wr.heap.size < W.heap.size) =>
        containsStp_none l k hk (some ⟨b, off, none⟩) c B wr.heap.size s.name W (by have := hb.size; have := hW.size; omega) (hSr.below (ek_stp B) (hW.mono (by have := hb.size; omega))) hq hqs hne
      have HG := Lib.hid hg
      have HSL := Lib.hid hsl
      clear hg hsl hSr hnm hne
      have hkc : k ≤ c := by omega
      have Hhs := Lib.hid hs; clear hs; have Hhb := Lib.hid hb; clear hb
      go_wp2_with (fail)
      refine (hn _).mono ?_
      rintro e w1 ⟨rfl, hb1⟩
      have z1 : w1.heap[wr.heap.size]? = some (.cells #[.string s.name, .slice aa s.after.length ca, .int .i64 s.tlo, .int .i64 s.thi, .bool s.calm, .bool false, .int .i64 0] 49 (0, 0)) := heap_below hb1 (by repeat (first | (refine heap_alloc_at' _ _ ?_; focus (simp; done)) | refine heap_alloc_off ?_ _))
      have z1c := cells_of z1
      have z1l := lt_of_heap z1
      have hb01 : Below wr.heap.size wr w1 := (by repeat (first | exact Below.refl _ _ | (refine bl_setCell ?_ _ _ ?_; rotate_left; focus (first | omega | (simp; done) | (simp; omega))) | refine bl_alloc ?_ _ | refine bl_step ?_ (by assumption) | refine bl_drew ?_ | refine bl_drewN ?_ _))
      clear hb1
      have Hz1 := Lib.hid z1; clear z1; have Hhb01 := Lib.hid hb01; clear hb01
      go_wp2_with (fail)
      refine (hct w1 Hhb01.out (z1c 0) z1l).mono ?_
      rintro e w2 ⟨rfl, hb2⟩
      have z2 := heap_below hb2 Hz1.out
      have z2c := cells_of z2
      have z2l := lt_of_heap z2
      have hb02 := bl_step Hhb01.out hb2
      have hsl2 := HSL.out.below (ek_int B) (hb02.mono (by have := Hhb.out.size; omega))
      have hn100 := HG.out.few
      clear z1c z1l hct hb2
      have HS2 := Lib.hid hsl2
      clear hsl2 HSL
      have hB2 : B ≤ w2.heap.size := by have := hb02.size; have := Hhb.out.size; omega
      have Hz2 := Lib.hid z2; clear z2; have Hhb02 := Lib.hid hb02; clear hb02
      go_wp2_with (fail)
      go_loop [31] (fun i => ∃ j : Nat, j ≤ s.after.length ∧ i = .int .i64 j) (fun i => s.after.length - (intOf i).toNat)
      case atStart => exact ⟨0, Nat.zero_le _, rfl⟩
      case round =>
        obtain ⟨j, hj, rfl⟩ := hrel
        by_cases hjl : j < s.after.length
        · obtain ⟨b', off', rfl, hbb', he'⟩ := HS2.out.2 j hjl
          have hbe := HG.out.before s.after[j] (List.getElem_mem hjl)
          have hct2 : Calls Try.prog 28 #[.slice (some ⟨b', off', none⟩) j ca, .int .i64 s.after[j]] w2 fun e w' => e = .returned (.bool false) ∧ w2 = w' := by
            have := containsInt_none (s.after.take j) s.after[j] (some ⟨b', off', none⟩) ca B w2 hB2 (sl_take HS2.out j) (nodup_take HG.out.once hjl)
            rw [List.length_take, Nat.min_eq_left hj] at this
            exact this
          obtain ⟨y, hy⟩ : ∃ y, s.after[j] = y := ⟨_, rfl⟩
          rw [hy] at he' hbe hct2
          have he'' : w2.cell? ⟨b', off' + j, none⟩ = some (.int .i64 y) := by have := he'; unfold IntE at this; simpa using this
          clear he'
          obtain ⟨y0, y1⟩ := hbe
          have hjca : j ≤ ca := by omega
          have Hhy := Lib.hid hy; clear hy
          go_wp2_with (fail)
          refine hct2.mono ?_
          rintro e w3 ⟨rfl, rfl⟩
          go_wp2_with (fail)
          go_round
          case rel => exact ⟨j + 1, by omega, by go_num⟩
          case measure => simp [intOf]; omega
        · have hvb : vldB s.tlo s.thi 0 100000000 = true := by
            have := HG.out.t0; have := HG.out.t1; have := HG.out.t2
            simp [vldB]; omega
          have hv := dvalid_any s.tlo s.thi 0 100000000 w2
          rw [hvb] at hv
          have Hhvb := Lib.hid hvb; clear hvb
          go_wp2_with (fail)
          refine hv.mono ?_
          rintro e w3 ⟨rfl, hb3⟩
          obtain ⟨_, _, _⟩ := bk wr.heap.size hb3 z2l
          go_wp2_with (fail)
          go_roundw
          case rel => exact ⟨k + 1, by omega, by go_num, bl_step (bl_step Hhb.out Hhb02.out) hb3⟩
          case measure => simp [intOf]; omega
    · go_wp2_with (fail)
      go_ret
      exact ⟨rfl, hb⟩
end Go.Proofs.Ytahoobhjabhfmaa
