/- dike: windows, what lies in memory, slot and end. -/
import Derived.Test.YtahoobhjabhfmaaA
import Derived.Test.YtahoobhjabhfmaaGateD
import Derived.Deep.DeepCutAuto
namespace Go.Proofs.Ytahoobhjabhfmaa
open Go.RowKit

def SpanE (w : World) (b o : Nat) (u : Int × Int) : Prop := w.cell? ⟨b, o, none⟩ = some (.int .i64 u.1) ∧ w.cell? ⟨b, o + 1, none⟩ = some (.int .i64 u.2)
theorem ek_span (B : Nat) : EK B SpanE := fun _ _ _ _ _ hB hb ⟨h0, h1⟩ => ⟨ek_cell hB hb h0, ek_cell hB hb h1⟩
def StpE (B : Nat) (w : World) (b o : Nat) (s : Stp) : Prop :=
  ∃ a c, s.after.length ≤ c ∧ c ≤ 9223372036854775807 ∧ w.cell? ⟨b, o, none⟩ = some (.string s.name) ∧ w.cell? ⟨b, o + 1, none⟩ = some (.slice a s.after.length c) ∧ w.cell? ⟨b, o + 2, none⟩ = some (.int .i64 s.tlo) ∧ w.cell? ⟨b, o + 3, none⟩ = some (.int .i64 s.thi) ∧
    w.cell? ⟨b, o + 4, none⟩ = some (.bool s.calm) ∧ w.cell? ⟨b, o + 5, none⟩ = some (.bool false) ∧ w.cell? ⟨b, o + 6, none⟩ = some (.int .i64 0) ∧ Sl IntE 1 B w a s.after
theorem ek_stp (B : Nat) : EK B (StpE B) := fun _ _ _ _ _ hB hb ⟨a, c, hc, hc', h0, h1, h2, h3, h4, h5, h6, hs⟩ =>
  ⟨a, c, hc, hc', ek_cell hB hb h0, ek_cell hB hb h1, ek_cell hB hb h2, ek_cell hB hb h3, ek_cell hB hb h4, ek_cell hB hb h5, ek_cell hB hb h6, hs.below (ek_int B) hB⟩

theorem slotT_drop {ready takes : Int} {ws : List (Int × Int)} {k : Nat} (h : k < ws.length) : slotT ready takes (ws.drop k) = if max ready ws[k].1 + takes ≤ ws[k].2 then max ready ws[k].1 + takes else slotT ready takes (ws.drop (k + 1)) := by
  rw [List.drop_eq_getElem_cons h, slotT]

set_option maxHeartbeats 2000000 in
set_option maxRecDepth 100000 in
theorem slot_any (ready takes : Int) (ws : List (Int × Int)) (a : Option Addr) (c B : Nat) (w : World) (hS : Sl SpanE 2 B w a ws) (hB : B ≤ w.heap.size) (hw : ∀ u ∈ ws, 0 ≤ u.1 ∧ u.1 ≤ u.2 ∧ u.2 ≤ 1000000000)
    (h0 : 0 ≤ ready) (h1 : ready ≤ 2199023255552) (h2 : 0 ≤ takes) (h3 : takes ≤ 100000000) :
    Calls Try.prog 29 #[.int .i64 ready, .int .i64 takes, .slice a ws.length c] w fun e w' => e = .returned (.int .i64 (slotT ready takes ws)) ∧ Below w.heap.size w w' := by
  have hl := hS.1
  have HS := Lib.hid hS
  have HW := Lib.hid hw
  clear hS hw
  go_enter Try.func29, Try.ntmps29
  go_wp2_with fail
  go_loopw [12] (fun i wr => ∃ k : Nat, k ≤ ws.length ∧ i = .int .i64 k ∧ Below w.heap.size w wr ∧ Hid (slotT ready takes (ws.drop k) = slotT ready takes ws)) (fun i _ => ws.length - (intOf i).toNat)
  case atStart => exact ⟨0, Nat.zero_le _, rfl, Below.refl _ _, Lib.hid (by simp)⟩
  case round =>
    obtain ⟨k, hk, rfl, hb, hr⟩ := hrel
    by_cases hlt : k < ws.length
    · obtain ⟨b, off, rfl, hbB, he⟩ := (HS.out.below (ek_span B) (hb.mono hB)).2 k hlt
      have hg := HW.out ws[k] (by simp)
      have hst := slotT_drop (ready := ready) (takes := takes) hlt
      obtain ⟨u, hu⟩ : ∃ u, ws[k] = u := ⟨_, rfl⟩
      rw [hu] at he hg hst
      obtain ⟨u1, u2⟩ := u
      obtain ⟨e0, e1⟩ := he
      obtain ⟨g0, g1, g2⟩ := hg
      simp only at e0 e1 g0 g1 g2 hst
      have hbw : b < wr.heap.size := by have := hb.size; omega
      by_cases hc : ready < u1
      · rw [Int.max_eq_right (by omega)] at hst
        by_cases ht : u1 + takes ≤ u2
        · rw [if_pos ht] at hst
          have Hhu := Lib.hid hu; clear hu; have Hhst := Lib.hid hst; clear hst
          go_wp2_with fail
          go_ret
          exact ⟨ret_int (by rw [← hr.out, Hhst.out]), (by repeat (first | exact Below.refl _ _ | (refine bl_setCell ?_ _ _ ?_; rotate_left; focus (first | omega | (simp; done) | (simp; omega))) | refine bl_alloc ?_ _ | refine bl_step ?_ (by assumption) | refine bl_drew ?_ | refine bl_drewN ?_ _))⟩
        · rw [if_neg ht] at hst
          have ht' : u2 < u1 + takes := by omega
          clear ht
          have Hhu := Lib.hid hu; clear hu; have Hhst := Lib.hid hst; clear hst
          go_wp2_with fail
          go_roundw
          case rel => exact ⟨k + 1, by omega, by go_num, (by repeat (first | exact Below.refl _ _ | (refine bl_setCell ?_ _ _ ?_; rotate_left; focus (first | omega | (simp; done) | (simp; omega))) | refine bl_alloc ?_ _ | refine bl_step ?_ (by assumption) | refine bl_drew ?_ | refine bl_drewN ?_ _)), Lib.hid (by rw [← hr.out, Hhst.out])⟩
          case measure => simp [intOf]; omega
      · rw [Int.max_eq_left (by omega)] at hst
        have hc' : u1 ≤ ready := by omega
        clear hc
        by_cases ht : ready + takes ≤ u2
        · rw [if_pos ht] at hst
          have Hhu := Lib.hid hu; clear hu; have Hhst := Lib.hid hst; clear hst
          go_wp2_with fail
          go_ret
          exact ⟨ret_int (by rw [← hr.out, Hhst.out]), (by repeat (first | exact Below.refl _ _ | (refine bl_setCell ?_ _ _ ?_; rotate_left; focus (first | omega | (simp; done) | (simp; omega))) | refine bl_alloc ?_ _ | refine bl_step ?_ (by assumption) | refine bl_drew ?_ | refine bl_drewN ?_ _))⟩
        · rw [if_neg ht] at hst
          have ht' : u2 < ready + takes := by omega
          clear ht
          have Hhu := Lib.hid hu; clear hu; have Hhst := Lib.hid hst; clear hst
          go_wp2_with fail
          go_roundw
          case rel => exact ⟨k + 1, by omega, by go_num, (by repeat (first | exact Below.refl _ _ | (refine bl_setCell ?_ _ _ ?_; rotate_left; focus (first | omega | (simp; done) | (simp; omega))) | refine bl_alloc ?_ _ | refine bl_step ?_ (by assumption) | refine bl_drew ?_ | refine bl_drewN ?_ _)), Lib.hid (by rw [← hr.out, Hhst.out])⟩
          case measure => simp [intOf]; omega
    · obtain rfl : k = ws.length := by omega
      have hr' := hr.out
      rw [List.drop_length] at hr'
      have Hhr' := Lib.hid hr'; clear hr'
      go_wp2_with fail
      go_ret
      exact ⟨ret_int (by rw [← Hhr'.out]; rfl), hb⟩

set_option maxHeartbeats 2000000 in
set_option maxRecDepth 100000 in
theorem end_any (nm : ByteArray) (aa : Option Addr) (na ca : Nat) (tl th : Int) (calm : Bool) (ready takes v : Int) (ws : List (Int × Int)) (a : Option Addr) (c B : Nat) (w : World) (hS : Sl SpanE 2 B w a ws) (hB : B ≤ w.heap.size) (hw : ∀ u ∈ ws, 0 ≤ u.1 ∧ u.1 ≤ u.2 ∧ u.2 ≤ 1000000000)
    (h0 : 0 ≤ ready) (h1 : ready ≤ 2199023255552) (h2 : 0 ≤ takes) (h3 : takes ≤ 100000000) (hv : endT calm ready takes ws = v) :
    Calls Try.prog 16 #[.agg #[.string nm, .slice aa na ca, .int .i64 tl, .int .i64 th, .bool calm, .bool false, .int .i64 0], .int .i64 ready, .int .i64 takes, .slice a ws.length c] w fun e w' => e = .returned (.int .i64 v) ∧ Below w.heap.size w w' := by
  subst hv
  by_cases hn : ready = 1099511627776
  · have hv : endT calm ready takes ws = 1099511627776 := by unfold endT; rw [if_pos hn]
    rw [hv]
    subst hn
    clear hS
    go_enter Try.func16, Try.ntmps16
    go_wp2_with fail
    go_ret
    exact ⟨rfl, (by repeat (first | exact Below.refl _ _ | (refine bl_setCell ?_ _ _ ?_; rotate_left; focus (first | omega | (simp; done) | (simp; omega))) | refine bl_alloc ?_ _ | refine bl_step ?_ (by assumption) | refine bl_drew ?_ | refine bl_drewN ?_ _))⟩
  · have hn' : (ready == 1099511627776) = false := by simpa using hn
    cases calm
    · have hv : endT false ready takes ws = ready + takes := by unfold endT; rw [if_neg hn]; rfl
      rw [hv]
      clear hS hn
      go_enter Try.func16, Try.ntmps16
      go_wp2_with fail
      go_ret
      exact ⟨rfl, (by repeat (first | exact Below.refl _ _ | (refine bl_setCell ?_ _ _ ?_; rotate_left; focus (first | omega | (simp; done) | (simp; omega))) | refine bl_alloc ?_ _ | refine bl_step ?_ (by assumption) | refine bl_drew ?_ | refine bl_drewN ?_ _))⟩
    · have hv : endT true ready takes ws = slotT ready takes ws := by unfold endT; rw [if_neg hn]; rfl
      rw [hv]
      have hs := fun W (hW : Below w.heap.size w W) => slot_any ready takes ws a c B W (hS.below (ek_span B) (hW.mono hB)) (by have := hW.size; omega) hw h0 h1 h2 h3
      clear hS hn hv
      go_enter Try.func16, Try.ntmps16
      go_wp2_with fail
      refine (hs _ (by repeat (first | exact Below.refl _ _ | (refine bl_setCell ?_ _ _ ?_; rotate_left; focus (first | omega | (simp; done) | (simp; omega))) | refine bl_alloc ?_ _ | refine bl_step ?_ (by assumption) | refine bl_drew ?_ | refine bl_drewN ?_ _))).mono ?_
      rintro e w1 ⟨rfl, hb1⟩
      go_wp2_with fail
      go_ret
      exact ⟨rfl, (by repeat (first | exact Below.refl _ _ | (refine bl_setCell ?_ _ _ ?_; rotate_left; focus (first | omega | (simp; done) | (simp; omega))) | refine bl_alloc ?_ _ | refine bl_step ?_ (by assumption) | refine bl_drew ?_ | refine bl_drewN ?_ _))⟩
end Go.Proofs.Ytahoobhjabhfmaa
