/- dike: checks of steps that are well. -/
import Derived.Test.YtahoobhjabhfmaaGate
import Derived.Lib.ConvBytes
namespace Go.Proofs.Ytahoobhjabhfmaa
open Go.RowKit

set_option maxHeartbeats 2000000 in
set_option maxRecDepth 100000 in
theorem indexInt_none (l : List Int) (x : Int) (a : Option Addr) (cap B : Nat) (w : World) (hB : B ≤ w.heap.size) (hs : Sl IntE 1 B w a l) (hx : ∀ y ∈ l, x ≠ y) :
    Calls Try.prog 36 #[.slice a l.length cap, .int .i64 x] w fun e w' => e = .returned (.int .i64 (-1)) ∧ w = w' := by
  have hll := hs.1
  have HS := Lib.hid hs
  have HX := Lib.hid hx
  clear hs hx
  go_enter Try.func36, Try.ntmps36
  go_wp2_with (fail)
  go_loop [8] (fun i => ∃ k : Nat, k ≤ l.length ∧ i = .int .i64 k) (fun i => l.length - (intOf i).toNat)
  case atStart => exact ⟨0, Nat.zero_le _, rfl⟩
  case round =>
    obtain ⟨k, hk, rfl⟩ := hrel
    by_cases hlt : k < l.length
    · obtain ⟨b, off, rfl, hbb, he⟩ := HS.out.2 k hlt
      have hne := HX.out l[k] (List.getElem_mem hlt)
      obtain ⟨y, hy⟩ : ∃ y, l[k] = y := ⟨_, rfl⟩
      rw [hy] at he hne
      have he' : w.cell? ⟨b, off + k, none⟩ = some (.int .i64 y) := by have := he; unfold IntE at this; simpa using this
      have hne' : (x == y) = false := by simpa using hne
      clear he hne
      have Hhy := Lib.hid hy; clear hy
      go_wp2_with (fail)
      go_round
      case rel => exact ⟨k + 1, by omega, by go_num⟩
      case measure => simp [intOf]; omega
    · go_wp2_with (fail)
      go_ret
      exact ⟨rfl, rfl⟩

set_option maxHeartbeats 2000000 in
set_option maxRecDepth 100000 in
theorem containsInt_none (l : List Int) (x : Int) (a : Option Addr) (cap B : Nat) (w : World) (hB : B ≤ w.heap.size) (hs : Sl IntE 1 B w a l) (hx : ∀ y ∈ l, x ≠ y) :
    Calls Try.prog 28 #[.slice a l.length cap, .int .i64 x] w fun e w' => e = .returned (.bool false) ∧ w = w' := by
  have hi := indexInt_none l x a cap B w hB hs hx
  clear hs hx
  go_enter Try.func28, Try.ntmps28
  go_wp2_with (fail)
  refine hi.mono ?_
  rintro e w1 ⟨rfl, rfl⟩
  go_wp2_with (fail)
  go_ret
  exact ⟨rfl, rfl⟩

theorem enters_chk1 : ∀ (args : Array Value) (w : World), (callFunc 27 args).run Try.prog w = .ok (.enter 27 args) w := by
  intro args w
  go_simp

set_option maxHeartbeats 2000000 in
set_option maxRecDepth 100000 in
theorem chk1_no (n m : ByteArray) (aa : Option Addr) (na ca : Nat) (tl th : Int) (calm : Bool) (q : Nat) (w : World) (hq : w.cell? ⟨q, 0, none⟩ = some (.string m)) (hqs : q < w.heap.size) (hne : n ≠ m) :
    Calls Try.prog 27 #[.agg #[.string n, .slice aa na ca, .int .i64 tl, .int .i64 th, .bool calm, .bool false, .int .i64 0], .pointer (some ⟨q, 0, none⟩)] w fun e w' => e = .returned (.bool false) ∧ Below w.heap.size w w' := by
  have hne' : ¬ n.toList = m.toList := by
    rw [ByteArray.toList_eq, ByteArray.toList_eq]
    exact fun h => hne (by cases n; cases m; simp at h; rw [h])
  go_enter Try.func27, Try.ntmps27
  go_wp2_with (fail)
  go_ret
  exact ⟨by simp_all, (by repeat (first | exact Below.refl _ _ | (refine bl_setCell ?_ _ _ ?_; rotate_left; focus (first | omega | (simp; done) | (simp; omega))) | refine bl_alloc ?_ _ | refine bl_step ?_ (by assumption) | refine bl_drew ?_ | refine bl_drewN ?_ _))⟩

set_option maxHeartbeats 2000000 in
set_option maxRecDepth 100000 in
theorem indexStp_none (l : List Stp) (k0 : Nat) (hk0 : k0 ≤ l.length) (a : Option Addr) (cap B : Nat) (q : Nat) (m : ByteArray) (w : World) (hB : B ≤ w.heap.size) (hs : Sl (StpE B) 7 B w a l) (hq : w.cell? ⟨q, 0, none⟩ = some (.string m)) (hqs : q < w.heap.size)
    (hne : ∀ k (h : k < l.length), k < k0 → l[k].name ≠ m) :
    Calls Try.prog 35 #[.slice a k0 cap, .func (.func 27) #[] #[.pointer (some ⟨q, 0, none⟩)]] w
      fun e w' => e = .returned (.int .i64 (-1)) ∧ Below w.heap.size w w' := by
  have hll := hs.1
  have heg := enters_chk1
  have HS := Lib.hid hs
  have HN := Lib.hid hne
  have hk00 : k0 ≤ 140737488355328 := by omega
  clear hs hne
  go_enter Try.func35, Try.ntmps35
  go_wp2_with (fail)
  go_loopw [8] (fun i wr => ∃ k : Nat, k ≤ k0 ∧ i = .int .i64 k ∧ Below w.heap.size w wr) (fun i _ => k0 - (intOf i).toNat)
  case atStart => exact ⟨0, Nat.zero_le _, rfl, Below.refl _ _⟩
  case round =>
    obtain ⟨k, hk, rfl, hb⟩ := hrel
    by_cases hlt : k < k0
    · have hlt2 : k < l.length := by omega
      obtain ⟨b, off, rfl, hbb, he⟩ := (HS.out.below (ek_stp B) (hb.mono hB)).2 k hlt2
      have hnn := HN.out k hlt2 hlt
      obtain ⟨s, hs⟩ : ∃ x, l[k] = x := ⟨_, rfl⟩
      rw [hs] at he hnn
      obtain ⟨aa, ca, _, _, e0, e1, e2, e3, e4, e5, e6, _⟩ := he
      have hc := chk1_no s.name m aa s.after.length ca s.tlo s.thi s.calm q wr ((hb.cell (p := ⟨q, 0, none⟩) hqs).trans hq) (by have := hb.size; omega) hnn
      have Hhs := Lib.hid hs; clear hs; have Hhnn := Lib.hid hnn; clear hnn
      go_wp2_with (fail)
      refine hc.mono ?_
      rintro e w' ⟨rfl, hb2⟩
      have hb3 := hb.trans (hb2.mono hb.size)
      go_wp2_with (fail)
      go_roundw
      case rel => exact ⟨k + 1, by omega, by go_num, hb3⟩
      case measure => simp [intOf]; omega
    · go_wp2_with (fail)
      go_ret
      exact ⟨rfl, hb⟩

set_option maxHeartbeats 2000000 in
set_option maxRecDepth 100000 in
theorem containsStp_none (l : List Stp) (k0 : Nat) (hk0 : k0 ≤ l.length) (a : Option Addr) (cap B : Nat) (q : Nat) (m : ByteArray) (w : World) (hB : B ≤ w.heap.size) (hs : Sl (StpE B) 7 B w a l) (hq : w.cell? ⟨q, 0, none⟩ = some (.string m)) (hqs : q < w.heap.size)
    (hne : ∀ k (h : k < l.length), k < k0 → l[k].name ≠ m) :
    Calls Try.prog 26 #[.slice a k0 cap, .func (.func 27) #[] #[.pointer (some ⟨q, 0, none⟩)]] w
      fun e w' => e = .returned (.bool false) ∧ Below w.heap.size w w' := by
  have hi := indexStp_none l k0 hk0 a cap B q m w hB hs hq hqs hne
  clear hs hq hne
  go_enter Try.func26, Try.ntmps26
  go_wp2_with (fail)
  refine hi.mono ?_
  rintro e w1 ⟨rfl, hb1⟩
  go_wp2_with (fail)
  go_ret
  exact ⟨rfl, hb1⟩

set_option maxHeartbeats 4000000 in
set_option maxRecDepth 100000 in
theorem named_ok (s : ByteArray) (h0 : 1 ≤ s.size) (h1 : s.size ≤ 12) (hs : ∀ k (h : k < s.size), 97 ≤ (s[k].toNat : Int) ∧ (s[k].toNat : Int) ≤ 122) (w : World) :
    Calls Try.prog 25 #[.string s] w fun e w' => e = .returned (.bool true) ∧ Below w.heap.size w w' := by
  have HS := Lib.hid hs
  clear hs
  have hcv := Lib.run_convert_string_bytes (P := Try.prog) w 9 45 5 s (u := .string) Try.underlying9 Try.underlying45 Try.underlying5
  have hcell := Lib.bytesWorld_cell w 5 s
  have hsz := Lib.bytesWorld_size w 5 s
  have hbl : Below w.heap.size w (Lib.bytesWorld w 5 s) := ⟨rfl, rfl, rfl, by omega, fun k hk => Lib.bytesWorld_at_old w 5 s k hk⟩
  obtain ⟨wb, hwb⟩ : ∃ x, Lib.bytesWorld w 5 s = x := ⟨_, rfl⟩
  rw [hwb] at hcv hcell hsz hbl
  obtain ⟨cp, hcp⟩ : ∃ x, grownCap w s.size 0 5 = x := ⟨_, rfl⟩
  rw [hcp] at hcv
  have HC := Lib.hid hcell
  clear hcell
  have Hhwb := Lib.hid hwb; clear hwb; have Hhcp := Lib.hid hcp; clear hcp; have Hhsz := Lib.hid hsz; clear hsz; have Hhbl := Lib.hid hbl; clear hbl
  go_enter Try.func25, Try.ntmps25
  go_wp2_with (fail)
  go_loop [9] (fun i => ∃ k : Nat, k ≤ s.size ∧ i = .int .i64 k) (fun i => s.size - (intOf i).toNat)
  case atStart => exact ⟨0, Nat.zero_le _, rfl⟩
  case round =>
    obtain ⟨k, hk, rfl⟩ := hrel
    by_cases hlt : k < s.size
    · have hck := HC.out k hlt
      have hcb := HS.out k hlt
      have hcd : (s.data.toList.getD k 0) = s[k] := by
        rw [List.getD_eq_getElem?_getD, List.getElem?_eq_getElem (by simpa using hlt)]; rfl
      rw [hcd] at hck
      obtain ⟨c, hc⟩ : ∃ c : Int, ((s[k].toNat : Nat) : Int) = c := ⟨_, rfl⟩
      rw [hc] at hck hcb
      obtain ⟨c0, c1⟩ := hcb
      have Hhcd := Lib.hid hcd; clear hcd; have Hhc := Lib.hid hc; clear hc
      go_wp2_with (fail)
      go_round
      case rel => exact ⟨k + 1, by omega, by go_num⟩
      case measure => simp [intOf]; omega
    · have hne : ¬ s.toList = [] := by
        rw [ByteArray.toList_eq]
        intro h
        have h2 : s.data.toList.length = 0 := by rw [h]; rfl
        have h3 : s.data.toList.length = s.size := by simp
        omega
      go_wp2_with (fail)
      go_ret
      exact ⟨by simp_all <;> omega, Hhbl.out⟩
end Go.Proofs.Ytahoobhjabhfmaa
