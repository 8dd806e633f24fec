/- town: the walker's error, and a trip. -/
import Derived.Test.YtjoihijlcpnhoaaTownW
import Derived.Test.YtjoihijlcpnhoaaDataC
namespace Go.Proofs.Ytjoihijlcpnhoaa
open Go.RowKit

set_option maxHeartbeats 2000000 in
set_option maxRecDepth 100000 in
theorem werr_any (T : Town) (a1 a2 a3 a4 : Option Addr) (c1 c2 c3 c4 : Nat) (q : Nat) (c : Int) (st : WSt) (w : World) (hq : w.heap[q]? = some (wkOf T a1 a2 a3 a4 c1 c2 c3 c4 c st)) :
    Calls Try.prog 94 #[.pointer (some ⟨q, 0, none⟩)] w fun e w' => e = .returned (.int .i64 st.err) ∧ w' = w := by
  obtain ⟨p, s, la, cu, we⟩ := st
  have hqc := cells_of hq
  simp only [wkCells] at hqc
  have hqs := lt_of_heap hq
  clear hq
  cases la <;> cases cu <;> cases we <;>
  ((go_enter Try.func94, Try.ntmps94)
   go_wp2_with fail
   go_ret
   exact ⟨rfl, rfl⟩)

theorem hop_g (T : Town) (a1 a2 a3 a4 : Option Addr) (c1 c2 c3 c4 : Nat) (B : Nat) (q : Nat) (c : Int) (st : WSt) (h : Hop) (w : World) (hG : TownG T) (hT : TownM B w a1 a2 a3 a4 T) (hB : B ≤ w.heap.size) (hBq : B ≤ q)
    (hq : w.heap[q]? = some (wkOf T a1 a2 a3 a4 c1 c2 c3 c4 c st)) (hu : T.unknown h = false) (ho : T.outside h = false) (hc0 : 0 ≤ c) (hc3 : c < 3) :
    Calls Try.prog 93 #[.pointer (some ⟨q, 0, none⟩), .agg #[.int .i64 h.way, .int .i64 h.leave]] w
      fun e w' => e = .returned (.bool (hopStep T c st h).isSome) ∧ Keeps [q] w w' ∧ w'.heap[q]? = some (wkOf T a1 a2 a3 a4 c1 c2 c3 c4 c ((hopStep T c st h).getD st)) := by
  obtain ⟨h0, h1⟩ := unknown_not.1 hu
  obtain ⟨h2, h3⟩ := outside_not.1 ho
  have hm := getD_mem (l := T.ways) (z := Way.z) h0 h1
  have hs := hG.steps
  obtain ⟨g1, g2, _⟩ := hG.way _ hm
  have := Way.steps_mem hG hm c
  exact hop_any T _ _ _ _ _ _ _ _ B q c st h w hT hB hBq hq h0 h1 hc0 hc3 ⟨h2, by omega⟩ ⟨this.1, by have := this.2; unfold Town.wy; omega⟩ g1 g2

theorem enters_tripc : ∀ (args : Array Value) (w : World), (callFunc 92 args).run Try.prog w = .ok (.enter 92 args) w := by
  intro args w
  go_simp
theorem enters_unknown : ∀ (args : Array Value) (w : World), (callFunc 90 args).run Try.prog w = .ok (.enter 90 args) w := by
  intro args w
  go_simp
theorem enters_outside : ∀ (args : Array Value) (w : World), (callFunc 91 args).run Try.prog w = .ok (.enter 91 args) w := by
  intro args w
  go_simp

set_option maxHeartbeats 2000000 in
set_option maxRecDepth 100000 in
theorem tripc_any (T : Town) (a1 a2 a3 a4 : Option Addr) (c1 c2 c3 c4 : Nat) (B : Nat) (q r : Nat) (c : Int) (st : WSt) (h : Hop) (w : World) (hG : TownG T) (hT : TownM B w a1 a2 a3 a4 T) (hB : B ≤ w.heap.size) (hBq : B ≤ q)
    (hq : w.heap[q]? = some (wkOf T a1 a2 a3 a4 c1 c2 c3 c4 c st)) (hr : w.cell? ⟨r, 0, none⟩ = some (.pointer (some ⟨q, 0, none⟩))) (hrs : r < w.heap.size) (hu : T.unknown h = false) (ho : T.outside h = false) (hc0 : 0 ≤ c) (hc3 : c < 3) :
    Calls Try.prog 92 #[.agg #[.int .i64 h.way, .int .i64 h.leave], .pointer (some ⟨r, 0, none⟩)] w
      fun e w' => e = .returned (.bool (hopStep T c st h).isNone) ∧ Keeps [q] w w' ∧ w'.heap[q]? = some (wkOf T a1 a2 a3 a4 c1 c2 c3 c4 c ((hopStep T c st h).getD st)) := by
  have hqs := lt_of_heap hq
  have HC := fun (W : World) (hT : TownM B W a1 a2 a3 a4 T) (hB : B ≤ W.heap.size) (hq : W.heap[q]? = some (wkOf T a1 a2 a3 a4 c1 c2 c3 c4 c st)) => hop_g T _ _ _ _ _ _ _ _ B q c st h W hG hT hB hBq hq hu ho hc0 hc3
  have HHC := Lib.hid HC; clear HC; have HhT := Lib.hid hT; clear hT; have Hhq := Lib.hid hq; clear hq; have HhG := Lib.hid hG; clear hG; have Hhu := Lib.hid hu; clear hu; have Hho := Lib.hid ho; clear ho
  go_enter Try.func92, Try.ntmps92
  go_wp2_with (go_at_call 93; refine (HHC.out _ (HhT.out.below ((Below.refl _ w).alloc hB _)) (by (first | omega | (simp; done) | (simp; omega))) (heap_alloc_off Hhq.out _)).mono ?_; rintro e w1 ⟨rfl, hk, hq1⟩)
  go_ret
  exact ⟨by cases hopStep T c st h <;> rfl, (Keeps.refl [q] w).alloc _ |>.trans hk, hq1⟩
theorem unknown_val (T : Town) (a1 a2 a3 a4 : Option Addr) (c1 c2 c3 c4 : Nat) (B : Nat) (l : List Hop) (a' : Option Addr) (c' : Nat) (v : Bool) (hv : l.any T.unknown = v) (hl2 : T.ways.length ≤ 140737488355328) (w : World) (hs : Sl HopE 2 B w a' l) (hB : B ≤ w.heap.size) :
    Calls Try.prog 89 #[.slice a' l.length c', .func (.func 90) #[.agg #[.int .i64 T.steps, .slice a1 T.places.length c1, .slice a2 T.ways.length c2, .slice a3 T.groups.length c3, .slice a4 T.vehicles.length c4]] #[]] w fun e w' => e = .returned (.bool v) ∧ Below w.heap.size w w' := by
  subst hv
  exact containsHop_any l a' c' B 90 #[.agg #[.int .i64 T.steps, .slice a1 T.places.length c1, .slice a2 T.ways.length c2, .slice a3 T.groups.length c3, .slice a4 T.vehicles.length c4]] #[] T.unknown w hB hs enters_unknown (fun n W _ _ => unknown_any T _ _ _ _ _ _ _ _ n W hl2)
theorem outside_val (T : Town) (a1 a2 a3 a4 : Option Addr) (c1 c2 c3 c4 : Nat) (B : Nat) (l : List Hop) (a' : Option Addr) (c' : Nat) (v : Bool) (hv : l.any T.outside = v) (w : World) (hs : Sl HopE 2 B w a' l) (hB : B ≤ w.heap.size) :
    Calls Try.prog 89 #[.slice a' l.length c', .func (.func 91) #[.agg #[.int .i64 T.steps, .slice a1 T.places.length c1, .slice a2 T.ways.length c2, .slice a3 T.groups.length c3, .slice a4 T.vehicles.length c4]] #[]] w fun e w' => e = .returned (.bool v) ∧ Below w.heap.size w w' := by
  subst hv
  exact containsHop_any l a' c' B 91 #[.agg #[.int .i64 T.steps, .slice a1 T.places.length c1, .slice a2 T.ways.length c2, .slice a3 T.groups.length c3, .slice a4 T.vehicles.length c4]] #[] T.outside w hB hs enters_outside (fun n W _ _ => outside_any T _ _ _ _ _ _ _ _ n W)

theorem hopsT_val (T : Town) (a1 a2 a3 a4 : Option Addr) (c1 c2 c3 c4 : Nat) (B q r : Nat) (c : Int) (l : List Hop) (a' : Option Addr) (c' : Nat) (st0 : WSt) (v : Bool) (hv : (foldS (hopStep T c) st0 l).isNone = v) (w : World) (hG : TownG T) (hT : TownM B w a1 a2 a3 a4 T) (hs : Sl HopE 2 B w a' l) (hB : B ≤ w.heap.size) (hBq : B ≤ q) (hqr : q ≠ r)
    (hu : l.any T.unknown = false) (ho : l.any T.outside = false) (hc0 : 0 ≤ c) (hc3 : c < 3) (hp0 : 0 ≤ st0.place ∧ st0.place < (T.places.length : Int)) (hs0 : 0 ≤ st0.step ∧ st0.step ≤ 400)
    (hq : w.heap[q]? = some (wkOf T a1 a2 a3 a4 c1 c2 c3 c4 c st0)) (hr : w.cell? ⟨r, 0, none⟩ = some (.pointer (some ⟨q, 0, none⟩))) (hrs : r < w.heap.size) :
    Calls Try.prog 89 #[.slice a' l.length c', .func (.func 92) #[] #[.pointer (some ⟨r, 0, none⟩)]] w
      fun e w' => ∃ st, e = .returned (.bool v) ∧ Keeps [q] w w' ∧ w'.heap[q]? = some (wkOf T a1 a2 a3 a4 c1 c2 c3 c4 c st) ∧ (∀ s, foldS (hopStep T c) st0 l = some s → s = st ∧ (0 ≤ st.place ∧ st.place < (T.places.length : Int)) ∧ (0 ≤ st.step ∧ st.step ≤ 400)) := by
  subst hv
  have hu' : ∀ h ∈ l, T.unknown h = false := fun h hm => by have := List.any_eq_false.1 hu h hm; simpa using this
  have ho' : ∀ h ∈ l, T.outside h = false := fun h hm => by have := List.any_eq_false.1 ho h hm; simpa using this
  refine (containsHopS_any l a' c' B 92 #[] #[.pointer (some ⟨r, 0, none⟩)] (hopStep T c) (fun st W => Keeps [q] w W ∧ W.heap[q]? = some (wkOf T a1 a2 a3 a4 c1 c2 c3 c4 c st))
    (fun st => (0 ≤ st.place ∧ st.place < (T.places.length : Int)) ∧ (0 ≤ st.step ∧ st.step ≤ 400)) st0 w hB hs ⟨Keeps.refl _ _, hq⟩ ⟨hp0, hs0⟩ (fun st W h => h.1.below hB (by simpa using hBq))
    (fun st x st' _ hm e => ⟨hopStep_place hG (hu' x hm) e, hopStep_step hG (hu' x hm) (ho' x hm) e⟩) enters_tripc (fun st x W hm _ hI => ?_)).mono ?_
  · refine (tripc_any T _ _ _ _ _ _ _ _ B q r c st x W hG (hT.below (hI.1.below hB (by simpa using hBq))) (Nat.le_trans hB hI.1.size) hBq hI.2 ((hI.1.cell r hrs (by simpa using hqr.symm) 0).trans hr) (Nat.lt_of_lt_of_le hrs hI.1.size) (hu' x hm) (ho' x hm) hc0 hc3).mono ?_
    rintro e w' ⟨rfl, hk, hq'⟩
    exact ⟨rfl, hI.1.trans hk, hq'⟩
  · rintro e w' ⟨st, rfl, hI, hst⟩
    exact ⟨st, rfl, hI.1, hI.2, hst⟩
theorem refuge_val (T : Town) (a1 a2 a3 a4 : Option Addr) (c1 c2 c3 c4 : Nat) (B : Nat) (p : Int) (v : Bool) (hv : T.refuge p = v) (w : World) (hT : TownM B w a1 a2 a3 a4 T) (hB : B ≤ w.heap.size) (h0 : 0 ≤ p) (h1 : p < (T.places.length : Int)) :
    Calls Try.prog 48 #[.agg #[.int .i64 T.steps, .slice a1 T.places.length c1, .slice a2 T.ways.length c2, .slice a3 T.groups.length c3, .slice a4 T.vehicles.length c4], .int .i64 p] w fun e w' => e = .returned (.bool v) ∧ Below w.heap.size w w' := by
  subst hv
  exact refuge_any T _ _ _ _ _ _ _ _ B p w hT hB h0 h1
end Go.Proofs.Ytjoihijlcpnhoaa
