/- drill: a case in memory; at, check. -/
import Derived.Test.YtjoihijlcpnhoaaCkR
import Derived.Test.YtjoihijlcpnhoaaTownT
import Derived.Test.YtjoihijlcpnhoaaBegun
namespace Go.Proofs.Ytjoihijlcpnhoaa
open Go.RowKit

def BoolE (w : World) (b o : Nat) (v : Bool) : Prop := w.cell? ⟨b, o, none⟩ = some (.bool v)
theorem ek_bool (B : Nat) : EK B BoolE := fun _ _ _ _ _ hB hb h => ek_cell hB hb h

structure CaseM (B : Nat) (w : World) (l1 l2 l3 l4 : Option Addr) (c : Case) : Prop where
  late : Sl IntE 1 B w l1 c.late
  absent : Sl IntE 1 B w l2 c.absent
  rides : Sl IntE 1 B w l3 c.rides
  broken : Sl BoolE 1 B w l4 c.broken
theorem CaseM.below {B : Nat} {w w' : World} {l1 l2 l3 l4 : Option Addr} {c : Case} (h : CaseM B w l1 l2 l3 l4 c) (hB : Below B w w') : CaseM B w' l1 l2 l3 l4 c :=
  ⟨h.late.below (ek_int B) hB, h.absent.below (ek_int B) hB, h.rides.below (ek_int B) hB, h.broken.below (ek_bool B) hB⟩

set_option maxHeartbeats 2000000 in
set_option maxRecDepth 100000 in
theorem atI_any (l : List Int) (a : Option Addr) (cap B : Nat) (i : Nat) (w : World) (hB : B ≤ w.heap.size) (hs : Sl IntE 1 B w a l) :
    Calls Try.prog 62 #[.slice a l.length cap, .int .i64 i] w fun e w' => e = .returned (.int .i64 (l.getD i 0)) ∧ Below w.heap.size w w' := by
  have hl := hs.1
  by_cases h : i < l.length
  · obtain ⟨b, off, rfl, hbb, he⟩ := hs.2 i h
    have hbw : b < w.heap.size := by omega
    obtain ⟨x, hx⟩ : ∃ x, x = l[i] := ⟨_, rfl⟩
    have hv : l.getD i 0 = x := by rw [List.getD_eq_getElem?_getD, List.getElem?_eq_getElem h, hx]; rfl
    have he' : w.cell? ⟨b, off + i, none⟩ = some (.int .i64 x) := by rw [hx]; have := he; unfold IntE at this; simpa using this
    rw [hv]
    clear hv hx he
    have Hhs := Lib.hid hs; clear hs
    go_enter Try.func62, Try.ntmps62
    go_wp2_with fail
    go_ret
    exact ⟨rfl, (by repeat (first | exact Below.refl _ _ | (refine bl_setCell ?_ _ _ ?_; rotate_left; focus (first | omega | (simp; done) | (simp; omega))) | refine bl_alloc ?_ _ | refine bl_step ?_ (by assumption) | refine bl_drew ?_ | refine bl_drewN ?_ _))⟩
  · have hv : l.getD i 0 = 0 := by rw [List.getD_eq_getElem?_getD, List.getElem?_eq_none (by omega)]; rfl
    rw [hv]
    clear hv
    have Hhs := Lib.hid hs; clear hs
    go_enter Try.func62, Try.ntmps62
    go_wp2_with fail
    go_ret
    exact ⟨rfl, (by repeat (first | exact Below.refl _ _ | (refine bl_setCell ?_ _ _ ?_; rotate_left; focus (first | omega | (simp; done) | (simp; omega))) | refine bl_alloc ?_ _ | refine bl_step ?_ (by assumption) | refine bl_drew ?_ | refine bl_drewN ?_ _))⟩

set_option maxHeartbeats 2000000 in
set_option maxRecDepth 100000 in
theorem atB_any (l : List Bool) (a : Option Addr) (cap B : Nat) (i : Nat) (w : World) (hB : B ≤ w.heap.size) (hs : Sl BoolE 1 B w a l) :
    Calls Try.prog 63 #[.slice a l.length cap, .int .i64 i] w fun e w' => e = .returned (.bool (l.getD i false)) ∧ Below w.heap.size w w' := by
  have hl := hs.1
  by_cases h : i < l.length
  · obtain ⟨b, off, rfl, hbb, he⟩ := hs.2 i h
    have hbw : b < w.heap.size := by omega
    obtain ⟨x, hx⟩ : ∃ x, x = l[i] := ⟨_, rfl⟩
    have hv : l.getD i false = x := by rw [List.getD_eq_getElem?_getD, List.getElem?_eq_getElem h, hx]; rfl
    have he' : w.cell? ⟨b, off + i, none⟩ = some (.bool x) := by rw [hx]; have := he; unfold BoolE at this; simpa using this
    rw [hv]
    clear hv hx he
    have Hhs := Lib.hid hs; clear hs
    go_enter Try.func63, Try.ntmps63
    go_wp2_with fail
    go_ret
    exact ⟨rfl, (by repeat (first | exact Below.refl _ _ | (refine bl_setCell ?_ _ _ ?_; rotate_left; focus (first | omega | (simp; done) | (simp; omega))) | refine bl_alloc ?_ _ | refine bl_step ?_ (by assumption) | refine bl_drew ?_ | refine bl_drewN ?_ _))⟩
  · have hv : l.getD i false = false := by rw [List.getD_eq_getElem?_getD, List.getElem?_eq_none (by omega)]; rfl
    rw [hv]
    clear hv
    have Hhs := Lib.hid hs; clear hs
    go_enter Try.func63, Try.ntmps63
    go_wp2_with fail
    go_ret
    exact ⟨rfl, (by repeat (first | exact Below.refl _ _ | (refine bl_setCell ?_ _ _ ?_; rotate_left; focus (first | omega | (simp; done) | (simp; omega))) | refine bl_alloc ?_ _ | refine bl_step ?_ (by assumption) | refine bl_drew ?_ | refine bl_drewN ?_ _))⟩

set_option maxHeartbeats 2000000 in
set_option maxRecDepth 100000 in
theorem late_any (n : Int) (w : World) :
    Calls Try.prog 100 #[.int .i64 n] w fun e w' => e = .returned (.bool (!within n 0 200)) ∧ Below w.heap.size w w' := by
  by_cases h : n < 0
  · have hv : (!within n 0 200) = true := by unfold within; simp; omega
    rw [hv]
    go_enter Try.func100, Try.ntmps100
    go_wp2_with fail
    go_ret
    exact ⟨rfl, (by repeat (first | exact Below.refl _ _ | (refine bl_setCell ?_ _ _ ?_; rotate_left; focus (first | omega | (simp; done) | (simp; omega))) | refine bl_alloc ?_ _ | refine bl_step ?_ (by assumption) | refine bl_drew ?_ | refine bl_drewN ?_ _))⟩
  · have h0 : 0 ≤ n := by omega
    have hd : decide (n < 0) = false := by simpa using h
    have hv : (!within n 0 200) = decide (200 < n) := by
      unfold within
      by_cases h2 : 200 < n
      · simp [h2]
      · simp [h2, h0]; omega
    rw [hv]
    clear hv h
    go_enter Try.func100, Try.ntmps100
    go_wp2_with fail
    go_ret
    exact ⟨rfl, (by repeat (first | exact Below.refl _ _ | (refine bl_setCell ?_ _ _ ?_; rotate_left; focus (first | omega | (simp; done) | (simp; omega))) | refine bl_alloc ?_ _ | refine bl_step ?_ (by assumption) | refine bl_drew ?_ | refine bl_drewN ?_ _))⟩
theorem enters_late : ∀ (args : Array Value) (w : World), (callFunc 100 args).run Try.prog w = .ok (.enter 100 args) w := by
  intro args w
  go_simp
theorem late_val (l : List Int) (a : Option Addr) (cap B : Nat) (v : Bool) (hv : l.any (fun n => !within n 0 200) = v) (w : World) (hs : Sl IntE 1 B w a l) (hB : B ≤ w.heap.size) :
    Calls Try.prog 101 #[.slice a l.length cap, .func (.func 100) #[] #[]] w fun e w' => e = .returned (.bool v) ∧ Below w.heap.size w w' := by
  subst hv
  exact containsInt_any l a cap B 100 #[] #[] (fun n => !within n 0 200) w hB hs enters_late (fun x W _ _ => late_any x W)

end Go.Proofs.Ytjoihijlcpnhoaa
