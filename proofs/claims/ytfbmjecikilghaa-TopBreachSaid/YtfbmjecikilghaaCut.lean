/- tide: the pieces of a span, as a function that is ranged over. -/
import Derived.RangeFuncNested
import Derived.RangeFuncBound
import Derived.RangeFuncCalls
import Derived.RangeFuncLeaves
import Derived.Shelf.Abstract
import Derived.Shelf.RegionOpen
import Derived.WalkKit
import Derived.OwnWalkIn
import Derived.TacticsInMore
import Derived.LoopNIn
import Derived.LoopIn
import Derived.Maps.AppendAt
import Derived.Test.YtfbmjecikilghaaChkB
import Derived.Test.YtfbmjecikilghaaWinD
namespace Go.Proofs.Ytfbmjecikilghaa
open Go.RowKit Go.Shelf
attribute [local go_sem] Oper.semAt_some

set_option maxHeartbeats 2000000 in
set_option maxRecDepth 100000 in
theorem cut_any (lo hi step : Int) (w : World) :
    Calls Try.prog 24 #[.agg #[.int .i64 lo, .int .i64 hi], .int .i64 step] w fun e w' => e = .returned (.func (.func 51) #[] #[.pointer (some ⟨w.heap.size, 0, none⟩), .pointer (some ⟨w.heap.size + 1, 0, none⟩)]) ∧
      Below w.heap.size w w' ∧ w'.heap.size = w.heap.size + 2 ∧ w'.heap[w.heap.size]? = some (.cells #[.int .i64 lo, .int .i64 hi] 83 (0, 0)) ∧ w'.heap[w.heap.size + 1]? = some (.cells #[.int .i64 step] 3 (0, 0)) := by
  go_enter Try.func24, Try.ntmps24
  go_wp2
  go_ret
  exact ⟨rfl, (by repeat (first | exact Below.refl _ _ | (refine bl_setCell ?_ _ _ ?_; rotate_left; focus (first | omega | (simp; done) | (simp; omega))) | refine bl_alloc ?_ _ | refine bl_step ?_ (by assumption) | refine bl_drew ?_ | refine bl_drewN ?_ _)), by simp, heap_alloc_off (heap_alloc_at' _ _ rfl) _, heap_alloc_at' _ _ (by simp)⟩

theorem below_grown {a b : World} (h : Below a.heap.size a b) : a.grownBy b none := ⟨h.os, h.tape, h.output, h.size, fun k hk _ => h.block k hk⟩

/-- What a round that goes on keeps. -/
structure KpC (b1 b2 : Nat) (W W' : World) : Prop where
  size : W.heap.size ≤ W'.heap.size
  k1 : W'.heap[b1]? = W.heap[b1]?
  k2 : W'.heap[b2]? = W.heap[b2]?
theorem kpC_t {b1 b2 : Nat} {A B C : World} (h : KpC b1 b2 A B) (k : KpC b1 b2 B C) : KpC b1 b2 A C := ⟨Nat.le_trans h.size k.size, k.k1.trans h.k1, k.k2.trans h.k2⟩
theorem kpC_b {b1 b2 : Nat} {w : World} (h1 : b1 < w.heap.size) (h2 : b2 < w.heap.size) (W : World) (l : Nat) (o o' : Obj) (hl : w.heap.size ≤ l) (_ : W.heap[l]? = some o) (_ : o.isCells = false) (_ : o.isWalk = false) : KpC b1 b2 W (W.putObj l o') :=
  ⟨by simp, World.putObj_heap_other (by omega), World.putObj_heap_other (by omega)⟩

/-- What has come of the pieces when lo is next. -/
def CutI (step hi lo0 : Int) (J : List Pc → World → Prop) (b1 b2 : Nat) (p : Value) (wr : World) : Prop :=
  ∃ (lo : Int) (pre : List Pc), p = .int .i64 lo ∧ (∀ rest, CutR step hi lo rest → CutR step hi lo0 (pre ++ rest)) ∧ lo0 ≤ lo ∧ lo ≤ hi ∧ (pre.length : Int) * step = lo - lo0 ∧ (pre = [] ∨ lo < hi) ∧ J pre wr ∧
    wr.heap[b1]? = some (.cells #[.int .i64 lo0, .int .i64 hi] 83 (0, 0)) ∧ wr.heap[b2]? = some (.cells #[.int .i64 step] 3 (0, 0))

theorem pre_lt {k : Nat} {step lo0 lo hi : Int} (hs : 1 ≤ step) (h : (k : Int) * step = lo - lo0) (hl : lo ≤ hi) (hn : hi - lo0 ≤ 90 * step) : k < 100 := by
  refine Decidable.byContradiction fun hc => ?_
  have : (100 : Int) * step ≤ (k : Int) * step := Int.mul_le_mul_of_nonneg_right (by omega) (by omega)
  omega

set_option maxHeartbeats 4000000 in
set_option maxRecDepth 100000 in
theorem cut1_in (F : Fence) (n : Nat) (hF : F.fn 51) (hF2 : F.fn 42) (hw : F = Fence.wide) (hn : 1 ≤ n) (l b1 b2 : Nat) (step hi lo0 : Int) (hs : 1 ≤ step) (hs2 : step ≤ 1000000000) (h0 : 0 ≤ lo0) (h1 : lo0 ≤ hi) (h2 : hi ≤ 1000000000)
    (hN : hi - lo0 ≤ 90 * step) (J Jx : List Pc → World → Prop) (W : World) (hJ : AbidesFrom W.heap.size J)
    (hY : ∀ pre x W, J pre W → pre.length < 100 → YieldAt F (n - 1) Try.prog l #[.agg #[.int .i64 x.1.1, .int .i64 x.1.2]] W fun e W' =>
      (e = .returned (.bool true) ∧ J (pre ++ [x]) W' ∧ KpC b1 b2 W W') ∨ (e = .returned (.bool false) ∧ Jx (pre ++ [x]) W'))
    (x1 : W.heap[b1]? = some (.cells #[.int .i64 lo0, .int .i64 hi] 83 (0, 0))) (x2 : W.heap[b2]? = some (.cells #[.int .i64 step] 3 (0, 0))) (hj0 : J [] W) :
    CallsIn F n Try.prog 51 #[.func (.yield l) #[] #[], .pointer (some ⟨b1, 0, none⟩), .pointer (some ⟨b2, 0, none⟩)] W fun e W' => (∃ v, e = .returned v) ∧
      ((∃ ys, CutR step hi lo0 ys ∧ J ys W') ∨ (∃ pre, True ∧ Jx pre W')) := by
  subst hw
  have x1c := cells_of x1
  refine callsIn_of_wp Try.func51 rfl hF ?_ rfl
  simp only [Try.ntmps51, List.size_toArray, List.length_cons, List.length_nil, Nat.reduceAdd, Nat.reduceSub, Array.replicate_succ, Array.replicate_zero, List.push_toArray, List.append_toArray, List.nil_append, List.cons_append]
  have Hx1 := Lib.hid x1; clear x1; have Hx2 := Lib.hid x2; clear x2
  gi_wp2
  gi_loopw [4] (fun p wr => CutI step hi lo0 J b1 b2 p wr) (fun p _ => (hi - intOf p).toNat)
  case atStart =>
    exact ⟨lo0, [], rfl, fun _ h => h, by omega, h1, by simp, .inl rfl, hj0, Hx1.out, Hx2.out⟩
  case round =>
    obtain ⟨lo, pre, rfl, hc, hl0, hlh, hlen, hor, hJs, y1, y2⟩ := hrel
    have hplt := pre_lt hs hlen hlh hN
    have y1c := cells_of y1
    have y2c := cells_of y2
    by_cases hlast : hi - lo ≤ step
    · have hd : decide (hi - lo ≤ step) = true := by simpa using hlast
      obtain ⟨x, hx⟩ : ∃ x : Pc, x.1 = (lo, hi) := ⟨⟨(lo, hi), ⟨by omega, by omega, by omega⟩⟩, rfl⟩
      have hx1 : x.1.1 = lo := by rw [hx]
      have hx2 : x.1.2 = hi := by rw [hx]
      have hof := of_any lo (hi)
      have HJ := Lib.hid hJs
      clear hJs
      have Hhc := Lib.hid hc; clear hc; have Hhlen := Lib.hid hlen; clear hlen; have Hhor := Lib.hid hor; clear hor; have Hhx := Lib.hid hx; clear hx; have Hy1 := Lib.hid y1; clear y1; have Hy2 := Lib.hid y2; clear y2
      gi_wp2_with fail
      refine (callsIn_wide.2 (hof _)).mono ?_
      rintro e w1 ⟨rfl, hb⟩
      have hj1 : J pre w1 := hJ pre wr w1 none HJ.out (below_grown hb) (fun r e => by cases e)
      have z1 := heap_below hb Hy1.out
      have z2 := heap_below hb Hy2.out
      obtain ⟨fn, tmps, assign, body, hy, hR⟩ := hY pre x w1 hj1 hplt
      rw [hx1, hx2] at hy
      have z2c := cells_of z2
      clear hj1 hof
      have Hz1 := Lib.hid z1; clear z1; have Hz2 := Lib.hid z2; clear z2
      gi_wp2_with fail
      refine hR.mono ?_
      rintro e W3 (⟨rfl, hJ3, hk3⟩ | ⟨rfl, hJx3⟩)
      · have q1 := hk3.k1.trans Hz1.out
        have q2 := hk3.k2.trans Hz2.out
        have q2c := cells_of q2
        clear hy hR
        have HhJ3 := Lib.hid hJ3; clear hJ3; have Hq1 := Lib.hid q1; clear q1; have Hq2 := Lib.hid q2; clear q2; have Hhk3 := Lib.hid hk3; clear hk3
        gi_wp2
        refine bodyPost_ret (results_none rfl _ _ _) rfl ?_
        exact ⟨⟨_, rfl⟩, .inl ⟨pre ++ [x], Hhc.out [x] ⟨by rw [Hhx.out], hlast⟩, HhJ3.out⟩⟩
      · clear hy hR
        gi_wp2
        refine bodyPost_ret (results_none rfl _ _ _) rfl ?_
        exact ⟨⟨_, rfl⟩, .inr ⟨_, trivial, hJx3⟩⟩
    · have hd : decide (hi - lo ≤ step) = false := by simpa using hlast
      have hlast' : step < hi - lo := by omega
      obtain ⟨x, hx⟩ : ∃ x : Pc, x.1 = (lo, lo + step) := ⟨⟨(lo, lo + step), ⟨by omega, by omega, by omega⟩⟩, rfl⟩
      have hx1 : x.1.1 = lo := by rw [hx]
      have hx2 : x.1.2 = lo + step := by rw [hx]
      have hof := of_any lo (lo + step)
      have HJ := Lib.hid hJs
      clear hJs
      have Hhc := Lib.hid hc; clear hc; have Hhlen := Lib.hid hlen; clear hlen; have Hhor := Lib.hid hor; clear hor; have Hhx := Lib.hid hx; clear hx; have Hy1 := Lib.hid y1; clear y1; have Hy2 := Lib.hid y2; clear y2
      gi_wp2_with fail
      refine (callsIn_wide.2 (hof _)).mono ?_
      rintro e w1 ⟨rfl, hb⟩
      have hj1 : J pre w1 := hJ pre wr w1 none HJ.out (below_grown hb) (fun r e => by cases e)
      have z1 := heap_below hb Hy1.out
      have z2 := heap_below hb Hy2.out
      obtain ⟨fn, tmps, assign, body, hy, hR⟩ := hY pre x w1 hj1 hplt
      rw [hx1, hx2] at hy
      have z2c := cells_of z2
      clear hj1 hof
      have Hz1 := Lib.hid z1; clear z1; have Hz2 := Lib.hid z2; clear z2
      gi_wp2_with fail
      refine hR.mono ?_
      rintro e W3 (⟨rfl, hJ3, hk3⟩ | ⟨rfl, hJx3⟩)
      · have q1 := hk3.k1.trans Hz1.out
        have q2 := hk3.k2.trans Hz2.out
        have q2c := cells_of q2
        clear hy hR
        have HhJ3 := Lib.hid hJ3; clear hJ3; have Hq1 := Lib.hid q1; clear q1; have Hq2 := Lib.hid q2; clear q2; have Hhk3 := Lib.hid hk3; clear hk3
        gi_wp2
        refine ⟨⟨lo + step, pre ++ [x], rfl, fun rest hr => ?_, by omega, by omega, ?_, .inr (by omega), HhJ3.out, Hq1.out, Hq2.out⟩, by simp [intOf]; omega⟩
        · rw [List.append_assoc]
          refine Hhc.out _ ?_
          cases rest with
          | nil => exact hr.elim
          | cons y r => exact ⟨by rw [Hhx.out], hlast', hr⟩
        · rw [List.length_append, List.length_singleton]
          have := Hhlen.out
          push_cast
          rw [Int.add_mul]
          omega
      · clear hy hR
        gi_wp2
        refine bodyPost_ret (results_none rfl _ _ _) rfl ?_
        exact ⟨⟨_, rfl⟩, .inr ⟨_, trivial, hJx3⟩⟩

/-- The pieces, for a loop over them. -/
theorem cut_stops (n : Nat) (hn : 1 ≤ n) (b1 b2 : Nat) (step hi lo0 : Int) (hs : 1 ≤ step) (hs2 : step ≤ 1000000000) (h0 : 0 ≤ lo0) (h1 : lo0 ≤ hi) (h2 : hi ≤ 1000000000) (hN : hi - lo0 ≤ 90 * step) (w : World)
    (x1 : w.heap[b1]? = some (.cells #[.int .i64 lo0, .int .i64 hi] 83 (0, 0))) (x2 : w.heap[b2]? = some (.cells #[.int .i64 step] 3 (0, 0))) :
    SeqStopsK Fence.wide n Try.prog 51 #[.pointer (some ⟨b1, 0, none⟩), .pointer (some ⟨b2, 0, none⟩)] (fun x : Pc => #[.agg #[.int .i64 x.1.1, .int .i64 x.1.2]]) (KpC b1 b2) (CutR step hi lo0) (fun _ => True) 100 w := fun l J Jx W hW hJ _ hY hj0 =>
  cut1_in Fence.wide n trivial trivial rfl hn l b1 b2 step hi lo0 hs hs2 h0 h1 h2 hN J Jx W hJ hY ((hW.block b1 (lt_of_heap x1)).trans x1) ((hW.block b2 (lt_of_heap x2)).trans x2) hj0
end Go.Proofs.Ytfbmjecikilghaa
