/- The chapter's example: a town, a plan. -/
import Derived.Test.YtjoihijlcpnhoaaBgD
import Derived.Laws.ResultCell
import Derived.Great.BuildSlice
namespace Go.Proofs.Ytjoihijlcpnhoaa
open Go.RowKit

def exT : Town := ⟨6, [⟨0, 0, 4⟩, ⟨10, 2, 1099511627776⟩], [⟨0, 1, 1, 2, 1, 3, 1, 4⟩, ⟨1, 0, 1, 2, 1, 3, 1, 4⟩], [⟨0, 0, 9⟩, ⟨0, 2, 3⟩], [⟨1, 4⟩]⟩
def exP : Plan := ⟨[⟨0, 2, [⟨0, 0⟩], 1⟩, ⟨0, 2, [⟨0, 1⟩], 3⟩], [⟨0, [⟨1, 0⟩, ⟨0, 1⟩], [⟨1, 1, 2⟩]⟩]⟩

theorem sl2 {α : Type} {E : World → Nat → Nat → α → Prop} {sz B : Nat} {w : World} {q : Nat} {x y : α} (hq : q < B) (h0 : E w q 0 x) (h1 : E w q sz y) : Sl E sz B w (some ⟨q, 0, none⟩) [x, y] := by
  refine ⟨by simp, fun k hk => ⟨q, 0, rfl, hq, ?_⟩⟩
  rcases k with _ | _ | k
  · rw [show 0 + 0 * sz = 0 from by omega]; exact h0
  · rw [show 0 + (0 + 1) * sz = sz from by omega]; exact h1
  · simp at hk; omega
theorem sl1 {α : Type} {E : World → Nat → Nat → α → Prop} {sz B : Nat} {w : World} {q : Nat} {x : α} (hq : q < B) (h0 : E w q 0 x) : Sl E sz B w (some ⟨q, 0, none⟩) [x] := by
  refine ⟨by simp, fun k hk => ⟨q, 0, rfl, hq, ?_⟩⟩
  rcases k with _ | k
  · rw [show 0 + 0 * sz = 0 from by omega]; exact h0
  · simp at hk

set_option maxHeartbeats 4000000 in
set_option maxRecDepth 100000 in
theorem exT_any (w : World) :
    Calls Try.prog 21 #[] w fun e w' => ∃ a1 a2 a3 a4, e = .returned (.agg #[.int .i64 6, .slice a1 2 2, .slice a2 2 2, .slice a3 2 2, .slice a4 1 1]) ∧ Below w.heap.size w w' ∧ TownM w'.heap.size w' a1 a2 a3 a4 exT := by
  go_enter Try.func21, Try.ntmps21
  go_wp2_with fail
  obtain ⟨wf, hwf⟩ : ∃ W, (((((w.alloc (.cells #[.int .i64 6, .slice (some ⟨w.heap.size + 1 + 1, 0, none⟩) 2 2, .slice (some ⟨w.heap.size + 1 + 1 + 1, 0, none⟩) 2 2, .slice (some ⟨w.heap.size + 1 + 1 + 1 + 1, 0, none⟩) 2 2, .slice (some ⟨w.heap.size + 1 + 1 + 1 + 1 + 1, 0, none⟩) 1 1] 27)).alloc (.cells #[.int .i64 1, .int .i64 2, .int .i64 1] 75)).alloc
      (.cells #[.int .i64 0, .int .i64 0, .int .i64 4, .int .i64 10, .int .i64 2, .int .i64 1099511627776] 74)).alloc
      (.cells #[.int .i64 0, .int .i64 1, .int .i64 1, .int .i64 2, .int .i64 1, .int .i64 3, .int .i64 1, .int .i64 4, .int .i64 1, .int .i64 0, .int .i64 1, .int .i64 2, .int .i64 1, .int .i64 3, .int .i64 1, .int .i64 4] 77)).alloc
      (.cells #[.int .i64 0, .int .i64 0, .int .i64 9, .int .i64 0, .int .i64 2, .int .i64 3] 43)).alloc (.cells #[.int .i64 1, .int .i64 4] 50) = W := ⟨_, rfl⟩
  rw [hwf]
  have hb : Below w.heap.size w wf := by rw [← hwf]; exact (by repeat (first | exact Below.refl _ _ | (refine bl_setCell ?_ _ _ ?_; rotate_left; focus (first | omega | (simp; done) | (simp; omega))) | refine bl_alloc ?_ _ | refine bl_step ?_ (by assumption) | refine bl_drew ?_ | refine bl_drewN ?_ _))
  have x0 : wf.heap[w.heap.size]? = some (.cells #[.int .i64 6, .slice (some ⟨w.heap.size + 1 + 1, 0, none⟩) 2 2, .slice (some ⟨w.heap.size + 1 + 1 + 1, 0, none⟩) 2 2, .slice (some ⟨w.heap.size + 1 + 1 + 1 + 1, 0, none⟩) 2 2, .slice (some ⟨w.heap.size + 1 + 1 + 1 + 1 + 1, 0, none⟩) 1 1] 27 (0, 0)) := by rw [← hwf]; repeat (first | with_reducible assumption | (with_reducible refine heap_alloc_at' _ _ ?_; focus (simp; done)) | with_reducible refine heap_alloc_off ?_ _ | (with_reducible refine heap_setCell_off ?_ _ ?_; rotate_left; focus omega) | with_reducible refine heap_drew' ?_ | with_reducible refine heap_drewN' ?_ | with_reducible refine heap_below (by with_reducible assumption) ?_)
  have x2 : wf.heap[w.heap.size + 1 + 1]? = some (.cells #[.int .i64 0, .int .i64 0, .int .i64 4, .int .i64 10, .int .i64 2, .int .i64 1099511627776] 74 (0, 0)) := by rw [← hwf]; repeat (first | with_reducible assumption | (with_reducible refine heap_alloc_at' _ _ ?_; focus (simp; done)) | with_reducible refine heap_alloc_off ?_ _ | (with_reducible refine heap_setCell_off ?_ _ ?_; rotate_left; focus omega) | with_reducible refine heap_drew' ?_ | with_reducible refine heap_drewN' ?_ | with_reducible refine heap_below (by with_reducible assumption) ?_)
  have x3 : wf.heap[w.heap.size + 1 + 1 + 1]? = some (.cells #[.int .i64 0, .int .i64 1, .int .i64 1, .int .i64 2, .int .i64 1, .int .i64 3, .int .i64 1, .int .i64 4, .int .i64 1, .int .i64 0, .int .i64 1, .int .i64 2, .int .i64 1, .int .i64 3, .int .i64 1, .int .i64 4] 77 (0, 0)) := by rw [← hwf]; repeat (first | with_reducible assumption | (with_reducible refine heap_alloc_at' _ _ ?_; focus (simp; done)) | with_reducible refine heap_alloc_off ?_ _ | (with_reducible refine heap_setCell_off ?_ _ ?_; rotate_left; focus omega) | with_reducible refine heap_drew' ?_ | with_reducible refine heap_drewN' ?_ | with_reducible refine heap_below (by with_reducible assumption) ?_)
  have x4 : wf.heap[w.heap.size + 1 + 1 + 1 + 1]? = some (.cells #[.int .i64 0, .int .i64 0, .int .i64 9, .int .i64 0, .int .i64 2, .int .i64 3] 43 (0, 0)) := by rw [← hwf]; repeat (first | with_reducible assumption | (with_reducible refine heap_alloc_at' _ _ ?_; focus (simp; done)) | with_reducible refine heap_alloc_off ?_ _ | (with_reducible refine heap_setCell_off ?_ _ ?_; rotate_left; focus omega) | with_reducible refine heap_drew' ?_ | with_reducible refine heap_drewN' ?_ | with_reducible refine heap_below (by with_reducible assumption) ?_)
  have x5 : wf.heap[w.heap.size + 1 + 1 + 1 + 1 + 1]? = some (.cells #[.int .i64 1, .int .i64 4] 50 (0, 0)) := by rw [← hwf]; repeat (first | with_reducible assumption | (with_reducible refine heap_alloc_at' _ _ ?_; focus (simp; done)) | with_reducible refine heap_alloc_off ?_ _ | (with_reducible refine heap_setCell_off ?_ _ ?_; rotate_left; focus omega) | with_reducible refine heap_drew' ?_ | with_reducible refine heap_drewN' ?_ | with_reducible refine heap_below (by with_reducible assumption) ?_)
  clear hwf
  have c0 := cells_of x0
  have l0 := lt_of_heap x0
  have hM : TownM wf.heap.size wf (some ⟨w.heap.size + 1 + 1, 0, none⟩) (some ⟨w.heap.size + 1 + 1 + 1, 0, none⟩) (some ⟨w.heap.size + 1 + 1 + 1 + 1, 0, none⟩) (some ⟨w.heap.size + 1 + 1 + 1 + 1 + 1, 0, none⟩) exT := by
    have c2 := cells_of x2
    have c3 := cells_of x3
    have c4 := cells_of x4
    have c5 := cells_of x5
    exact ⟨sl2 (lt_of_heap x2) ⟨c2 0, c2 1, c2 2⟩ ⟨c2 3, c2 4, c2 5⟩, sl2 (lt_of_heap x3) ⟨c3 0, c3 1, c3 2, c3 3, c3 4, c3 5, c3 6, c3 7⟩ ⟨c3 8, c3 9, c3 10, c3 11, c3 12, c3 13, c3 14, c3 15⟩, sl2 (lt_of_heap x4) ⟨c4 0, c4 1, c4 2⟩ ⟨c4 3, c4 4, c4 5⟩, sl1 (lt_of_heap x5) ⟨c5 0, c5 1⟩⟩
  have Hx0 := Lib.hid x0; clear x0; have Hx2 := Lib.hid x2; clear x2; have Hx3 := Lib.hid x3; clear x3; have Hx4 := Lib.hid x4; clear x4; have Hx5 := Lib.hid x5; clear x5; have HhM := Lib.hid hM; clear hM
  ((try simp only [Exit.inBlock, Exit.then]); refine bodyPost_ret (v := (.agg #[.int .i64 6, .slice (some ⟨w.heap.size + 1 + 1, 0, none⟩) 2 2, .slice (some ⟨w.heap.size + 1 + 1 + 1, 0, none⟩) 2 2, .slice (some ⟨w.heap.size + 1 + 1 + 1 + 1, 0, none⟩) 2 2, .slice (some ⟨w.heap.size + 1 + 1 + 1 + 1 + 1, 0, none⟩) 1 1])) (by simp [results, Try.results21, go_sem, *]) rfl ?_)
  exact ⟨_, _, _, _, rfl, hb, HhM.out⟩

set_option maxHeartbeats 4000000 in
set_option maxRecDepth 100000 in
theorem exhop_any (a b : Int) (w : World) :
    Calls Try.prog 59 #[.int .i64 a, .int .i64 b] w fun e w' => e = .returned (.agg #[.int .i64 a, .int .i64 b]) ∧ Below w.heap.size w w' := by
  go_enter Try.func59, Try.ntmps59
  go_wp2_with fail
  ((try simp only [Exit.inBlock, Exit.then]); refine bodyPost_ret (v := (.agg #[.int .i64 a, .int .i64 b])) (by simp [results, Try.results59, go_sem, *]) rfl ?_)
  exact ⟨rfl, (by repeat (first | exact Below.refl _ _ | (refine bl_setCell ?_ _ _ ?_; rotate_left; focus (first | omega | (simp; done) | (simp; omega))) | refine bl_alloc ?_ _ | refine bl_step ?_ (by assumption) | refine bl_drew ?_ | refine bl_drewN ?_ _))⟩

end Go.Proofs.Ytjoihijlcpnhoaa
namespace Go.Proofs.Ytjoihijlcpnhoaa
open Go.RowKit

theorem exP_fin (w u1 u2 u3 u4 wf : World) (h1 : Below (w.alloc (.cells #[.slice none 0 0, .slice none 0 0] 31)).heap.size (w.alloc (.cells #[.slice none 0 0, .slice none 0 0] 31)) u1) (h2 : Below (u1.alloc (.cells #[.int .i64 0, .int .i64 0] 47)).heap.size (u1.alloc (.cells #[.int .i64 0, .int .i64 0] 47)) u2) (h3 : Below ((u2.alloc (.cells #[.int .i64 0, .int .i64 1] 47)).alloc (.cells #[.int .i64 0, .int .i64 2, .slice (some ⟨u1.heap.size, 0, none⟩) 1 1, .int .i64 1, .int .i64 0, .int .i64 2, .slice (some ⟨u2.heap.size, 0, none⟩) 1 1, .int .i64 3] 41)).heap.size ((u2.alloc (.cells #[.int .i64 0, .int .i64 1] 47)).alloc (.cells #[.int .i64 0, .int .i64 2, .slice (some ⟨u1.heap.size, 0, none⟩) 1 1, .int .i64 1, .int .i64 0, .int .i64 2, .slice (some ⟨u2.heap.size, 0, none⟩) 1 1, .int .i64 3] 41)) u3) (h4 : Below u3.heap.size u3 u4)
    (hf : (((((u4.setCell ⟨w.heap.size, 0, none⟩ (.slice (some ⟨u2.heap.size + 1, 0, none⟩) 2 2)).setCell ⟨w.heap.size, 1, none⟩ (.slice (some ⟨u4.heap.size + 1 + 1, 0, none⟩) 1 1)).alloc (.cells #[.int .i64 1, .int .i64 0, .int .i64 0, .int .i64 1] 47)).alloc (.cells #[.int .i64 1, .int .i64 1, .int .i64 2] 56)).alloc (.cells #[.int .i64 0, .slice (some ⟨u4.heap.size, 0, none⟩) 2 2, .slice (some ⟨u4.heap.size + 1, 0, none⟩) 1 1] 53)) = wf) : Below w.heap.size w wf ∧ PlanM wf.heap.size wf (some ⟨u2.heap.size + 1, 0, none⟩) (some ⟨u4.heap.size + 1 + 1, 0, none⟩) exP ∧
      wf.heap[w.heap.size]? = some (.cells #[.slice (some ⟨u2.heap.size + 1, 0, none⟩) 2 2, .slice (some ⟨u4.heap.size + 1 + 1, 0, none⟩) 1 1] 31 (0, 0)) := by
  have s1 := h1.size
  have s2 := h2.size
  have s3 := h3.size
  have s4 := h4.size
  simp only [World.size_alloc] at s1 s2 s3
  have r1 : u1.heap[w.heap.size]? = some (.cells #[.slice none 0 0, .slice none 0 0] 31 (0, 0)) := heap_below h1 (heap_alloc_at _ _)
  have r2 := heap_below h2 (heap_alloc_off r1 (.cells #[.int .i64 0, .int .i64 0] 47))
  have a2 := heap_below h2 (heap_alloc_at u1 (.cells #[.int .i64 0, .int .i64 0] 47))
  have r3 := heap_below h3 (heap_alloc_off (heap_alloc_off r2 (.cells #[.int .i64 0, .int .i64 1] 47)) (.cells #[.int .i64 0, .int .i64 2, .slice (some ⟨u1.heap.size, 0, none⟩) 1 1, .int .i64 1, .int .i64 0, .int .i64 2, .slice (some ⟨u2.heap.size, 0, none⟩) 1 1, .int .i64 3] 41))
  have a3 := heap_below h3 (heap_alloc_off (heap_alloc_off a2 (.cells #[.int .i64 0, .int .i64 1] 47)) (.cells #[.int .i64 0, .int .i64 2, .slice (some ⟨u1.heap.size, 0, none⟩) 1 1, .int .i64 1, .int .i64 0, .int .i64 2, .slice (some ⟨u2.heap.size, 0, none⟩) 1 1, .int .i64 3] 41))
  have b3 := heap_below h3 (heap_alloc_off (heap_alloc_at u2 (.cells #[.int .i64 0, .int .i64 1] 47)) (.cells #[.int .i64 0, .int .i64 2, .slice (some ⟨u1.heap.size, 0, none⟩) 1 1, .int .i64 1, .int .i64 0, .int .i64 2, .slice (some ⟨u2.heap.size, 0, none⟩) 1 1, .int .i64 3] 41))
  have t3 := heap_below h3 (heap_alloc_at (u2.alloc (.cells #[.int .i64 0, .int .i64 1] 47)) (.cells #[.int .i64 0, .int .i64 2, .slice (some ⟨u1.heap.size, 0, none⟩) 1 1, .int .i64 1, .int .i64 0, .int .i64 2, .slice (some ⟨u2.heap.size, 0, none⟩) 1 1, .int .i64 3] 41))
  have r4 := heap_below h4 r3
  have a4 := heap_below h4 a3
  have b4 := heap_below h4 b3
  have t4 := heap_below h4 t3
  simp only [World.size_alloc] at t4
  have o1 : u1.heap.size ≠ w.heap.size := by omega
  have o2 : u2.heap.size ≠ w.heap.size := by omega
  have o3 : u2.heap.size + 1 ≠ w.heap.size := by omega
  have z : ∀ (a b : Value), ((u4.setCell ⟨w.heap.size, 0, none⟩ a).setCell ⟨w.heap.size, 1, none⟩ b).heap.size = u4.heap.size := fun a b => by simp [World.setCell]
  have put : ∀ {q : Nat} {o : Obj}, u4.heap[q]? = some o → q ≠ w.heap.size → wf.heap[q]? = some o := fun {q o} hq hn => by
    rw [← hf]
    exact heap_alloc_off (heap_alloc_off (heap_alloc_off ((setCell_other _ _ _ _ hn).trans ((setCell_other _ _ _ _ hn).trans hq)) _) _) _
  have a5 := put a4 o1
  have b5 := put b4 o2
  have t5 := put t4 o3
  have r5 : wf.heap[w.heap.size]? = some (.cells #[.slice (some ⟨u2.heap.size + 1, 0, none⟩) 2 2, .slice (some ⟨u4.heap.size + 1 + 1, 0, none⟩) 1 1] 31 (0, 0)) := by
    rw [← hf]
    exact heap_alloc_off (heap_alloc_off (heap_alloc_off (two_at r4 _ _) _) _) _
  have c5 : wf.heap[u4.heap.size]? = some (.cells #[.int .i64 1, .int .i64 0, .int .i64 0, .int .i64 1] 47 (0, 0)) := by
    rw [← hf]
    exact heap_alloc_off (heap_alloc_off (heap_alloc_at' _ _ (by rw [z])) _) _
  have d5 : wf.heap[u4.heap.size + 1]? = some (.cells #[.int .i64 1, .int .i64 1, .int .i64 2] 56 (0, 0)) := by
    rw [← hf]
    exact heap_alloc_off (heap_alloc_at' _ _ (by rw [World.size_alloc, z])) _
  have e5 : wf.heap[u4.heap.size + 1 + 1]? = some (.cells #[.int .i64 0, .slice (some ⟨u4.heap.size, 0, none⟩) 2 2, .slice (some ⟨u4.heap.size + 1, 0, none⟩) 1 1] 53 (0, 0)) := by
    rw [← hf]
    exact heap_alloc_at' _ _ (by rw [World.size_alloc, World.size_alloc, z])
  have ca := cells_of a5
  have cb := cells_of b5
  have ct := cells_of t5
  have cc := cells_of c5
  have cd := cells_of d5
  have ce := cells_of e5
  refine ⟨?_, ⟨sl2 (lt_of_heap t5) ⟨_, 0, ct 0, ct 1, ct 2, ct 3, sl1 (lt_of_heap a5) ⟨ca 0, ca 1⟩⟩ ⟨_, 0, ct 4, ct 5, ct 6, ct 7, sl1 (lt_of_heap b5) ⟨cb 0, cb 1⟩⟩, sl1 (lt_of_heap e5) ⟨_, 0, _, 1, ce 0, ce 1, ce 2, sl2 (lt_of_heap c5) ⟨cc 0, cc 1⟩ ⟨cc 2, cc 3⟩, sl1 (lt_of_heap d5) ⟨cd 0, cd 1, cd 2⟩⟩⟩, r5⟩
  have g1 : Below w.heap.size w u1 := bl_step (bl_alloc (Below.refl _ _) _) h1
  have g2 : Below w.heap.size w u2 := bl_step (bl_alloc g1 _) h2
  have g3 : Below w.heap.size w u3 := bl_step (bl_alloc (bl_alloc g2 _) _) h3
  have g4 : Below w.heap.size w u4 := bl_step g3 h4
  rw [← hf]
  exact bl_alloc (bl_alloc (bl_alloc (bl_setCell (bl_setCell g4 _ _ (Nat.le_refl _)) _ _ (Nat.le_refl _)) _) _) _

set_option maxHeartbeats 4000000 in
set_option maxRecDepth 100000 in
theorem exP_any (w : World) :
    Calls Try.prog 30 #[] w fun e w' => ∃ p1 p2, e = .returned (.agg #[.slice p1 2 2, .slice p2 1 1]) ∧ Below w.heap.size w w' ∧ PlanM w'.heap.size w' p1 p2 exP := by
  go_enter Try.func30, Try.ntmps30
  go_wp2_with (go_at_call 59; refine (exhop_any _ _ _).mono ?_; rintro e w1 ⟨rfl, hb1⟩; have hx1 : w1.heap[w.heap.size]? = some (.cells #[.slice none 0 0, .slice none 0 0] 31 (0, 0)) := heap_below hb1 (by repeat (first | with_reducible assumption | (with_reducible refine heap_alloc_at' _ _ ?_; focus (simp; done)) | with_reducible refine heap_alloc_off ?_ _ | (with_reducible refine heap_setCell_off ?_ _ ?_; rotate_left; focus omega) | with_reducible refine heap_drew' ?_ | with_reducible refine heap_drewN' ?_ | with_reducible refine heap_below (by with_reducible assumption) ?_)); have c1 := cells_of hx1; have f1 := frozen_of hx1; have l1 := lt_of_heap hx1; obtain ⟨_, _, _, _, _, _, _⟩ := lts l1; have hz1 := hb1.size; (try simp only [World.size_alloc] at hz1))
  rename_i u1 h1 _ _ _ _ _ _ _ _ _ _ _ _ u2 h2 _ _ _ _ _ _ _ _ _ _ _ _ u3 h3 _ _ _ _ _ _ _ _ _ _ _ _ _ _ _ _ _ _ _
  have F := exP_fin w u1 u2 u3 w1 _ h1 h2 h3 hb1 rfl
  obtain ⟨hb, hM, hr⟩ := F
  have c0 := cells_of hr
  have l0 := lt_of_heap hr
  have Hhb := Lib.hid hb; clear hb; have HhM := Lib.hid hM; clear hM; have Hhr := Lib.hid hr; clear hr
  ((try simp only [Exit.inBlock, Exit.then]); refine bodyPost_ret (v := (.agg #[.slice (some ⟨u2.heap.size + 1, 0, none⟩) 2 2, .slice (some ⟨w1.heap.size + 1 + 1, 0, none⟩) 1 1])) (by simp [results, Try.results30, go_sem, *]) rfl ?_)
  exact ⟨_, _, rfl, Hhb.out, HhM.out⟩

end Go.Proofs.Ytjoihijlcpnhoaa
