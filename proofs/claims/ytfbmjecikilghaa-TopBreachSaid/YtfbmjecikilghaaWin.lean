/- tide: Windows. -/
import Derived.Test.YtfbmjecikilghaaCut
namespace Go.Proofs.Ytfbmjecikilghaa
open Go.RowKit Go.Shelf
attribute [local go_sem] Oper.semAt_some

def wcells (ws : List (Int × Int)) : List Value := ws.flatMap fun u => [.int .i64 u.1, .int .i64 u.2]

theorem cells_own {β : Type} (b : Nat) (t : TypeId) (f : β → Array Value) : Own (fun s W => W.heap[b]? = some (.cells (f s) t (0, 0))) := fun s X Y row hs hg hrow =>
  (hg.block b (lt_of_heap hs) (fun e' => by obtain ⟨o, ho, hc⟩ := hrow b e'.symm; rw [hs] at ho; cases ho; cases hc)).trans hs

/-- Between two pieces. -/
def WinInv (mean : Int) (l : List Part) (a : Option Addr) (c : Nat) (level lo hi step : Int) (bo : Nat) (w : World) (pre : List Pc) (W : World) : Prop :=
  ((∃ v, Boxed W bo 34 v ∧ W.ownsRow w.heap.size 46 2 v (win mean l level pre).out.length (wcells (win mean l level pre).out) ∧ True) ∧ Boxed W (bo + 1) 4 (.bool (win mean l level pre).low)) ∧
  W.heap[w.heap.size]? = some (.cells #[.int .i64 mean, .slice a l.length c] 40 (0, 0)) ∧ Boxed W (w.heap.size + 1 + 1) 3 (.int .i64 level) ∧
  W.heap[bo + 1 + 1]? = some (.cells #[.int .i64 lo, .int .i64 hi] 83 (0, 0)) ∧ W.heap[bo + 1 + 1 + 1]? = some (.cells #[.int .i64 step] 3 (0, 0)) ∧ Below w.heap.size w W

theorem winInv_own (mean : Int) (l : List Part) (a : Option Addr) (c : Nat) (level lo hi step : Int) (bo : Nat) (w w2 : World) (hb : w.heap.size ≤ w2.heap.size) : OwnFrom w2.heap.size (WinInv mean l a c level lo hi step bo w) :=
  OwnFrom.and (OwnFrom.and (Own.from (holdsRow_own w.heap.size bo 34 46 2 (fun pre => (win mean l level pre).out.length) (fun pre => wcells (win mean l level pre).out) (fun _ _ => True)) _) (Own.from (boxed_own _ _ _) _))
    (OwnFrom.and (Own.from (cells_own _ _ _) _) (OwnFrom.and (Own.from (boxed_own _ _ _) _) (OwnFrom.and (Own.from (cells_own _ _ _) _) (OwnFrom.and (Own.from (cells_own _ _ _) _) (ownFrom_below (Nat.le_refl _) hb)))))

theorem wcells_snoc (f : List (Int × Int)) (a b : Int) : wcells (f ++ [(a, b)]) = wcells f ++ [.int .i64 a, .int .i64 b] := by simp [wcells]
theorem wcells_length (f : List (Int × Int)) : (wcells f).length = f.length * 2 := by
  induction f with
  | nil => rfl
  | cons x f ih => simp [wcells] at ih ⊢; omega
theorem heap_app {wx w4 : World} {tmp : Obj} {v : Value} (hg : (wx.alloc tmp).grownBy w4 v.ownBlock) {b bo : Nat} {c : Array Value} {t : TypeId} (h : wx.heap[b]? = some (.cells c t (0, 0))) (hne : v.ownBlock ≠ some b) (hbo : bo ≠ b) (u : Value) :
    (w4.setCell ⟨bo, 0, none⟩ u).heap[b]? = some (.cells c t (0, 0)) :=
  heap_setCell_off ((hg.block b (by have := lt_of_heap h; simp; omega) (Ne.symm hne)).trans (heap_alloc_off h _)) _ hbo
theorem info36 : (Try.prog.info? 46).map (fun i => (i.zero, i.size, i.bytes)) = some (some (.agg #[.int .i64 0, .int .i64 0]), 2, 16) := by kernel_rfl

theorem cells_not_row {W : World} {b : Nat} {c : Array Value} {t e : TypeId} (h : W.heap[b]? = some (.cells c t (0, 0))) (hte : t ≠ e) {base size k : Nat} {v : Value} {xs : List Value} (hr : W.ownsRow base e size v k xs) : v.ownBlock ≠ some b := by
  rcases hr.2 with ⟨rfl, _⟩ | ⟨g, cap, cur, rfl, _, hg, _⟩
  · simp [Value.ownBlock]
  · intro hb
    obtain rfl : g = b := by simpa [Value.ownBlock] using hb
    rw [h] at hg
    simp only [Option.some.injEq, Obj.cells.injEq] at hg
    exact hte hg.2.1

/-- Behind the store of whether the level is low. -/
theorem winInv_step {w w3 : World} {bo Bx : Nat} {v : Value} {low : Bool} {k : Nat} {xs : List Value} {m : Array Value} {level lo hi step xa xb : Int} (hB3 : Below w.heap.size w w3) (hbow : w.heap.size + 4 ≤ bo) (hv3 : Boxed w3 bo 34 v) (hw3 : Boxed w3 (bo + 1) 4 (.bool low))
    (hm3 : w3.heap[w.heap.size]? = some (.cells m 40 (0, 0))) (hlv3 : Boxed w3 (w.heap.size + 1 + 1) 3 (.int .i64 level)) (x13 : w3.heap[bo + 1 + 1]? = some (.cells #[.int .i64 lo, .int .i64 hi] 83 (0, 0))) (x23 : w3.heap[bo + 1 + 1 + 1]? = some (.cells #[.int .i64 step] 3 (0, 0)))
    (bX3 : w3.heap[Bx]? = some (.cells #[.int .i64 xa, .int .i64 xb] 83 (0, 0))) (hrow3 : w3.ownsRow w.heap.size 46 2 v k xs) (hBx : bo + 4 ≤ Bx) (b : Value) :
    Boxed (w3.setCell ⟨bo + 1, 0, none⟩ b) bo 34 v ∧ Boxed (w3.setCell ⟨bo + 1, 0, none⟩ b) (bo + 1) 4 b ∧ (w3.setCell ⟨bo + 1, 0, none⟩ b).heap[w.heap.size]? = some (.cells m 40 (0, 0)) ∧ Boxed (w3.setCell ⟨bo + 1, 0, none⟩ b) (w.heap.size + 1 + 1) 3 (.int .i64 level) ∧
    (w3.setCell ⟨bo + 1, 0, none⟩ b).heap[bo + 1 + 1]? = some (.cells #[.int .i64 lo, .int .i64 hi] 83 (0, 0)) ∧ (w3.setCell ⟨bo + 1, 0, none⟩ b).heap[bo + 1 + 1 + 1]? = some (.cells #[.int .i64 step] 3 (0, 0)) ∧
    (w3.setCell ⟨bo + 1, 0, none⟩ b).heap[Bx]? = some (.cells #[.int .i64 xa, .int .i64 xb] 83 (0, 0)) ∧ (w3.setCell ⟨bo + 1, 0, none⟩ b).ownsRow w.heap.size 46 2 v k xs ∧ Below w.heap.size w (w3.setCell ⟨bo + 1, 0, none⟩ b) :=
  ⟨hv3.other (by omega) _, hw3.set _, heap_setCell_off hm3 _ (by omega), hlv3.other (by omega) _, heap_setCell_off x13 _ (by omega), heap_setCell_off x23 _ (by omega), heap_setCell_off bX3 _ (by omega),
    hrow3.kept (grownBy_setCell' w3 (bo + 1) b) (.inr (hw3.not_row (by decide) hrow3).symm), bl_setCell hB3 _ _ (by show _ ≤ bo + 1; omega)⟩

set_option maxHeartbeats 4000000 in
set_option maxRecDepth 100000 in
theorem windows_ok (mean : Int) (l : List Part) (a : Option Addr) (c B : Nat) (lo hi step level : Int) (w : World) (hM : ModelM B w mean l a) (hB : B ≤ w.heap.size) (h0 : 0 ≤ lo) (h1 : lo ≤ hi) (h2 : hi ≤ 1000000000)
    (hs : 1 ≤ step) (hs2 : step ≤ 1000000000) (hq : (hi - lo - 1).tdiv step < 10000) (hN : hi - lo ≤ 90 * step) (hl0 : -20000 ≤ level) (hl1 : level ≤ 20000) :
    Calls Try.prog 11 #[.agg #[.int .i64 mean, .slice a l.length c], .agg #[.int .i64 lo, .int .i64 hi], .int .i64 step, .int .i64 level] w
      fun e w' => ∃ (xs : List Pc) (v : Value), e = .returned (.tuple #[v, .int .i64 0]) ∧ CutR step hi lo xs ∧ w'.ownsRow w.heap.size 46 2 v (win mean l level xs).out.length (wcells (win mean l level xs).out) ∧ Below w.heap.size w w' := by
  have hc := fun W (hW : Below w.heap.size w W) => steps_ok mean l a c B lo hi step W (hM.below (hW.mono hB)) (by have := hW.size; omega) h0 h1 h2 hs hs2 hq
  have HM := Lib.hid hM
  clear hM
  have hq' := Lib.hid hq
  clear hq
  refine (callsIn_wide (n := 6)).1 ?_
  refine callsIn_of_wp_marks Try.func11 rfl trivial ?_ rfl
  simp only [Try.ntmps11, List.size_toArray, List.length_cons, List.length_nil, Nat.reduceAdd, Nat.reduceSub, Array.replicate_succ, Array.replicate_zero, List.push_toArray, List.append_toArray, List.nil_append, List.cons_append]
  refine wpIn_wide.2 ?_
  go_wp2_with fail
  refine (hc _ (by repeat (first | exact Below.refl _ _ | (refine bl_setCell ?_ _ _ ?_; rotate_left; focus (first | omega | (simp; done) | (simp; omega))) | refine bl_alloc ?_ _ | refine bl_step ?_ (by assumption) | refine bl_drew ?_ | refine bl_drewN ?_ _))).mono ?_
  rintro e w1 ⟨rfl, hb1⟩
  have y4 : w1.heap[w.heap.size]? = some (.cells #[.int .i64 mean, .slice a l.length c] 40 (0, 0)) := heap_below hb1 (by repeat (first | (refine heap_alloc_at' _ _ ?_; focus (simp; done)) | refine heap_alloc_off ?_ _))
  have y7 : w1.heap[w.heap.size + 1 + 1]? = some (.cells #[.int .i64 level] 3 (0, 0)) := heap_below hb1 (by repeat (first | (refine heap_alloc_at' _ _ ?_; focus (simp; done)) | refine heap_alloc_off ?_ _))
  have y10 : w1.heap[w.heap.size + 1 + 1 + 1]? = some (.cells #[.int .i64 lo, .int .i64 hi] 83 (0, 0)) := heap_below hb1 (by repeat (first | (refine heap_alloc_at' _ _ ?_; focus (simp; done)) | refine heap_alloc_off ?_ _))
  have hbw1 : Below w.heap.size w w1 := (by repeat (first | exact Below.refl _ _ | (refine bl_setCell ?_ _ _ ?_; rotate_left; focus (first | omega | (simp; done) | (simp; omega))) | refine bl_alloc ?_ _ | refine bl_step ?_ (by assumption) | refine bl_drew ?_ | refine bl_drewN ?_ _))
  have y7c := cells_of y7
  have y10c := cells_of y10
  have y10l := lt_of_heap y10
  obtain ⟨_, _, _, _, _, _, _⟩ := lts y10l
  have g1 : decide (level < -20000) = false := by simp; omega
  have g2 : decide (20000 < level) = false := by simp; omega
  clear hc
  have Hy4 := Lib.hid y4; clear y4; have Hy7 := Lib.hid y7; clear y7; have Hy10 := Lib.hid y10; clear y10; have Hhbw1 := Lib.hid hbw1; clear hbw1
  go_wp2_with fail
  refine (cut_any lo hi step _).mono ?_
  rintro e w2 ⟨rfl, hb2, hz2, k1, k2⟩
  simp only [World.size_alloc] at hz2 k1 k2 ⊢
  obtain ⟨bo, hbo⟩ : ∃ bo, w1.heap.size = bo := ⟨_, rfl⟩
  have bO : Boxed w2 bo 34 (.slice none 0 0) := heap_below hb2 (by rw [← hbo]; exact (by repeat (first | (refine heap_alloc_at' _ _ ?_; focus (simp; done)) | refine heap_alloc_off ?_ _)))
  have bL : Boxed w2 (bo + 1) 4 (.bool false) := heap_below hb2 (by rw [← hbo]; exact (by repeat (first | (refine heap_alloc_at' _ _ ?_; focus (simp; done)) | refine heap_alloc_off ?_ _)))
  have bM : w2.heap[w.heap.size]? = some (.cells #[.int .i64 mean, .slice a l.length c] 40 (0, 0)) := heap_below hb2 (heap_alloc_off (heap_alloc_off Hy4.out _) _)
  have bV : Boxed w2 (w.heap.size + 1 + 1) 3 (.int .i64 level) := heap_below hb2 (heap_alloc_off (heap_alloc_off Hy7.out _) _)
  have hbw2 : Below w.heap.size w w2 := bl_step (bl_alloc (bl_alloc Hhbw1.out _) _) hb2
  rw [hbo] at hz2 k1 k2 ⊢
  have hbow : w.heap.size + 4 ≤ bo := by omega
  clear hb2 y7c y10c hb1
  have HbO := Lib.hid bO; clear bO; have HbL := Lib.hid bL; clear bL; have HbM := Lib.hid bM; clear bM; have HbV := Lib.hid bV; clear bV; have Hhbw2 := Lib.hid hbw2; clear hbw2; have Hhz2 := Lib.hid hz2; clear hz2; have Hk1 := Lib.hid k1; clear k1; have Hk2 := Lib.hid k2; clear k2; have Hhbo := Lib.hid hbo; clear hbo
  go_wp2_with fail
  refine (wpIn_wide (n := 6)).1 ?_
  have hx1 := Hk1.out
  have hx2 := Hk2.out
  refine wpIn_rangeFunc_ownH rfl (by omega) (gf := 51) (lb := #[.pointer (some ⟨bo + 1 + 1, 0, none⟩), .pointer (some ⟨bo + 1 + 1 + 1, 0, none⟩)]) rfl trivial (enters_of Try.func51 (by kernel_rfl) rfl)
    (cut_stops _ (by omega) (bo + 1 + 1) (bo + 1 + 1 + 1) step hi lo hs hs2 h0 h1 h2 hN w2 hx1 hx2) kpC_t (kpC_b (lt_of_heap hx1) (lt_of_heap hx2)) (Below.refl _ _) (fun _ => rfl)
    (WinInv mean l a c level lo hi step bo w) (fun _ _ _ => False)
    (winInv_own mean l a c level lo hi step bo w w2 (by have := Hhz2.out; omega))
    (fun _ _ _ _ _ hs _ _ => hs)
    ⟨⟨⟨_, HbO.out, World.ownsRow_nil _ _ _ _, trivial⟩, HbL.out⟩, HbM.out, HbV.out, hx1, hx2, Hhbw2.out⟩
    (fun x a' W => ∃ Bx, bo + 4 ≤ Bx ∧ W.heap[Bx]? = some (.cells #[.int .i64 x.1.1, .int .i64 x.1.2] 83 (0, 0)) ∧ a' = { tmps := #[.agg #[.int .i64 mean, .slice a l.length c], .agg #[.int .i64 lo, .int .i64 hi], .int .i64 step, .int .i64 level, .pointer (some ⟨w.heap.size, 0, none⟩), .pointer (some ⟨w.heap.size + 1, 0, none⟩), undef, .pointer (some ⟨w.heap.size + 1 + 1, 0, none⟩), .slice none 0 0, .int .i64 0, .pointer (some ⟨w.heap.size + 1 + 1 + 1, 0, none⟩), .int .i64 0, .pointer (some ⟨bo, 0, none⟩), .pointer (some ⟨bo + 1, 0, none⟩), .pointer (some ⟨Bx, 0, none⟩), undef, .agg #[.int .i64 lo, .int .i64 hi], .agg #[.int .i64 lo, .int .i64 hi], .agg #[.int .i64 mean, .slice a l.length c], .agg #[.int .i64 lo, .int .i64 hi], .int .i64 step, .int .i64 0, .int .i64 0, .bool false, undef, .int .i64 level, .bool false, .bool false, .int .i64 level, .bool false, .bool false, .agg #[.int .i64 lo, .int .i64 hi], .int .i64 step, .func (.func 51) #[] #[.pointer (some ⟨bo + 1 + 1, 0, none⟩), .pointer (some ⟨bo + 1 + 1 + 1, 0, none⟩)], .agg #[.int .i64 x.1.1, .int .i64 x.1.2], undef, undef, undef, undef, undef, undef, undef, undef, undef, undef, undef, undef, undef, undef, undef, undef, undef, undef, undef, undef, undef, undef, undef, undef, undef, undef], defers := [] })
    (fun x a' _ X Y row hs hg hr => by obtain ⟨Bx, h1, h2, h3⟩ := hs; exact ⟨Bx, h1, cells_own Bx 83 (fun (_ : Unit) => #[.int .i64 x.1.1, .int .i64 x.1.2]) () X Y row h2 hg (fun r e => (hr r e).2), h3⟩)
    ?assign ?body ?done ?stop
  case assign =>
    intro l2 pre x W K hi2 hK
    have hsW : bo + 4 ≤ W.heap.size := by have := (lt_of_heap hi2.2.2.2.2.1); omega
    have hI2 := winInv_own mean l a c level lo hi step bo w w2 (by have := Hhz2.out; omega) pre W _ none hi2 (World.grownBy_alloc W (.cells #[.int .i64 x.1.1, .int .i64 x.1.2] 83) none) (fun r e => by cases e)
    have HK := Lib.hid hK
    clear hK hi2
    gi_wp2
    exact HK.out _ _ ((KeepsOthers.alloc _ _).from _) ⟨by simp, Below.heap_alloc _ _ _ (by omega), Below.heap_alloc _ _ _ (by omega)⟩ hI2 ⟨W.heap.size, hsW, heap_alloc_at' _ _ rfl, rfl⟩
  case body =>
    rintro l2 pre x a' W hl ⟨r, hr⟩ ⟨⟨⟨v, hv, hrow, _⟩, hlw⟩, hm, hlv, x1, x2, hBw⟩ ⟨Bx, hBx, bX, rfl⟩ hlt
    obtain ⟨⟨xa, xb⟩, xp0, xp1, xp2⟩ := x
    simp only at xp0 xp1 xp2 bX ⊢
    obtain ⟨X, hX⟩ : ∃ X, levLo mean l xa xb = X := ⟨_, rfl⟩
    obtain ⟨Y, hY⟩ : ∃ Y, levHi mean l xa xb = Y := ⟨_, rfl⟩
    have hL := fun W' (hW : Below w.heap.size w W') => level_any mean l a c B xa xb W' (HM.out.below (hW.mono hB)).parts (by have := hW.size; omega) HM.out.good HM.out.few HM.out.lo HM.out.hi (by omega) (by omega) (by omega) (by omega) X Y hX hY
    have hF1 := field59 X Y
    have hF2 := field36 X Y
    have hvc := hv.cell
    have hwc := hlw.cell
    have hwf := hlw.frozen
    have hlc := hlv.cell
    have hmc := cells_of hm
    have bXc := cells_of bX
    have hBxl := lt_of_heap bX
    have hbol := hv.lt
    have hbll := hlw.lt
    have hmll := lt_of_heap hm
    have hvll := hlv.lt
    have HhX := Lib.hid hX; clear hX; have HhY := Lib.hid hY; clear hY; have Hhv := Lib.hid hv; clear hv; have Hhrow := Lib.hid hrow; clear hrow; have Hhlw := Lib.hid hlw; clear hlw; have Hhm := Lib.hid hm; clear hm; have Hhlv := Lib.hid hlv; clear hlv; have Hx1 := Lib.hid x1; clear x1; have Hx2 := Lib.hid x2; clear x2; have HhBw := Lib.hid hBw; clear hBw; have HbX := Lib.hid bX; clear bX
    gi_wp2_with fail
    have hmix : Try.prog.follows .mixedOrders = true := by kernel_rfl
    refine wpIn_mono (Q := fun e a' w' => e = .normal ∧ a' = { tmps := #[.agg #[.int .i64 mean, .slice a l.length c], .agg #[.int .i64 lo, .int .i64 hi], .int .i64 step, .int .i64 level, .pointer (some ⟨w.heap.size, 0, none⟩), .pointer (some ⟨w.heap.size + 1, 0, none⟩), undef, .pointer (some ⟨w.heap.size + 1 + 1, 0, none⟩), .slice none 0 0, .int .i64 0, .pointer (some ⟨w.heap.size + 1 + 1 + 1, 0, none⟩), .int .i64 0, .pointer (some ⟨bo, 0, none⟩), .pointer (some ⟨bo + 1, 0, none⟩), .pointer (some ⟨Bx, 0, none⟩), .bool (win mean l level pre).low, .agg #[.int .i64 lo, .int .i64 hi], .agg #[.int .i64 lo, .int .i64 hi], .agg #[.int .i64 mean, .slice a l.length c], .agg #[.int .i64 lo, .int .i64 hi], .int .i64 step, .int .i64 0, .int .i64 0, .bool false, undef, .int .i64 level, .bool false, .bool false, .int .i64 level, .bool false, .bool false, .agg #[.int .i64 lo, .int .i64 hi], .int .i64 step, .func (.func 51) #[] #[.pointer (some ⟨bo + 1 + 1, 0, none⟩), .pointer (some ⟨bo + 1 + 1 + 1, 0, none⟩)], .agg #[.int .i64 xa, .int .i64 xb], .bool (win mean l level pre).low, .agg #[.int .i64 mean, .slice a l.length c], .agg #[.int .i64 xa, .int .i64 xb], .agg #[.int .i64 X, .int .i64 Y], .agg #[.int .i64 X, .int .i64 Y], .int .i64 Y, .int .i64 level, .bool (decide (Y ≤ level)), undef, undef, undef, undef, undef, undef, undef, undef, undef, undef, undef, undef, undef, undef, undef, undef, undef, undef], defers := [] } ∧ ∃ w3, Below W.drew.heap.size W.drew w3 ∧ w' = w3.setCell ⟨bo + 1, 0, none⟩ (.bool (decide (Y ≤ level)))) ?_ ?_
    · gi_region_with_o (refine ⟨trivial, ?_⟩; gi_at_call 20; refine (CallsIn.inRound l2 (callsIn_wide.2 (hL _ (by have := HhBw.out; repeat (first | exact Below.refl _ _ | (refine bl_setCell ?_ _ _ ?_; rotate_left; focus (first | omega | (simp; done) | (simp; omega))) | refine bl_alloc ?_ _ | refine bl_step ?_ (by assumption) | refine bl_drew ?_ | refine bl_drewN ?_ _))))).mono ?_; rintro e w3 ⟨rfl, hb3⟩; obtain ⟨_, _, _⟩ := bk bo hb3 hbol; obtain ⟨_, _, _⟩ := bk (bo + 1) hb3 hbll; obtain ⟨_, _, _⟩ := bk (w.heap.size + 1 + 1) hb3 hvll; obtain ⟨_, _, _⟩ := bk Bx hb3 hBxl)
      all_goals exact ⟨rfl, rfl, w3, hb3, rfl⟩
    rintro e a' w' ⟨rfl, rfl, w3, hb3, rfl⟩
    -- all in the world behind the call
    have hv3 : Boxed w3 bo 34 v := heap_below hb3 Hhv.out
    have hw3 : Boxed w3 (bo + 1) 4 (.bool (win mean l level pre).low) := heap_below hb3 Hhlw.out
    have hm3 := heap_below hb3 Hhm.out
    have hlv3 : Boxed w3 (w.heap.size + 1 + 1) 3 (.int .i64 level) := heap_below hb3 Hhlv.out
    have x13 := heap_below hb3 Hx1.out
    have x23 := heap_below hb3 Hx2.out
    have bX3 := heap_below hb3 HbX.out
    have hB3 : Below w.heap.size w w3 := bl_step (bl_drew HhBw.out) hb3
    have hrow3 : w3.ownsRow w.heap.size 46 2 v (win mean l level pre).out.length (wcells (win mean l level pre).out) := (World.ownsRow.drew Hhrow.out).kept (below_grown hb3) (by cases v.ownBlock <;> simp)
    clear hvc hwc hwf hlc hmc bXc hL hF1 hF2
    have hd0 := winInv_step hB3 hbow hv3 hw3 hm3 hlv3 x13 x23 bX3 hrow3 hBx (.bool (decide (Y ≤ level)))
    obtain ⟨wx, hwx⟩ : ∃ wx, w3.setCell ⟨bo + 1, 0, none⟩ (.bool (decide (Y ≤ level))) = wx := ⟨_, rfl⟩
    have hko : KeepsOthers W wx := by
      rw [← hwx]
      exact KeepsOthers.trans ⟨hb3.size, fun k o h _ => heap_below hb3 h⟩ (KeepsOthers.setCell _ _ _)
    rw [hwx] at hd0 ⊢
    obtain ⟨vx, wxl, mx, lx, c1, c2, bx, rx, bwx⟩ := hd0
    have hkp : KpC (bo + 1 + 1) (bo + 1 + 1 + 1) W wx := ⟨hko.size, c1.trans Hx1.out.symm, c2.trans Hx2.out.symm⟩
    clear hv3 hw3 hm3 hlv3 x13 x23 bX3 hB3 hrow3 hwx hb3
    have hwin := win_snoc mean l level pre ⟨(xa, xb), xp0, xp1, xp2⟩
    have hlen := win_length mean l level pre
    obtain ⟨st, hst⟩ : ∃ st, win mean l level pre = st := ⟨_, rfl⟩
    rw [hst] at hwin hlen rx ⊢
    have hne : st.low = true → st.out ≠ [] := by rw [← hst]; exact win_ne
    obtain ⟨low, out⟩ := st
    simp only [winStep, HhY.out] at hwin hlen rx hne ⊢
    have vxc := vx.cell
    have vxf := vx.frozen
    have wxc := wxl.cell
    have bxc := cells_of bx
    have vxl := vx.lt
    have bxl := lt_of_heap bx
    have HK := Lib.hid hko
    have HP := Lib.hid hkp
    clear hko hkp
    by_cases hYl : Y ≤ level
    · rw [if_pos hYl] at hwin
      have hd : decide (Y ≤ level) = true := by simpa using hYl
      rw [hd] at wxl wxc ⊢
      cases low
      · -- a new window
        simp only [Bool.false_eq_true, if_false] at hwin
        obtain ⟨i0, hinf, hz0, hz1, hz2⟩ := info_parts info36
        have hol : out.length ≤ 100 := by omega
        have hnews : ∀ j u, [Value.int .i64 xa, Value.int .i64 xb][j]? = some u → (wx.alloc (.cells #[.int .i64 xa, .int .i64 xb] 46)).cell? ((⟨wx.heap.size, 0, none⟩ : Addr).add j) = some u := by
          intro j u hj
          have hca := cells_of (heap_alloc_at wx (.cells #[.int .i64 xa, .int .i64 xb] 46))
          rcases j with _ | _ | j
          · exact (hca 0).trans hj
          · exact (hca 1).trans hj
          · simp at hj
        have hmax : out.length + 1 ≤ maxLen := by unfold maxLen; omega
        have hszx : w.heap.size ≤ wx.heap.size := bwx.size
        have Hhwin := Lib.hid hwin; clear hwin; have Hmx := Lib.hid mx; clear mx; have Hc1 := Lib.hid c1; clear c1; have Hc2 := Lib.hid c2; clear c2; have Hbwx := Lib.hid bwx; clear bwx; have Hhst := Lib.hid hst; clear hst; have Hhne := Lib.hid hne; clear hne; have Hwxl := Lib.hid wxl; clear wxl
        gi_wp2_with (gi_at_builtin; refine wpListIn_append_own _ rfl _ _ 34 rfl w.heap.size 46 i0 (.agg #[.int .i64 0, .int .i64 0]) 2 16 Try.underlying34 hinf hz0 hz1 hz2 rfl (by decide) _ _ _ rfl (rx.alloc _) ⟨wx.heap.size, 0, none⟩ 1 1 [.int .i64 xa, .int .i64 xb] rfl rfl hnews (by simp [Value.oneCell']) (by omega) (by omega) (by simp; omega) ?_; intro v' w4 hown' hgrow _; obtain ⟨g', cap', rfl⟩ := ownsRow_succ hown'; obtain ⟨hv1, hv2, hr2, hk2, hb2⟩ := vx.appended (by decide) rx hszx (by omega) hown' hgrow; have hc1 := hv1.cell; have hf1 := hv1.frozen)
        have hg : (wx.alloc (.cells #[.int .i64 xa, .int .i64 xb] 46)).grownBy w4 v.ownBlock := hgrow
        have nm := cells_not_row Hmx.out (by decide) rx
        have nl := cells_not_row lx (by decide) rx
        have nw := cells_not_row Hwxl.out (by decide) rx
        have n1 := cells_not_row Hc1.out (by decide) rx
        have n2 := cells_not_row Hc2.out (by decide) rx
        have q1 := heap_app (bo := bo) hg Hc1.out n1 (by omega) (.slice (some ⟨g', 0, none⟩) (out.length + 1) cap')
        have q2 := heap_app (bo := bo) hg Hc2.out n2 (by omega) (.slice (some ⟨g', 0, none⟩) (out.length + 1) cap')
        refine ⟨(HK.out.trans hk2).from _, ⟨Nat.le_trans HP.out.size hk2.size, q1.trans Hx1.out.symm, q2.trans Hx2.out.symm⟩, ?_⟩
        unfold WinInv
        rw [Hhwin.out]
        exact ⟨⟨⟨_, hv2, by rw [wcells_snoc, List.length_append]; exact hr2, trivial⟩, heap_app (bo := bo) hg Hwxl.out nw (by omega) _⟩, heap_app (bo := bo) hg Hmx.out nm (by omega) _, heap_app (bo := bo) hg lx nl (by omega) _, q1, q2, Hbwx.out.trans hb2⟩
      · -- the last window goes on
        simp only [if_true] at hwin
        have hne' := hne rfl
        rcases List.eq_nil_or_concat out with rfl | ⟨f, u, rfl⟩
        · exact absurd rfl hne'
        rw [List.concat_eq_append] at hwin hlen rx hst
        rw [setHi_snoc] at hwin
        obtain ⟨u1, u2⟩ := u
        simp only at hwin
        have hol : f.length + 1 ≤ 100 := by simp at hlen; omega
        rw [wcells_snoc, List.length_append, List.length_singleton] at rx
        obtain ⟨g, cap, rfl⟩ := ownsRow_succ rx
        have hcell : wx.cell? ⟨g, f.length * 2 + 1, none⟩ = some (.int .i64 u2) := by
          rw [rx.cellAt (f.length * 2 + 1) (by omega), ← wcells_length f, List.getElem?_append_right (by omega)]
          simp
        have hfr := rx.frozenAt (f.length * 2 + 1)
        have hfl0 : 0 ≤ (f.length : Int) := by omega
        have hfl1 : (f.length : Int) ≤ 100 := by omega
        have Hhwin := Lib.hid hwin; clear hwin; have Hmx := Lib.hid mx; clear mx; have Hc1 := Lib.hid c1; clear c1; have Hc2 := Lib.hid c2; clear c2; have Hbwx := Lib.hid bwx; clear bwx; have Hhst := Lib.hid hst; clear hst; have Hhne := Lib.hid hne; clear hne; have Hhne' := Lib.hid hne'; clear hne'; have Hwxl := Lib.hid wxl; clear wxl
        gi_wp2
        obtain ⟨s1, _⟩ := rx.stored (f.length * 2 + 1) (.int .i64 xb)
        have ng := (rx.lt g rfl).1
        have nm := cells_not_row Hmx.out (by decide) rx
        have nl := cells_not_row lx (by decide) rx
        have nw := cells_not_row Hwxl.out (by decide) rx
        have n1 := cells_not_row Hc1.out (by decide) rx
        have n2 := cells_not_row Hc2.out (by decide) rx
        have nv := cells_not_row vx (by decide) rx
        simp only [Value.ownBlock, ne_eq, Option.some.injEq] at nm nl nw n1 n2 nv
        have q1 := heap_setCell_off (o := f.length * 2 + 1) Hc1.out (.int .i64 xb) n1
        have q2 := heap_setCell_off (o := f.length * 2 + 1) Hc2.out (.int .i64 xb) n2
        have hset : (wcells f ++ [Value.int .i64 u1, Value.int .i64 u2]).set (f.length * 2 + 1) (.int .i64 xb) = wcells (f ++ [(u1, xb)]) := by
          rw [wcells_snoc, ← wcells_length f, List.set_append_right _ _ (by omega)]
          simp
        rw [hset] at s1
        refine ⟨(HK.out.trans (KeepsOthers.setCell _ _ _)).from _, ⟨Nat.le_trans HP.out.size (by simp), q1.trans Hx1.out.symm, q2.trans Hx2.out.symm⟩, ?_⟩
        unfold WinInv
        rw [Hhwin.out]
        exact ⟨⟨⟨_, heap_setCell_off vx _ nv, by rw [List.length_append]; exact s1, trivial⟩, heap_setCell_off Hwxl.out _ nw⟩, heap_setCell_off Hmx.out _ nm, heap_setCell_off lx _ nl, q1, q2, bl_setCell Hbwx.out _ _ ng⟩
    · rw [if_neg hYl] at hwin
      have hd : decide (Y ≤ level) = false := by simpa using hYl
      rw [hd] at wxl wxc ⊢
      have Hhwin := Lib.hid hwin; clear hwin; have Hmx := Lib.hid mx; clear mx; have Hlx := Lib.hid lx; clear lx; have Hc1 := Lib.hid c1; clear c1; have Hc2 := Lib.hid c2; clear c2; have Hbwx := Lib.hid bwx; clear bwx; have Hhst := Lib.hid hst; clear hst; have Hhne := Lib.hid hne; clear hne; have Hvx := Lib.hid vx; clear vx; have Hwxl := Lib.hid wxl; clear wxl; have Hrx := Lib.hid rx; clear rx
      gi_wp2
      refine ⟨HK.out.from _, HP.out, ?_⟩
      unfold WinInv
      rw [Hhwin.out]
      exact ⟨⟨⟨v, Hvx.out, Hrx.out, trivial⟩, Hwxl.out⟩, Hmx.out, Hlx.out, Hc1.out, Hc2.out, Hbwx.out⟩
  case done =>
    rintro D ys W hD hS ⟨⟨⟨v, hv, hrow, _⟩, _⟩, _, _, _, _, hB⟩ hK
    have hvc := hv.cell
    have HR := Lib.hid hrow
    have HB := Lib.hid hB
    have HC := Lib.hid hS
    have HV := Lib.hid hv
    clear hrow hB hS hv
    go_wp2_with fail
    refine ⟨by simp, .inl ⟨_, _, rfl, run_takeDeferred hK, ?_⟩⟩
    have hDw : w.heap.size ≤ D := by have := Hhz2.out; omega
    exact ⟨_, results_tmp2 rfl _ _ _, ys, v, rfl, HC.out, ownsRow_putObj HR.out _ hK rfl, HB.out.trans (belowK_b (w := w) (Nat.le_refl _) W D _ _ hDw hK rfl rfl)⟩
  case stop =>
    rintro D c pre W _ _ h _
    exact h.elim
end Go.Proofs.Ytfbmjecikilghaa
