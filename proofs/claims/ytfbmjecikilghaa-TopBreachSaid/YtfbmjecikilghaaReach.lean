/- grid: a cell is reached. -/
import Derived.Test.YtfbmjecikilghaaSpan
import Derived.Test.YtfbmjecikilghaaEbbD
import Derived.Test.YtfbmjecikilghaaLevB
namespace Go.Proofs.Ytfbmjecikilghaa
open Go.RowKit

/-- The grid and the end of spans, in memory. -/
structure GroundM (B qe qg : Nat) (F : Value) (w : World) (wd ht sz : Int) (ga : Option Addr) (gcap : Nat) (gr : List (Int × Int)) : Prop where
  fend : Boxed w qe 61 F
  grid : w.heap[qg]? = some (.cells #[.int .i64 wd, .int .i64 ht, .int .i64 sz, .slice ga gr.length gcap] 36 (0, 0))
  cells : Sl SpanE 2 B w ga gr
  qe : qe < B
  qg : qg < B
theorem GroundM.below {B qe qg : Nat} {F : Value} {w W : World} {wd ht sz : Int} {ga : Option Addr} {gcap : Nat} {gr : List (Int × Int)} (h : GroundM B qe qg F w wd ht sz ga gcap gr) (hb : Below B w W) : GroundM B qe qg F W wd ht sz ga gcap gr :=
  ⟨(hb.block qe h.qe).trans h.fend, (hb.block qg h.qg).trans h.grid, h.cells.below (ek_span B) hb, h.qe, h.qg⟩

abbrev loF : Value := .func (.func 68) #[] #[]
abbrev hiF : Value := .func (.func 69) #[] #[]

set_option maxHeartbeats 2000000 in
set_option maxRecDepth 100000 in
theorem heightLo_ok (B qe qg : Nat) (w : World) (wd ht sz : Int) (ga : Option Addr) (gcap : Nat) (gr : List (Int × Int)) (hG : GroundM B qe qg loF w wd ht sz ga gcap gr) (c : Int) (c0 : 0 ≤ c) (c1 : c < (gr.length : Int)) (v : Int) (hv : (gr.getD c.toNat (0, 0)).1 = v) :
    Calls Try.prog 49 #[.int .i64 c, .pointer (some ⟨qe, 0, none⟩), .pointer (some ⟨qg, 0, none⟩)] w fun e w' => e = .returned (.tuple #[.int .i64 v, .bool true]) ∧ Below w.heap.size w w' := by
  obtain ⟨b, off, rfl, hb, he⟩ := hG.cells.at c0 c1 (0, 0)
  obtain ⟨x, hx⟩ : ∃ x, gr.getD c.toNat (0, 0) = x := ⟨_, rfl⟩
  rw [hx] at he hv
  obtain ⟨x1, x2⟩ := x
  obtain ⟨e1, e2⟩ := he
  simp only at e1 e2 hv
  subst hv
  have fc := hG.fend.cell
  have fl := hG.fend.lt
  have gc := cells_of hG.grid
  have gl := lt_of_heap hG.grid
  have bl : b < w.heap.size := World.block_lt_of_cell? w _ e1
  have hI : Below w.heap.size w w.drew := (Below.refl _ _).drew
  have HhG := Lib.hid hG; clear hG; have Hhx := Lib.hid hx; clear hx
  go_enter Try.func49, Try.ntmps49
  go_upto_region 1 with fail
  refine wp_region_ord (fun W => Below w.heap.size w W) [([0, 1, 2, 3, 4, 5], 6)] [7, 8] none (by kernel_rfl) (by kernel_rfl) hI ?_
  refine OrdI_cons ?_
  (apply StI_plain (w0 := w.drew) hI rfl rfl rfl rfl; (focus (intro W hW K hK; obtain ⟨_, _⟩ := bk qe hW fl; obtain ⟨_, _⟩ := bk qg hW gl; obtain ⟨_, _⟩ := bk b hW bl; go_step; exact hK)); (focus rfl)); (apply StI_plain (w0 := w.drew) hI rfl rfl rfl rfl; (focus (intro W hW K hK; obtain ⟨_, _⟩ := bk qe hW fl; obtain ⟨_, _⟩ := bk qg hW gl; obtain ⟨_, _⟩ := bk b hW bl; go_step; exact hK)); (focus rfl)); (apply StI_plain (w0 := w.drew) hI rfl rfl rfl rfl; (focus (intro W hW K hK; obtain ⟨_, _⟩ := bk qe hW fl; obtain ⟨_, _⟩ := bk qg hW gl; obtain ⟨_, _⟩ := bk b hW bl; go_step; exact hK)); (focus rfl)); (apply StI_plain (w0 := w.drew) hI rfl rfl rfl rfl; (focus (intro W hW K hK; obtain ⟨_, _⟩ := bk qe hW fl; obtain ⟨_, _⟩ := bk qg hW gl; obtain ⟨_, _⟩ := bk b hW bl; go_step; exact hK)); (focus rfl)); (apply StI_plain (w0 := w.drew) hI rfl rfl rfl rfl; (focus (intro W hW K hK; obtain ⟨_, _⟩ := bk qe hW fl; obtain ⟨_, _⟩ := bk qg hW gl; obtain ⟨_, _⟩ := bk b hW bl; go_step; exact hK)); (focus rfl)); (apply StI_plain (w0 := w.drew) hI rfl rfl rfl rfl; (focus (intro W hW K hK; obtain ⟨_, _⟩ := bk qe hW fl; obtain ⟨_, _⟩ := bk qg hW gl; obtain ⟨_, _⟩ := bk b hW bl; go_step; exact hK)); (focus rfl))
  (apply StI_eff rfl; go_wp2_with (first | (go_at_call 68; refine (lower_any x1 x2 _).mono ?_; rintro e w1 ⟨rfl, hb1⟩)))
  have hI1 : Below w.heap.size w w1 := below_mid hI (Nat.le_refl _) hb1
  refine onNormal_mk hI1 (OrdI_fin ?_)
  (apply StI_plain (w0 := w1) hI1 rfl rfl rfl rfl; (focus (intro W hW K hK; skip; go_step; exact hK)); (focus rfl)); (apply StI_plain (w0 := w1) hI1 rfl rfl rfl rfl; (focus (intro W hW K hK; skip; go_step; exact hK)); (focus rfl))
  refine StI_nil ?_
  go_wp2_with fail
  go_ret2
  exact ⟨rfl, hI1⟩

set_option maxHeartbeats 2000000 in
set_option maxRecDepth 100000 in
theorem heightHi_ok (B qe qg : Nat) (w : World) (wd ht sz : Int) (ga : Option Addr) (gcap : Nat) (gr : List (Int × Int)) (hG : GroundM B qe qg hiF w wd ht sz ga gcap gr) (c : Int) (c0 : 0 ≤ c) (c1 : c < (gr.length : Int)) (v : Int) (hv : (gr.getD c.toNat (0, 0)).2 = v) :
    Calls Try.prog 49 #[.int .i64 c, .pointer (some ⟨qe, 0, none⟩), .pointer (some ⟨qg, 0, none⟩)] w fun e w' => e = .returned (.tuple #[.int .i64 v, .bool true]) ∧ Below w.heap.size w w' := by
  obtain ⟨b, off, rfl, hb, he⟩ := hG.cells.at c0 c1 (0, 0)
  obtain ⟨x, hx⟩ : ∃ x, gr.getD c.toNat (0, 0) = x := ⟨_, rfl⟩
  rw [hx] at he hv
  obtain ⟨x1, x2⟩ := x
  obtain ⟨e1, e2⟩ := he
  simp only at e1 e2 hv
  subst hv
  have fc := hG.fend.cell
  have fl := hG.fend.lt
  have gc := cells_of hG.grid
  have gl := lt_of_heap hG.grid
  have bl : b < w.heap.size := World.block_lt_of_cell? w _ e1
  have hI : Below w.heap.size w w.drew := (Below.refl _ _).drew
  have HhG := Lib.hid hG; clear hG; have Hhx := Lib.hid hx; clear hx
  go_enter Try.func49, Try.ntmps49
  go_upto_region 1 with fail
  refine wp_region_ord (fun W => Below w.heap.size w W) [([0, 1, 2, 3, 4, 5], 6)] [7, 8] none (by kernel_rfl) (by kernel_rfl) hI ?_
  refine OrdI_cons ?_
  (apply StI_plain (w0 := w.drew) hI rfl rfl rfl rfl; (focus (intro W hW K hK; obtain ⟨_, _⟩ := bk qe hW fl; obtain ⟨_, _⟩ := bk qg hW gl; obtain ⟨_, _⟩ := bk b hW bl; go_step; exact hK)); (focus rfl)); (apply StI_plain (w0 := w.drew) hI rfl rfl rfl rfl; (focus (intro W hW K hK; obtain ⟨_, _⟩ := bk qe hW fl; obtain ⟨_, _⟩ := bk qg hW gl; obtain ⟨_, _⟩ := bk b hW bl; go_step; exact hK)); (focus rfl)); (apply StI_plain (w0 := w.drew) hI rfl rfl rfl rfl; (focus (intro W hW K hK; obtain ⟨_, _⟩ := bk qe hW fl; obtain ⟨_, _⟩ := bk qg hW gl; obtain ⟨_, _⟩ := bk b hW bl; go_step; exact hK)); (focus rfl)); (apply StI_plain (w0 := w.drew) hI rfl rfl rfl rfl; (focus (intro W hW K hK; obtain ⟨_, _⟩ := bk qe hW fl; obtain ⟨_, _⟩ := bk qg hW gl; obtain ⟨_, _⟩ := bk b hW bl; go_step; exact hK)); (focus rfl)); (apply StI_plain (w0 := w.drew) hI rfl rfl rfl rfl; (focus (intro W hW K hK; obtain ⟨_, _⟩ := bk qe hW fl; obtain ⟨_, _⟩ := bk qg hW gl; obtain ⟨_, _⟩ := bk b hW bl; go_step; exact hK)); (focus rfl)); (apply StI_plain (w0 := w.drew) hI rfl rfl rfl rfl; (focus (intro W hW K hK; obtain ⟨_, _⟩ := bk qe hW fl; obtain ⟨_, _⟩ := bk qg hW gl; obtain ⟨_, _⟩ := bk b hW bl; go_step; exact hK)); (focus rfl))
  (apply StI_eff rfl; go_wp2_with (first | (go_at_call 69; refine (upper_any x1 x2 _).mono ?_; rintro e w1 ⟨rfl, hb1⟩)))
  have hI1 : Below w.heap.size w w1 := below_mid hI (Nat.le_refl _) hb1
  refine onNormal_mk hI1 (OrdI_fin ?_)
  (apply StI_plain (w0 := w1) hI1 rfl rfl rfl rfl; (focus (intro W hW K hK; skip; go_step; exact hK)); (focus rfl)); (apply StI_plain (w0 := w1) hI1 rfl rfl rfl rfl; (focus (intro W hW K hK; skip; go_step; exact hK)); (focus rfl))
  refine StI_nil ?_
  go_wp2_with fail
  go_ret2
  exact ⟨rfl, hI1⟩

theorem grownBy_setAtR (W : World) (b o : Nat) (v : Value) : W.grownBy (W.setCell ⟨b, o, none⟩ v) (some b) :=
  ⟨rfl, rfl, rfl, (KeepsWalks.setCell W _ v).size, fun k _ hk => Below.heap_setCell _ _ _ k (fun e => hk (by rw [e]))⟩
def ints (l : List Int) : List Value := l.map (Value.int .i64)
theorem ints_get (l : List Int) (k : Nat) (h : k < l.length) : (ints l)[k]? = some (.int .i64 (l.getD k 0)) := by
  rw [ints, List.getElem?_map, List.getElem?_eq_getElem h, List.getD_eq_getElem?_getD, List.getElem?_eq_getElem h]; rfl
theorem ints_set (l : List Int) (k : Nat) (v : Int) : (ints l).set k (.int .i64 v) = ints (l.set k v) := by rw [ints, ints, List.map_set]
theorem ints_len (l : List Int) : (ints l).length = l.length := by simp [ints]

abbrev hgtF (qe qg : Nat) : Value := .func (.func 49) #[] #[.pointer (some ⟨qe, 0, none⟩), .pointer (some ⟨qg, 0, none⟩)]

/-- What the search works on: the heights, the sills, the heap. -/
structure ReachM (base qe qg q5 q7 q8 go cap : Nat) (out : List Int) (vh : Value) (lp : List (Int × Int)) (W : World) : Prop where
  hgt : Boxed W q5 113 (hgtF qe qg)
  box : Boxed W q7 44 (.slice (some ⟨go, 0, none⟩) out.length cap)
  row : W.ownsRow base 3 1 (.slice (some ⟨go, 0, none⟩) out.length cap) out.length (ints out)
  heap : HeapM base q8 W vh lp
theorem ReachM.below {base qe qg q5 q7 q8 go cap : Nat} {out : List Int} {vh : Value} {lp : List (Int × Int)} {W W' : World} (h : ReachM base qe qg q5 q7 q8 go cap out vh lp W) (hb : Below W.heap.size W W') : ReachM base qe qg q5 q7 q8 go cap out vh lp W' :=
  ⟨heap_below hb h.hgt, heap_below hb h.box, h.row.kept (below_grown hb) (.inr (by simp [Value.ownBlock])), h.heap.below hb⟩
theorem row_same {w w' : World} {base n size : Nat} {e : TypeId} {v : Value} {xs : List Value} (h : w.ownsRow base e size v n xs) (hb : ∀ g, v.ownBlock = some g → w'.heap[g]? = w.heap[g]?) : w'.ownsRow base e size v n xs := by
  refine ⟨h.1, ?_⟩
  rcases h.2 with hn | ⟨g, cap, cur, rfl, hbg, hgg, rest⟩
  · exact .inl hn
  · exact .inr ⟨g, cap, cur, rfl, hbg, (hb g rfl).trans hgg, rest⟩
theorem row_block {w : World} {base n g cap size : Nat} {e : TypeId} {xs : List Value} (h : w.ownsRow base e size (.slice (some ⟨g, 0, none⟩) n cap) n xs) : ∃ cs, w.heap[g]? = some (.cells cs e (0, 0)) := by
  rcases h.2 with ⟨h1, _⟩ | ⟨g', cap', cur, h1, _, hh, _⟩
  · cases h1
  · cases h1; exact ⟨_, hh⟩

theorem ReachM.apart {base qe qg q5 q7 q8 go cap : Nat} {out : List Int} {vh : Value} {lp : List (Int × Int)} {W : World} (h : ReachM base qe qg q5 q7 q8 go cap out vh lp W) :
    go ≠ q5 ∧ go ≠ q7 ∧ go ≠ q8 ∧ vh.ownBlock ≠ some q5 ∧ vh.ownBlock ≠ some q7 ∧ vh.ownBlock ≠ some go ∧ q5 ≠ q8 ∧ q7 ≠ q8 := by
  obtain ⟨cs, hc⟩ := row_block h.row
  have e5 : W.heap[q5]? = _ := h.hgt
  have e7 : W.heap[q7]? = _ := h.box
  have e8 := h.heap.box
  have ne : ∀ {a b : Nat} {c d : Array Value} {s t : TypeId}, W.heap[a]? = some (.cells c s (0, 0)) → W.heap[b]? = some (.cells d t (0, 0)) → s ≠ t → a ≠ b := by
    intro a b c d s t h1 h2 hst e
    subst e
    rw [h1] at h2
    simp only [Option.some.injEq, Obj.cells.injEq] at h2
    exact hst h2.2.1
  exact ⟨ne hc e5 (by decide), ne hc e7 (by decide), ne hc e8 (by decide), cells_not_row e5 (by decide) h.heap.row, cells_not_row e7 (by decide) h.heap.row, cells_not_row hc (by decide) h.heap.row, ne e5 e8 (by decide), ne e7 e8 (by decide)⟩
/-- A cell's sill is set. -/
theorem ReachM.set {base qe qg q5 q7 q8 go cap : Nat} {out : List Int} {vh : Value} {lp : List (Int × Int)} {W : World} (h : ReachM base qe qg q5 q7 q8 go cap out vh lp W) (k : Nat) (m : Int) :
    ReachM base qe qg q5 q7 q8 go cap (out.set k m) vh lp (W.setCell ⟨go, k, none⟩ (.int .i64 m)) := by
  obtain ⟨n5, n7, n8, v5, v7, vg, _, _⟩ := h.apart
  refine ⟨heap_setCell_off h.hgt _ n5, by rw [List.length_set]; exact heap_setCell_off h.box _ n7, ?_, heap_setCell_off h.heap.box _ n8, h.heap.row.kept (grownBy_setAtR _ _ _ _) (.inr vg)⟩
  obtain ⟨s1, _⟩ := h.row.stored k (.int .i64 m)
  rw [ints_set] at s1
  rw [List.length_set]
  exact s1
/-- Behind a put. -/
theorem ReachM.putted {base qe qg q5 q7 q8 go cap : Nat} {out : List Int} {vh vh' : Value} {lp lp' : List (Int × Int)} {W W' : World} (h : ReachM base qe qg q5 q7 q8 go cap out vh lp W) (hp : HeapM base q8 W' vh' lp') (hK : Keeps (q8 :: vh.ownBlock.toList) W W') :
    ReachM base qe qg q5 q7 q8 go cap out vh' lp' W' := by
  obtain ⟨n5, n7, n8, v5, v7, vg, m5, m7⟩ := h.apart
  have nin : ∀ q, q ≠ q8 → vh.ownBlock ≠ some q → ¬ q ∈ q8 :: vh.ownBlock.toList := fun q h1 h2 hq => by
    rcases List.mem_cons.1 hq with h3 | h3
    · exact h1 h3
    · exact h2 (by simpa using h3)
  have hg := nin go n8 vg
  obtain ⟨cs, hc⟩ := row_block h.row
  refine ⟨hK.heap h.hgt (nin q5 m5 v5), hK.heap h.box (nin q7 m7 v7), ?_, hp⟩
  exact row_same h.row fun g hg' => by
    obtain rfl : go = g := by simpa [Value.ownBlock] using hg'
    exact hK.block go (lt_of_heap hc) hg
set_option maxHeartbeats 4000000 in
set_option maxRecDepth 100000 in
theorem reach_ok (base qe qg q5 q7 q8 go cap : Nat) (out : List Int) (vh : Value) (lp : List (Int × Int)) (c over h : Int) (w : World) (hM : ReachM base qe qg q5 q7 q8 go cap out vh lp w)
    (c0 : 0 ≤ c) (c1 : c < (out.length : Int)) (hbase : base ≤ w.heap.size) (hf : lp.length < 68719476736)
    (hh : ∀ W, Below w.heap.size w W → Calls Try.prog 49 #[.int .i64 c, .pointer (some ⟨qe, 0, none⟩), .pointer (some ⟨qg, 0, none⟩)] W fun e w' => e = .returned (.tuple #[.int .i64 h, .bool true]) ∧ Below W.heap.size W w') :
    Calls Try.prog 72 #[.int .i64 c, .int .i64 over, .pointer (some ⟨q5, 0, none⟩), .pointer (some ⟨q7, 0, none⟩), .pointer (some ⟨q8, 0, none⟩)] w fun e w' => (∃ u, e = .returned u) ∧
      ∃ out' vh' lp', ReachM base qe qg q5 q7 q8 go cap out' vh' lp' w' ∧ Keeps (go :: q8 :: vh.ownBlock.toList) w w' ∧ OwnTo w vh vh' ∧
        ((max h over < out.getD c.toNat 0 ∧ out' = out.set c.toNat (max h over) ∧ lp'.Perm ((c, max h over) :: lp)) ∨ (out.getD c.toNat 0 ≤ max h over ∧ out' = out ∧ lp' = lp ∧ vh' = vh)) := by
  obtain ⟨M, hMx⟩ : ∃ M, max h over = M := ⟨_, rfl⟩
  obtain ⟨O, hO⟩ : ∃ O, out.getD c.toNat 0 = O := ⟨_, rfl⟩
  rw [hMx, hO]
  have h5 := hM.hgt.cell
  have l5 := hM.hgt.lt
  have h7 := hM.box.cell
  have l7 := hM.box.lt
  have l8 := lt_of_heap hM.heap.box
  have hoc : w.cell? ⟨go, c.toNat, none⟩ = some (.int .i64 O) := by
    have := (hM.row.cellAt c.toNat (by omega)).trans (ints_get out c.toNat (by omega))
    rw [hO] at this; exact this
  have hof := hM.row.frozenAt
  have lgo := World.block_lt_of_cell? w _ hoc
  have hh0 := hh w (Below.refl _ _)
  have hx : h ≤ M ∧ over ≤ M ∧ (h = M ∨ over = M) := by omega
  obtain ⟨hx1, hx2, hx3⟩ := hx
  clear hh
  obtain ⟨n5, n7, n8, v5, v7, vg, m5, m7⟩ := hM.apart
  have n7' : ¬ q7 = go := fun e => n7 e.symm
  by_cases hlt : M < O
  · have hd : decide (M < O) = true := by simpa using hlt
    have HhM := Lib.hid hM; clear hM; have HhO := Lib.hid hO; clear hO; have Hhx3 := Lib.hid hx3; clear hx3; have Hn5 := Lib.hid n5; clear n5; have Hn8 := Lib.hid n8; clear n8; have Hv5 := Lib.hid v5; clear v5; have Hv7 := Lib.hid v7; clear v7; have Hvg := Lib.hid vg; clear vg; have Hm5 := Lib.hid m5; clear m5; have Hm7 := Lib.hid m7; clear m7
    go_enter Try.func72, Try.ntmps72
    go_wp2_with fail
    refine hh0.mono ?_
    rintro e w1 ⟨rfl, hb⟩
    obtain ⟨_, _, _⟩ := bk q5 hb l5
    obtain ⟨_, _, _⟩ := bk q7 hb l7
    obtain ⟨_, _, _⟩ := bk go hb lgo
    have hM1 := (HhM.out.below hb).set c.toNat M
    have hbs := hb.size
    have hk1 : Keeps (go :: q8 :: vh.ownBlock.toList) w (w1.setCell ⟨go, c.toNat, none⟩ (.int .i64 M)) := (Keeps.of_below hb _).toSet _ _ (.inl (by simp))
    have HhM1 := Lib.hid hM1; clear hM1; have Hhk1 := Lib.hid hk1; clear hk1; have Hhb := Lib.hid hb; clear hb
    go_wp2_with fail
    refine (put_ok base q8 vh lp c M _ HhM1.out.heap (by simp; omega) hf).mono ?_
    rintro e w3 ⟨⟨_, rfl⟩, vh', lp', hp, hH3, hK3, hO3⟩
    have hM3 := HhM1.out.putted hH3 hK3
    have Hhp := Lib.hid hp; clear hp; have HhH3 := Lib.hid hH3; clear hH3; have HhK3 := Lib.hid hK3; clear hK3; have HhO3 := Lib.hid hO3; clear hO3; have HhM3 := Lib.hid hM3; clear hM3
    go_wp2_with fail
    refine bodyPost_end (results_none rfl _ _ _) rfl ?_
    refine ⟨⟨_, rfl⟩, _, vh', lp', HhM3.out, Hhk1.out.step HhK3.out (fun i hi => .inl (List.mem_cons_of_mem _ hi)), ?_, .inl ⟨hlt, rfl, Hhp.out⟩⟩
    rcases HhO3.out with h1 | ⟨g, h1, h2⟩
    · exact .inl h1
    · exact .inr ⟨g, h1, by simp at h2; omega⟩
  · have hd : decide (M < O) = false := by simpa using hlt
    have HhM := Lib.hid hM; clear hM; have HhO := Lib.hid hO; clear hO; have Hhx3 := Lib.hid hx3; clear hx3; have Hn5 := Lib.hid n5; clear n5; have Hn8 := Lib.hid n8; clear n8; have Hv5 := Lib.hid v5; clear v5; have Hv7 := Lib.hid v7; clear v7; have Hvg := Lib.hid vg; clear vg; have Hm5 := Lib.hid m5; clear m5; have Hm7 := Lib.hid m7; clear m7
    go_enter Try.func72, Try.ntmps72
    go_wp2_with fail
    refine hh0.mono ?_
    rintro e w1 ⟨rfl, hb⟩
    obtain ⟨_, _, _⟩ := bk q5 hb l5
    obtain ⟨_, _, _⟩ := bk q7 hb l7
    obtain ⟨_, _, _⟩ := bk go hb lgo
    have hM1 := HhM.out.below hb
    have hk1 : Keeps (go :: q8 :: vh.ownBlock.toList) w w1 := Keeps.of_below hb _
    have HhM1 := Lib.hid hM1; clear hM1; have Hhk1 := Lib.hid hk1; clear hk1; have Hhb := Lib.hid hb; clear hb
    go_wp2_with fail
    refine bodyPost_end (results_none rfl _ _ _) rfl ?_
    exact ⟨⟨_, rfl⟩, out, vh, lp, HhM1.out, Hhk1.out, .inl rfl, .inr ⟨by omega, rfl, rfl, rfl⟩⟩
end Go.Proofs.Ytfbmjecikilghaa
