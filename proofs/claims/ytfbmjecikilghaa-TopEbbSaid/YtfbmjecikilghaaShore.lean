/- A shore that is drawn: the ground that is known. -/
import Derived.Test.YtfbmjecikilghaaSpan
import Derived.Test.YtfbmjecikilghaaShoreD
namespace Go.Proofs.Ytfbmjecikilghaa
open Go.RowKit

def KE (k : IntKind) (w : World) (b o : Nat) (n : Int) : Prop := w.cell? ⟨b, o, none⟩ = some (.int k n)
theorem ek_k (k : IntKind) (B : Nat) : EK B (KE k) := fun _ _ _ _ _ hB hb h => ek_cell hB hb h

/-- A slice that reads as a list of any length. -/
def SlW (k : IntKind) (B : Nat) (w : World) (a : Option Addr) (l : List Int) : Prop :=
  l.length ≤ 9223372036854775807 ∧ ∀ j (h : j < l.length), ∃ b off, a = some ⟨b, off, none⟩ ∧ b < B ∧ KE k w b (off + j) l[j]
theorem SlW.below {k : IntKind} {B : Nat} {w w' : World} {a : Option Addr} {l : List Int} (h : SlW k B w a l) (hB : Below B w w') : SlW k B w' a l :=
  ⟨h.1, fun j hj => let ⟨b, off, ha, hb, he⟩ := h.2 j hj; ⟨b, off, ha, hb, ek_k k B _ _ _ _ _ hB hb he⟩⟩
/-- The lists of a shore in memory. -/
structure ShoreW (B : Nat) (w : World) (s : ShoreL) (al am aw : Option Addr) : Prop where
  low : SlW .i16 B w al s.low
  more : SlW .u8 B w am s.more
  where_ : SlW .u8 B w aw s.where_
theorem ShoreW.below {B : Nat} {w w' : World} {s : ShoreL} {al am aw : Option Addr} (h : ShoreW B w s al am aw) (hb : Below B w w') : ShoreW B w' s al am aw :=
  ⟨h.low.below hb, h.more.below hb, h.where_.below hb⟩
abbrev shoreC (s : ShoreL) (al am aw : Option Addr) (cl cm cw : Nat) : Array Value := #[.int .u8 s.wide, .int .u8 s.high, .slice al s.low.length cl, .slice am s.more.length cm, .slice aw s.where_.length cw]

/-- An element at a rest. -/
theorem SlW.rest {k : IntKind} {B : Nat} {w : World} {a : Option Addr} {l : List Int} (h : SlW k B w a l) (hne : l ≠ []) (i : Nat) :
    ∃ b off, a = some ⟨b, off, none⟩ ∧ b < B ∧ w.cell? ⟨b, off + i % l.length, none⟩ = some (.int k (l.getD (i % l.length) 0)) := by
  have hl : 0 < l.length := List.length_pos_iff.2 hne
  have hi := Nat.mod_lt i hl
  obtain ⟨b, off, h1, h2, h3⟩ := h.2 (i % l.length) hi
  refine ⟨b, off, h1, h2, ?_⟩
  unfold KE at h3
  rw [h3, List.getD_eq_getElem?_getD, List.getElem?_eq_getElem hi]
  rfl

theorem row_sameS {w w' : World} {base n size : Nat} {e : TypeId} {v : Value} {xs : List Value} (h : w.ownsRow base e size v n xs) (hb : ∀ g, v.ownBlock = some g → w'.heap[g]? = w.heap[g]?) : w'.ownsRow base e size v n xs := by
  refine ⟨h.1, ?_⟩
  rcases h.2 with hn | ⟨g, cap, cur, rfl, hbg, hgg, rest⟩
  · exact .inl hn
  · exact .inr ⟨g, cap, cur, rfl, hbg, (hb g rfl).trans hgg, rest⟩
def KnownI (w : World) (s : ShoreL) (cs : Array Value) (W H : Int) (i : Value) (wr : World) : Prop :=
  ∃ (k : Nat) (v : Value), k ≤ s.wd * s.ht ∧ i = .int .i64 k ∧ wr.heap[w.heap.size]? = some (.cells cs 25 (0, 0)) ∧ wr.heap[w.heap.size + 1]? = some (.cells #[.int .i64 0, .int .i64 0, .int .i64 0, .slice none 0 0] 36 (0, 0)) ∧ wr.heap[w.heap.size + 2]? = some (.cells #[.int .i64 W, .int .i64 H, .int .i64 500, v] 36 (0, 0)) ∧
    wr.ownsRow (w.heap.size + 3) 46 2 v k (wcells ((List.range k).map s.span)) ∧ Below w.heap.size w wr ∧ w.heap.size + 3 ≤ wr.heap.size

set_option maxHeartbeats 4000000 in
set_option maxRecDepth 100000 in
theorem known_ok (B : Nat) (w : World) (s : ShoreL) (al am aw : Option Addr) (cl cm cw : Nat) (hs : s.ok) (hM : ShoreW B w s al am aw) (hB : B ≤ w.heap.size) :
    Calls Try.prog 6 #[.agg (shoreC s al am aw cl cm cw)] w fun e w' => ∃ v, e = .returned (.agg #[.int .i64 s.wd, .int .i64 s.ht, .int .i64 500, v]) ∧ w'.ownsRow w.heap.size 46 2 v (s.known).length (wcells s.known) ∧ Below w.heap.size w w' := by
  obtain ⟨d1, d2, d3, d4⟩ := s.dims hs
  obtain ⟨e1, e2⟩ := s.dims' hs
  obtain ⟨r1, hr1⟩ : ∃ r, s.wide % 4 = r := ⟨_, rfl⟩
  obtain ⟨r2, hr2⟩ : ∃ r, s.high % 4 = r := ⟨_, rfl⟩
  rw [hr1] at e1
  rw [hr2] at e2
  obtain ⟨N, hN⟩ : ∃ N : Nat, s.wd * s.ht = N := ⟨_, rfl⟩
  have hN16 : N ≤ 16 := by rw [← hN]; exact Nat.mul_le_mul d2 d4
  have hNI : (1 + r1) * (1 + r2) = (N : Int) := by rw [← e1, ← e2, ← hN]; exact_mod_cast rfl
  have hNw : wrap64 (N : Int) = N := w64 _ (by omega) (by omega)
  obtain ⟨ow0, ow1⟩ := hs.wide
  obtain ⟨oh0, oh1⟩ := hs.high
  have r10 : 0 ≤ r1 := by omega
  have r11 : r1 ≤ 3 := by omega
  have r20 : 0 ≤ r2 := by omega
  have r21 : r2 ≤ 3 := by omega
  have HM := Lib.hid hM
  have HO := Lib.hid hs
  obtain ⟨ws, hws⟩ : ∃ x, s.wide = x := ⟨_, rfl⟩
  obtain ⟨gs, hgs⟩ : ∃ x, s.high = x := ⟨_, rfl⟩
  rw [hws] at hr1 ow0 ow1
  rw [hgs] at hr2 oh0 oh1
  clear hM hs d1 d2 d3 d4
  obtain ⟨cs, hcs⟩ : ∃ cs, shoreC s al am aw cl cm cw = cs := ⟨_, rfl⟩
  have hcs' : shoreC s al am aw cl cm cw = #[.int .u8 ws, .int .u8 gs, .slice al s.low.length cl, .slice am s.more.length cm, .slice aw s.where_.length cw] := by rw [← hws, ← hgs]
  rw [hcs']
  have He1 := Lib.hid e1; clear e1; have He2 := Lib.hid e2; clear e2; have HhN := Lib.hid hN; clear hN; have Hhws := Lib.hid hws; clear hws; have Hhgs := Lib.hid hgs; clear hgs; have HhNI := Lib.hid hNI; clear hNI; have HhNw := Lib.hid hNw; clear hNw; have Hhcs := Lib.hid hcs; clear hcs; have Hhcs' := Lib.hid hcs'; clear hcs'
  go_enter Try.func6, Try.ntmps6
  go_upto_region 2 with fail
  have hNI := HhNI.out
  have hNw := HhNw.out
  obtain ⟨dw, hW⟩ : ∃ x, 1 + r1 = x := ⟨_, rfl⟩
  obtain ⟨dh, hH⟩ : ∃ x, 1 + r2 = x := ⟨_, rfl⟩
  have w1 : 1 ≤ dw := by omega
  have w4 : dw ≤ 4 := by omega
  have h1 : 1 ≤ dh := by omega
  have h4 : dh ≤ 4 := by omega
  rw [hW, hH] at hNI
  simp only [hW, hH]
  clear r10 r11 r20 r21
  have HhW := Lib.hid hW; clear hW; have HhH := Lib.hid hH; clear hH; have Hhr1 := Lib.hid hr1; clear hr1; have Hhr2 := Lib.hid hr2; clear hr2
  go_wp2_with fail
  go_loopw [22] (fun i wr => KnownI w s #[.int .u8 ws, .int .u8 gs, .slice al s.low.length cl, .slice am s.more.length cm, .slice aw s.where_.length cw] dw dh i wr) (fun i _ => N - (intOf i).toNat)
  case atStart =>
    exact ⟨0, _, Nat.zero_le _, rfl, heap_alloc_off (heap_alloc_off (heap_alloc_at' _ _ rfl) _) _, heap_alloc_off (heap_alloc_at' _ _ (by simp)) _, heap_alloc_at' _ _ (by simp), World.ownsRow_nil _ _ _ _, (by repeat (first | exact Below.refl _ _ | (refine bl_setCell ?_ _ _ ?_; rotate_left; focus (first | omega | (simp; done) | (simp; omega))) | refine bl_alloc ?_ _ | refine bl_step ?_ (by assumption) | refine bl_drew ?_ | refine bl_drewN ?_ _)), by simp⟩
  case round =>
    obtain ⟨k, v, hk, rfl, x0, x1, x2, hrow, hb, hsz⟩ := hrel
    have x0c := cells_of x0
    have x0l := lt_of_heap x0
    have hvo := fun g hg => (hrow.lt g hg).2
    have hvb := fun g hg => (hrow.lt g hg).1
    by_cases hlt : k < N
    · obtain ⟨ki, hki⟩ : ∃ i : Int, (k : Int) = i := ⟨_, rfl⟩
      have ki0 : 0 ≤ ki := by omega
      have ki1 : ki < N := by omega
      rw [hki]
      obtain ⟨L, hL⟩ : ∃ L : Int, (s.low.length : Int) = L := ⟨_, rfl⟩
      have hMr := HM.out.below (hb.mono hB)
      have Hx0 := Lib.hid x0; clear x0; have Hx1 := Lib.hid x1; clear x1; have Hx2 := Lib.hid x2; clear x2; have Hhrow := Lib.hid hrow; clear hrow; have Hhb := Lib.hid hb; clear hb; have Hhsz := Lib.hid hsz; clear hsz; have Hhki := Lib.hid hki; clear hki; have Hhk := Lib.hid hk; clear hk; have HhMr := Lib.hid hMr; clear hMr
      obtain ⟨bL, hbL⟩ : ∃ x, decide (0 < L) = x := ⟨_, rfl⟩
      go_upto_if 29 with fail
      go_cut [30] from 30 to 41 (fun _ wx => wx.heap[wr.heap.size]? = some (.cells #[.int .i64 (s.lo k), .int .i64 0] 46 (0, 0)) ∧ Below wr.heap.size wr wx)
      case first =>
        by_cases hlow : s.low = []
        · have e : s.lo k = 0 := by unfold ShoreL.lo; rw [if_pos hlow]
          have hl0 : s.low.length = 0 := by rw [hlow]; rfl
          have hd : decide (0 < L) = false := decide_eq_false (by omega)
          obtain rfl : bL = false := by rw [← hbL, hd]
          clear hlow hl0
          have He := Lib.hid e; clear e
          go_wp2_with fail
          go_meet
          rw [He.out]
          exact ⟨heap_alloc_at _ _, (by repeat (first | exact Below.refl _ _ | (refine bl_setCell ?_ _ _ ?_; rotate_left; focus (first | omega | (simp; done) | (simp; omega))) | refine bl_alloc ?_ _ | refine bl_step ?_ (by assumption) | refine bl_drew ?_ | refine bl_drewN ?_ _))⟩
        · have hll : 0 < s.low.length := List.length_pos_iff.2 hlow
          have hLb : s.low.length ≤ 9223372036854775807 := HM.out.low.1
          have L0 : 0 < L := by omega
          have L1 : ¬ L = 0 := by omega
          have L2 : L ≤ 9223372036854775807 := by omega
          have hdL : decide (0 < L) = true := by simpa using L0
          obtain rfl : bL = true := by rw [← hbL, hdL]
          obtain ⟨b, off, ha, hbB, hc⟩ := HhMr.out.low.rest hlow k
          have hbl := HO.out.low _ (getD_mem hlow k)
          obtain ⟨J, hJ⟩ : ∃ J : Int, ki % L = J := ⟨_, rfl⟩
          have hJn : k % s.low.length = J.toNat := by rw [← hJ, ← Hhki.out, ← hL]; omega
          have J0 : 0 ≤ J := by rw [← hJ]; exact Int.emod_nonneg _ L1
          have J1 : J < L := by rw [← hJ]; exact Int.emod_lt_of_pos _ L0
          obtain ⟨x, hx⟩ : ∃ x, s.low.getD (k % s.low.length) 0 = x := ⟨_, rfl⟩
          have e : s.lo k = x.tmod 5000 := by unfold ShoreL.lo; rw [if_neg hlow, hx]
          rw [hx, hJn] at hc
          rw [hx] at hbl
          obtain ⟨xl, xh⟩ := hbl
          obtain ⟨lo, hlo⟩ : ∃ lo, x.tmod 5000 = lo := ⟨_, rfl⟩
          have hlob := tmod_bd (x := x)
          rw [hlo] at hlob e
          obtain ⟨lo0, lo1⟩ := hlob
          have bl := World.block_lt_of_cell? wr _ hc
          subst ha
          have Hhlow := Lib.hid hlow; clear hlow; have Hhll := Lib.hid hll; clear hll; have HhJn := Lib.hid hJn; clear hJn; have Hhx := Lib.hid hx; clear hx; have He := Lib.hid e; clear e
          go_upto_region 7 with fail
          have z0 : (wr.alloc (.cells #[.int .i64 0, .int .i64 0] 46)).heap[wr.heap.size]? = some (.cells #[.int .i64 0, .int .i64 0] 46 (0, 0)) := heap_alloc_at _ _
          have zc : (wr.alloc (.cells #[.int .i64 0, .int .i64 0] 46)).cell? ⟨b, off + J.toNat, none⟩ = some (.int .i16 x) := (World.cell?_of_block (a := ⟨b, off + J.toNat, none⟩) (Below.heap_alloc _ _ _ bl)).trans hc
          have zs : (wr.alloc (.cells #[.int .i64 0, .int .i64 0] 46)).heap[w.heap.size]? = some (.cells #[.int .u8 ws, .int .u8 gs, .slice (some ⟨b, off, none⟩) s.low.length cl, .slice am s.more.length cm, .slice aw s.where_.length cw] 25 (0, 0)) := heap_alloc_off Hx0.out _
          have hbz : Below wr.heap.size wr (wr.alloc (.cells #[.int .i64 0, .int .i64 0] 46)) := (by repeat (first | exact Below.refl _ _ | (refine bl_setCell ?_ _ _ ?_; rotate_left; focus (first | omega | (simp; done) | (simp; omega))) | refine bl_alloc ?_ _ | refine bl_step ?_ (by assumption) | refine bl_drew ?_ | refine bl_drewN ?_ _))
          have zl : b < (wr.alloc (.cells #[.int .i64 0, .int .i64 0] 46)).heap.size := by simp; omega
          generalize (wr.alloc (.cells #[.int .i64 0, .int .i64 0] 46)) = wz at z0 zc zs hbz zl ⊢
          have zsc := cells_of zs
          have zsl := lt_of_heap zs
          have z0c := cells_of z0
          have z0f := frozen_of z0
          have z0l := lt_of_heap z0
          have hI : Below wz.heap.size wz wz.drew := (Below.refl _ _).drew
          clear x0c hc
          have Hzs := Lib.hid zs; clear zs; have Hz0 := Lib.hid z0; clear z0; have Hhbz := Lib.hid hbz; clear hbz
          refine wp_region_ord (fun W => Below wz.heap.size wz W) [] [0, 1, 2, 3, 4, 5, 6, 7, 8, 9, 10, 11] (some 12) (by kernel_rfl) (by kernel_rfl) hI ?_
          refine OrdI_snk ?_
          (apply StI_plain (w0 := wz.drew) hI rfl rfl rfl rfl; (focus (intro W hW K hK; obtain ⟨_, _⟩ := bk w.heap.size hW zsl; obtain ⟨_, _⟩ := bk b hW zl; go_step; exact hK)); (focus rfl)); (apply StI_plain (w0 := wz.drew) hI rfl rfl rfl rfl; (focus (intro W hW K hK; obtain ⟨_, _⟩ := bk w.heap.size hW zsl; obtain ⟨_, _⟩ := bk b hW zl; go_step; exact hK)); (focus rfl)); (apply StI_plain (w0 := wz.drew) hI rfl rfl rfl rfl; (focus (intro W hW K hK; obtain ⟨_, _⟩ := bk w.heap.size hW zsl; obtain ⟨_, _⟩ := bk b hW zl; go_step; exact hK)); (focus rfl)); (apply StI_plain (w0 := wz.drew) hI rfl rfl rfl rfl; (focus (intro W hW K hK; obtain ⟨_, _⟩ := bk w.heap.size hW zsl; obtain ⟨_, _⟩ := bk b hW zl; go_step; exact hK)); (focus rfl)); (apply StI_plain (w0 := wz.drew) hI rfl rfl rfl rfl; (focus (intro W hW K hK; obtain ⟨_, _⟩ := bk w.heap.size hW zsl; obtain ⟨_, _⟩ := bk b hW zl; go_step; exact hK)); (focus rfl)); (apply StI_plain (w0 := wz.drew) hI rfl rfl rfl rfl; (focus (intro W hW K hK; obtain ⟨_, _⟩ := bk w.heap.size hW zsl; obtain ⟨_, _⟩ := bk b hW zl; go_step; exact hK)); (focus rfl)); (apply StI_plain (w0 := wz.drew) hI rfl rfl rfl rfl; (focus (intro W hW K hK; obtain ⟨_, _⟩ := bk w.heap.size hW zsl; obtain ⟨_, _⟩ := bk b hW zl; go_step; exact hK)); (focus rfl)); (apply StI_plain (w0 := wz.drew) hI rfl rfl rfl rfl; (focus (intro W hW K hK; obtain ⟨_, _⟩ := bk w.heap.size hW zsl; obtain ⟨_, _⟩ := bk b hW zl; go_step; exact hK)); (focus rfl)); (apply StI_plain (w0 := wz.drew) hI rfl rfl rfl rfl; (focus (intro W hW K hK; obtain ⟨_, _⟩ := bk w.heap.size hW zsl; obtain ⟨_, _⟩ := bk b hW zl; go_step; exact hK)); (focus rfl)); (apply StI_plain (w0 := wz.drew) hI rfl rfl rfl rfl; (focus (intro W hW K hK; obtain ⟨_, _⟩ := bk w.heap.size hW zsl; obtain ⟨_, _⟩ := bk b hW zl; go_step; exact hK)); (focus rfl)); (apply StI_plain (w0 := wz.drew) hI rfl rfl rfl rfl; (focus (intro W hW K hK; obtain ⟨_, _⟩ := bk w.heap.size hW zsl; obtain ⟨_, _⟩ := bk b hW zl; go_step; exact hK)); (focus rfl)); (apply StI_plain (w0 := wz.drew) hI rfl rfl rfl rfl; (focus (intro W hW K hK; obtain ⟨_, _⟩ := bk w.heap.size hW zsl; obtain ⟨_, _⟩ := bk b hW zl; go_step; exact hK)); (focus rfl))
          (apply StI_eff rfl; go_wp2_with (first | fail))
          refine onNormal_last ?_
          go_wp2_with fail
          go_meet
          rw [He.out]
          exact ⟨(heap_setCell_at (heap_drew' Hz0.out) _).trans rfl, bl_setCell (bl_drew Hhbz.out) _ _ (Nat.le_refl _)⟩
      case rest =>
        obtain ⟨hq, hbq⟩ := hcut
        have hqc := cells_of hq
        have hqf := frozen_of hq
        have hql := lt_of_heap hq
        have y0 := heap_below hbq Hx0.out
        have y1 := heap_below hbq Hx1.out
        have y2 := heap_below hbq Hx2.out
        have hrw : wc.ownsRow (w.heap.size + 3) 46 2 v k (wcells ((List.range k).map s.span)) := Hhrow.out.kept (below_grown hbq) (by cases v.ownBlock <;> simp)
        have hbw := bl_step Hhb.out hbq
        have y0c := cells_of y0
        have y0l := lt_of_heap y0
        obtain ⟨lo, hlo⟩ : ∃ x, s.lo k = x := ⟨_, rfl⟩
        have hlob := s.lo_bd k
        rw [hlo] at hlob hq hqc
        obtain ⟨lo0, lo1⟩ := hlob
        have hMc := HhMr.out.below (hbq.mono (by have := Hhsz.out; omega))
        obtain ⟨q, hqe⟩ : ∃ q, wr.heap.size = q := ⟨_, rfl⟩
        have hsz' := Hhsz.out
        rw [hqe] at hq hqc hqf hql hsz' hvo ⊢
        have hnw : w.heap.size ≠ q := by omega
        obtain ⟨L2, hL2⟩ : ∃ L : Int, (s.more.length : Int) = L := ⟨_, rfl⟩
        obtain ⟨bM, hbM⟩ : ∃ x, decide (0 < L2) = x := ⟨_, rfl⟩
        clear Hx0 Hx1 Hx2 Hhrow Hhb hbq x0c
        have Hhq := Lib.hid hq; clear hq; have Hy0 := Lib.hid y0; clear y0; have Hy1 := Lib.hid y1; clear y1; have Hy2 := Lib.hid y2; clear y2; have Hhrw := Lib.hid hrw; clear hrw; have Hhbw := Lib.hid hbw; clear hbw; have Hhlo := Lib.hid hlo; clear hlo; have HhMc := Lib.hid hMc; clear hMc; have Hhqe := Lib.hid hqe; clear hqe
        go_upto_if 48 with fail
        go_cut [49] from 49 to 62 (fun _ wx => wx.heap[q]? = some (.cells #[.int .i64 lo, .int .i64 (lo + s.add k)] 46 (0, 0)) ∧ Below q wc wx)
        case first =>
          have m0 : (wc.setCell ⟨q, 1, none⟩ (.int .i64 lo)).heap[q]? = some (.cells #[.int .i64 lo, .int .i64 lo] 46 (0, 0)) := (heap_setCell_at Hhq.out _).trans rfl
          have m1 : Below q wc (wc.setCell ⟨q, 1, none⟩ (.int .i64 lo)) := (Below.refl _ _).setCell (p := ⟨q, 1, none⟩) (Nat.le_refl _) _
          by_cases hmore : s.more = []
          · have e : s.add k = 0 := by unfold ShoreL.add; rw [if_pos hmore]
            have hl0 : s.more.length = 0 := by rw [hmore]; rfl
            have hd : decide (0 < L2) = false := decide_eq_false (by omega)
            obtain rfl : bM = false := by rw [← hbM, hd]
            clear hmore hl0
            have He := Lib.hid e; clear e; have Hm0 := Lib.hid m0; clear m0; have Hm1 := Lib.hid m1; clear m1
            go_wp2_with fail
            go_meet
            rw [He.out, Int.add_zero]
            exact ⟨Hm0.out, Hm1.out⟩
          · have hll : 0 < s.more.length := List.length_pos_iff.2 hmore
            have hLb : s.more.length ≤ 9223372036854775807 := HM.out.more.1
            have L0 : 0 < L2 := by omega
            have L1 : ¬ L2 = 0 := by omega
            have L3 : L2 ≤ 9223372036854775807 := by omega
            have hd : decide (0 < L2) = true := decide_eq_true L0
            obtain rfl : bM = true := by rw [← hbM, hd]
            obtain ⟨b, off, ha, hbB, hc⟩ := HhMc.out.more.rest hmore k
            have hbl := HO.out.more _ (getD_mem hmore k)
            obtain ⟨J, hJ⟩ : ∃ J : Int, ki % L2 = J := ⟨_, rfl⟩
            have hJn : k % s.more.length = J.toNat := by rw [← hJ, ← Hhki.out, ← hL2]; omega
            have J0 : 0 ≤ J := by rw [← hJ]; exact Int.emod_nonneg _ L1
            have J1 : J < L2 := by rw [← hJ]; exact Int.emod_lt_of_pos _ L0
            obtain ⟨x, hx⟩ : ∃ x, s.more.getD (k % s.more.length) 0 = x := ⟨_, rfl⟩
            have e : s.add k = x := by unfold ShoreL.add; rw [if_neg hmore, hx]
            rw [hx, hJn] at hc
            rw [hx] at hbl
            obtain ⟨xl, xh⟩ := hbl
            have bl := World.block_lt_of_cell? wc _ hc
            subst ha
            have hbq : b ≠ q := by omega
            have hqb : ¬ q = b := fun e => hbq e.symm
            have zc : (wc.setCell ⟨q, 1, none⟩ (.int .i64 lo)).cell? ⟨b, off + J.toNat, none⟩ = some (.int .u8 x) := (World.cell?_of_block (a := ⟨b, off + J.toNat, none⟩) (Below.heap_setCell _ _ _ _ (fun e => hbq e))).trans hc
            have zs := heap_setCell_off (o := 1) Hy0.out (.int .i64 lo) (show q ≠ w.heap.size by omega)
            have zl : b < (wc.setCell ⟨q, 1, none⟩ (.int .i64 lo)).heap.size := by simpa using bl
            clear hqc hqf y0c hc
            have Hhmore := Lib.hid hmore; clear hmore; have Hhll := Lib.hid hll; clear hll; have HhJn := Lib.hid hJn; clear hJn; have Hhx := Lib.hid hx; clear hx; have He := Lib.hid e; clear e; have Hm0 := Lib.hid m0; clear m0; have Hm1 := Lib.hid m1; clear m1; have Hzs := Lib.hid zs; clear zs
            go_upto_region 10 with fail
            generalize (wc.setCell ⟨q, 1, none⟩ (.int .i64 lo)) = wz at Hm0 Hm1 Hzs zc zl ⊢
            have zsc := cells_of Hzs.out
            have zsl := lt_of_heap Hzs.out
            have z0c := cells_of Hm0.out
            have z0f := frozen_of Hm0.out
            have z0l := lt_of_heap Hm0.out
            have hI : Below wz.heap.size wz wz.drew := (Below.refl _ _).drew
            refine wp_region_ord (fun W => Below wz.heap.size wz W) [] [0, 1, 2, 3, 4, 5, 6, 7, 8, 9, 10, 11, 12, 13] (some 14) (by kernel_rfl) (by kernel_rfl) hI ?_
            refine OrdI_snk ?_
            (apply StI_plain (w0 := wz.drew) hI rfl rfl rfl rfl; (focus (intro W hW K hK; obtain ⟨_, _⟩ := bk w.heap.size hW zsl; obtain ⟨_, _⟩ := bk b hW zl; obtain ⟨_, _⟩ := bk q hW z0l; go_step; exact hK)); (focus rfl)); (apply StI_plain (w0 := wz.drew) hI rfl rfl rfl rfl; (focus (intro W hW K hK; obtain ⟨_, _⟩ := bk w.heap.size hW zsl; obtain ⟨_, _⟩ := bk b hW zl; obtain ⟨_, _⟩ := bk q hW z0l; go_step; exact hK)); (focus rfl)); (apply StI_plain (w0 := wz.drew) hI rfl rfl rfl rfl; (focus (intro W hW K hK; obtain ⟨_, _⟩ := bk w.heap.size hW zsl; obtain ⟨_, _⟩ := bk b hW zl; obtain ⟨_, _⟩ := bk q hW z0l; go_step; exact hK)); (focus rfl)); (apply StI_plain (w0 := wz.drew) hI rfl rfl rfl rfl; (focus (intro W hW K hK; obtain ⟨_, _⟩ := bk w.heap.size hW zsl; obtain ⟨_, _⟩ := bk b hW zl; obtain ⟨_, _⟩ := bk q hW z0l; go_step; exact hK)); (focus rfl)); (apply StI_plain (w0 := wz.drew) hI rfl rfl rfl rfl; (focus (intro W hW K hK; obtain ⟨_, _⟩ := bk w.heap.size hW zsl; obtain ⟨_, _⟩ := bk b hW zl; obtain ⟨_, _⟩ := bk q hW z0l; go_step; exact hK)); (focus rfl)); (apply StI_plain (w0 := wz.drew) hI rfl rfl rfl rfl; (focus (intro W hW K hK; obtain ⟨_, _⟩ := bk w.heap.size hW zsl; obtain ⟨_, _⟩ := bk b hW zl; obtain ⟨_, _⟩ := bk q hW z0l; go_step; exact hK)); (focus rfl)); (apply StI_plain (w0 := wz.drew) hI rfl rfl rfl rfl; (focus (intro W hW K hK; obtain ⟨_, _⟩ := bk w.heap.size hW zsl; obtain ⟨_, _⟩ := bk b hW zl; obtain ⟨_, _⟩ := bk q hW z0l; go_step; exact hK)); (focus rfl)); (apply StI_plain (w0 := wz.drew) hI rfl rfl rfl rfl; (focus (intro W hW K hK; obtain ⟨_, _⟩ := bk w.heap.size hW zsl; obtain ⟨_, _⟩ := bk b hW zl; obtain ⟨_, _⟩ := bk q hW z0l; go_step; exact hK)); (focus rfl)); (apply StI_plain (w0 := wz.drew) hI rfl rfl rfl rfl; (focus (intro W hW K hK; obtain ⟨_, _⟩ := bk w.heap.size hW zsl; obtain ⟨_, _⟩ := bk b hW zl; obtain ⟨_, _⟩ := bk q hW z0l; go_step; exact hK)); (focus rfl)); (apply StI_plain (w0 := wz.drew) hI rfl rfl rfl rfl; (focus (intro W hW K hK; obtain ⟨_, _⟩ := bk w.heap.size hW zsl; obtain ⟨_, _⟩ := bk b hW zl; obtain ⟨_, _⟩ := bk q hW z0l; go_step; exact hK)); (focus rfl)); (apply StI_plain (w0 := wz.drew) hI rfl rfl rfl rfl; (focus (intro W hW K hK; obtain ⟨_, _⟩ := bk w.heap.size hW zsl; obtain ⟨_, _⟩ := bk b hW zl; obtain ⟨_, _⟩ := bk q hW z0l; go_step; exact hK)); (focus rfl)); (apply StI_plain (w0 := wz.drew) hI rfl rfl rfl rfl; (focus (intro W hW K hK; obtain ⟨_, _⟩ := bk w.heap.size hW zsl; obtain ⟨_, _⟩ := bk b hW zl; obtain ⟨_, _⟩ := bk q hW z0l; go_step; exact hK)); (focus rfl)); (apply StI_plain (w0 := wz.drew) hI rfl rfl rfl rfl; (focus (intro W hW K hK; obtain ⟨_, _⟩ := bk w.heap.size hW zsl; obtain ⟨_, _⟩ := bk b hW zl; obtain ⟨_, _⟩ := bk q hW z0l; go_step; exact hK)); (focus rfl)); (apply StI_plain (w0 := wz.drew) hI rfl rfl rfl rfl; (focus (intro W hW K hK; obtain ⟨_, _⟩ := bk w.heap.size hW zsl; obtain ⟨_, _⟩ := bk b hW zl; obtain ⟨_, _⟩ := bk q hW z0l; go_step; exact hK)); (focus rfl))
            (apply StI_eff rfl; go_wp2_with (first | fail))
            refine onNormal_last ?_
            go_wp2_with fail
            go_meet
            rw [He.out]
            exact ⟨(heap_setCell_at (heap_drew' Hm0.out) _).trans rfl, (Hm1.out.drew).setCell (p := ⟨q, 1, none⟩) (Nat.le_refl _) _⟩
        case rest =>
          obtain ⟨hq2, hbq2⟩ := hcut
          have v0 := (hbq2.block _ (by omega)).trans Hy0.out
          have v1 := (hbq2.block _ (by omega)).trans Hy1.out
          have v2 := (hbq2.block _ (by omega)).trans Hy2.out
          have hr2 : wc.ownsRow (w.heap.size + 3) 46 2 v k (wcells ((List.range k).map s.span)) := row_sameS Hhrw.out fun g hg => hbq2.block g (hvo g hg)
          have hbw2 : Below w.heap.size w wc := Hhbw.out.trans (hbq2.mono (by omega))
          have hszc : w.heap.size + 3 ≤ wc.heap.size := by have := lt_of_heap hq2; omega
          obtain ⟨av, cv, rfl⟩ := row_len hr2
          have v2c := cells_of v2
          have v2f := frozen_of v2
          have v2l := lt_of_heap v2
          have hq2c := cells_of hq2
          have hq2l := lt_of_heap hq2
          obtain ⟨i0, hinf, hz0, hz1, hz2⟩ := info_parts info36
          have hmax : k + 1 ≤ maxLen := by unfold maxLen; omega
          obtain ⟨hi, hhi⟩ : ∃ x, lo + s.add k = x := ⟨_, rfl⟩
          rw [hhi] at hq2 hq2c
          have hnews := news2 wc (.int .i64 lo) (.int .i64 hi) 46
          have nv : ∀ b, b < w.heap.size + 3 → some b ≠ (Value.slice av k cv).ownBlock := fun b hb h => by have := hvb b h.symm; omega
          have hsn : (List.range (k + 1)).map s.span = (List.range k).map s.span ++ [(lo, hi)] := by rw [range_snoc, ← hhi, ← Hhlo.out]; rfl
          clear hbq2 Hy0 Hy1 Hy2 Hhrw Hhbw Hhq
          have Hv0 := Lib.hid v0; clear v0; have Hv1 := Lib.hid v1; clear v1; have Hv2 := Lib.hid v2; clear v2; have Hhbw2 := Lib.hid hbw2; clear hbw2; have Hhq2 := Lib.hid hq2; clear hq2; have Hhhi := Lib.hid hhi; clear hhi; have Hhsn := Lib.hid hsn; clear hsn; have Hnv := Lib.hid nv; clear nv
          go_wp2_with (at_builtin; refine wpList_append_own _ rfl _ _ 34 rfl (w.heap.size + 3) 46 i0 (.agg #[.int .i64 0, .int .i64 0]) 2 16 Try.underlying34 hinf hz0 hz1 hz2 rfl (by decide) _ _ _ rfl (hr2.alloc _) ⟨wc.heap.size, 0, none⟩ 1 1 [.int .i64 lo, .int .i64 hi] rfl rfl hnews (by simp [Value.oneCell']) (by omega) (by omega) (by simp; omega) ?_; intro v' w4 hown' hgrow _; obtain ⟨g', cap', rfl⟩ := ownsRow_succ hown'; replace hgrow : (wc.alloc (.cells #[.int .i64 lo, .int .i64 hi] 46)).grownBy w4 (Value.slice av k cv).ownBlock := hgrow; have k0 := (hgrow.block w.heap.size (by simp; omega) (Hnv.out _ (by omega))).trans (heap_alloc_off Hv0.out _); have k1 := (hgrow.block (w.heap.size + 1) (by simp; omega) (Hnv.out _ (by omega))).trans (heap_alloc_off Hv1.out _); have k2 := (hgrow.block (w.heap.size + 2) (by simp; omega) (Hnv.out _ (by omega))).trans (heap_alloc_off Hv2.out _); have hb4 : Below w.heap.size w w4 := (bl_alloc Hhbw2.out _).grown hgrow (by simp; omega) (fun k hk => by have := hvb k hk; omega); have hs4 : w.heap.size + 3 ≤ w4.heap.size := (by have := hgrow.size; simp at this; omega); have k2c := cells_of k2; have k2f := frozen_of k2; have k2l := lt_of_heap k2; clear v2c v2f hq2c hnews; have Hk0 := Lib.hid k0; clear k0; have Hk1 := Lib.hid k1; clear k1; have Hk2 := Lib.hid k2; clear k2; have Hhb4 := Lib.hid hb4; clear hb4; have Hown := Lib.hid hown'; clear hown' hgrow)
          refine ⟨⟨k + 1, _, by rw [HhN.out]; omega, by rw [← Hhki.out]; go_num, heap_setCell_off Hk0.out _ (by omega), heap_setCell_off Hk1.out _ (by omega), (heap_setCell_at Hk2.out _).trans rfl, ?_, bl_setCell Hhb4.out _ _ (by show _ ≤ w.heap.size + 2; omega), by simp; omega⟩, by simp only [intOf]; omega⟩
          rw [Hhsn.out, wcells_snoc]
          exact ownsRow_setCell_below Hown.out (by show w.heap.size + 2 < w.heap.size + 3; omega) _
    · obtain rfl : k = N := by have := HhN.out; omega
      have hkn : (List.range k).map s.span = s.known := by unfold ShoreL.known; rw [HhN.out]
      have hkl : s.known.length = k := by rw [← hkn]; simp
      rw [hkn] at hrow
      obtain ⟨av, cv, rfl⟩ := row_len hrow
      have x1c := cells_of x1
      have x1f := frozen_of x1
      have x1l := lt_of_heap x1
      have x2c := cells_of x2
      have x2l := lt_of_heap x2
      have Hx0 := Lib.hid x0; clear x0; have Hx1 := Lib.hid x1; clear x1; have Hx2 := Lib.hid x2; clear x2; have Hhrow := Lib.hid hrow; clear hrow; have Hhb := Lib.hid hb; clear hb; have Hhkn := Lib.hid hkn; clear hkn; have Hhkl := Lib.hid hkl; clear hkl; have Hhk := Lib.hid hk; clear hk
      go_wp2_with fail
      ((try simp only [Exit.inBlock, Exit.then]); refine bodyPost_ret (v := .agg #[.int .i64 dw, .int .i64 dh, .int .i64 500, .slice av k cv]) (by simp [results, Try.results6, go_sem, *]) rfl ?_)
      refine ⟨.slice av k cv, ?_, ?_, ?_⟩
      · rw [He1.out, He2.out, HhW.out, HhH.out]
      · rw [Hhkl.out]
        refine row_mono (base := w.heap.size + 3) ?_ (by omega)
        repeat (first | exact Hhrow.out | refine ownsRow_setCell_below ?_ (by first | (show w.heap.size + 1 < w.heap.size + 3; omega)) _)
      · repeat (first | exact Hhb.out | refine bl_setCell ?_ _ _ (by show _ ≤ w.heap.size + 1; omega))
end Go.Proofs.Ytfbmjecikilghaa
