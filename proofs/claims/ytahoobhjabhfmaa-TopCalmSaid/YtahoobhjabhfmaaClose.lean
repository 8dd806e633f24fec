/- dike: Closing. -/
import Derived.Test.YtahoobhjabhfmaaGateC
import Derived.Test.YtahoobhjabhfmaaCloseD
import Derived.Test.YtahoobhjabhfmaaWin
namespace Go.Proofs.Ytahoobhjabhfmaa
open Go.RowKit

/-- Between two steps. -/
def CloseI (w0 : World) (b : Int × Int) (ws : List (Int × Int)) (l : List Stp) (p : Nat) (e i : Value) (wr : World) : Prop :=
  ∃ k : Nat, k ≤ l.length ∧ i = .int .i64 k ∧ wr.ownsRow (p + 1) 36 2 e k (wcells (closeT b ws (l.take k))) ∧
    wr.heap[p]? = some (.cells #[.int .i64 (allT b (closeT b ws (l.take k))).1, .int .i64 (allT b (closeT b ws (l.take k))).2] 36 (0, 0)) ∧
    wr.heap[w0.heap.size]? = some (.cells #[.int .i64 b.1, .int .i64 b.2] 36 (0, 0)) ∧ wr.heap[w0.heap.size + 1]? = some (.cells #[.int .i64 0, .int .i64 0] 36 (0, 0)) ∧ Below w0.heap.size w0 wr ∧ p + 1 ≤ wr.heap.size

theorem row_form {w : World} {base n : Nat} {v : Value} {xs : List Value} (h : w.ownsRow base 36 2 v n xs) (hn : 0 < n) : ∃ g cap, v = .slice (some ⟨g, 0, none⟩) n cap ∧ base ≤ g ∧ g < w.heap.size := by
  rcases h.2 with ⟨_, h0⟩ | ⟨g, cap, cur, hv, hb, hg, _⟩
  · omega
  · exact ⟨g, cap, hv, hb, lt_of_heap hg⟩
theorem take_ne {l : List Int} {j : Nat} (h0 : j ≠ 0) (hj : j < l.length) : l.take j ≠ [] := by
  intro h
  have h1 : (l.take j).length = 0 := by rw [h]; rfl
  rw [List.length_take] at h1
  omega
theorem cell_two_off {w : World} {q b o : Nat} {u v : Value} (h : b ≠ q) : ((w.setCell ⟨q, 0, none⟩ u).setCell ⟨q, 1, none⟩ v).cell? ⟨b, o, none⟩ = w.cell? ⟨b, o, none⟩ :=
  World.cell?_of_block (a := ⟨b, o, none⟩) ((Below.heap_setCell _ _ _ _ h).trans (Below.heap_setCell _ _ _ _ h))
theorem wcells_get (l : List (Int × Int)) (k : Nat) (h : k < l.length) : (wcells l)[k * 2]? = some (.int .i64 l[k].1) ∧ (wcells l)[k * 2 + 1]? = some (.int .i64 l[k].2) := by
  induction l generalizing k with
  | nil => simp at h
  | cons u l ih =>
    have hw : wcells (u :: l) = .int .i64 u.1 :: .int .i64 u.2 :: wcells l := by simp [wcells]
    cases k with
    | zero => rw [hw]; exact ⟨rfl, rfl⟩
    | succ k =>
      have := ih k (by simpa using h)
      rw [hw, show (k + 1) * 2 = k * 2 + 1 + 1 from by omega]
      simpa using this

/-- In the midst of a step: the boxes and the row of ends. -/
structure WbF (B : Nat) (w : World) (b0 b1 : Int) (p q : Nat) (e : Value) (ends : List (Int × Int)) (s : Stp) (aa : Option Addr) (ca n : Nat) (a1 a2 : Int) (wb : World) : Prop where
  row : wb.ownsRow (p + 1) 36 2 e n (wcells ends)
  all : wb.heap[p]? = some (.cells #[.int .i64 a1, .int .i64 a2] 36 (0, 0))
  begin : wb.heap[w.heap.size]? = some (.cells #[.int .i64 b0, .int .i64 b1] 36 (0, 0))
  res : wb.heap[w.heap.size + 1]? = some (.cells #[.int .i64 0, .int .i64 0] 36 (0, 0))
  stp : wb.heap[q]? = some (.cells #[.string s.name, .slice aa s.after.length ca, .int .i64 s.tlo, .int .i64 s.thi, .bool s.calm, .bool false, .int .i64 0] 49 (0, 0))
  below : Below w.heap.size w wb
  wp : w.heap.size + 1 < p
  pq : p + 1 ≤ q
  size : q + 2 ≤ wb.heap.size
  own : ∀ g, e.ownBlock = some g → g < q
  base : B ≤ w.heap.size
  after : Sl IntE 1 B wb aa s.after

theorem keeps_grown {q : Nat} {a b : World} (h : Keeps [q] a b) : a.grownBy b (some q) := ⟨h.os, h.tape, h.output, h.size, fun k hk hne => h.block k hk (by simp; intro h; exact hne (by rw [h]))⟩
theorem WbF.keep {B : Nat} {w : World} {b0 b1 : Int} {p q : Nat} {e : Value} {ends : List (Int × Int)} {s : Stp} {aa : Option Addr} {ca n : Nat} {a1 a2 : Int} {wb wx : World} (h : WbF B w b0 b1 p q e ends s aa ca n a1 a2 wb) (hk : Keeps [q + 1] wb wx) : WbF B w b0 b1 p q e ends s aa ca n a1 a2 wx :=
  ⟨h.row.kept (keeps_grown hk) (by
      rcases hq : e.ownBlock with _ | g
      · exact .inl rfl
      · right
        have := h.own g hq
        simp; omega),
    hk.heap h.all (by have := h.pq; simp; omega), hk.heap h.begin (by have := h.pq; have := h.wp; simp; omega), hk.heap h.res (by have := h.pq; have := h.wp; simp; omega), hk.heap h.stp (by simp), h.below.trans (hk.below h.below.size (by intro i hi; have := h.pq; have := h.wp; simp at hi; omega)), h.wp, h.pq, by have := h.size; have := hk.size; omega, h.own, h.base, h.after.below (ek_int B) (hk.below (by have := h.below.size; have := h.base; omega) (by intro i hi; have := h.pq; have := h.wp; have := h.base; simp at hi; omega))⟩

/-- Behind the two ends: a box with both. -/
def EndB (v1 v2 : Int) (w : World) (v : Value) (wx : World) : Prop :=
  ∃ q, v = .pointer (some ⟨q, 0, none⟩) ∧ w.heap.size ≤ q ∧ wx.heap[q]? = some (.cells #[.int .i64 v1, .int .i64 v2] 36 (0, 0)) ∧ Below w.heap.size w wx
theorem two_set36 {w : World} {q : Nat} {c d : Int} (h : w.heap[q]? = some (.cells #[.int .i64 0, .int .i64 0] 36 (0, 0))) :
    ((w.setCell ⟨q, 0, none⟩ (.int .i64 c)).setCell ⟨q, 1, none⟩ (.int .i64 d)).heap[q]? = some (.cells #[.int .i64 c, .int .i64 d] 36 (0, 0)) :=
  (heap_setCell_at ((heap_setCell_at h _).trans rfl) _).trans rfl

/-- Two boxes hold this. -/
def BoxPQ (p q : Nat) (a b c d : Int) (W : World) : Prop := W.heap[p]? = some (.cells #[.int .i64 a, .int .i64 b] 36 (0, 0)) ∧ W.heap[q]? = some (.cells #[.int .i64 c, .int .i64 d] 36 (0, 0))

/-- What a step is ready at, by the first of those before it. -/
def ReadyI (b0 b1 : Int) (ends : List (Int × Int)) (s : Stp) (q : Nat) (wb : World) (i : Value) (wx : World) : Prop :=
  ∃ j : Nat, j ≤ s.after.length ∧ i = .int .i64 j ∧ wx.heap[q + 1]? = some (.cells #[.int .i64 (readyT (b0, b1) ends (s.after.take j)).1, .int .i64 (readyT (b0, b1) ends (s.after.take j)).2] 36 (0, 0)) ∧ Keeps [q + 1] wb wx

theorem row_below {w w' : World} {base n : Nat} {v : Value} {xs : List Value} (h : w.ownsRow base 36 2 v n xs) (hb : Below w.heap.size w w') : w'.ownsRow base 36 2 v n xs := h.kept (below_grown hb) (by cases v.ownBlock <;> simp)

set_option maxHeartbeats 8000000 in
set_option maxRecDepth 100000 in
theorem closing_ok (l : List Stp) (a aw : Option Addr) (c cw B : Nat) (b0 b1 : Int) (ws : List (Int × Int)) (w : World) (hB : B ≤ w.heap.size) (hS : Sl (StpE B) 7 B w a l) (hok : StpsOk l) (hc : l.length ≤ c) (hc' : c ≤ 9223372036854775807)
    (hW : Sl SpanE 2 B w aw ws) (hws : WinsOk ws) (hb0 : 0 ≤ b0) (hb1 : b0 ≤ b1) (hb2 : b1 ≤ 1000000000) :
    Calls Try.prog 8 #[.slice a l.length c, .agg #[.int .i64 b0, .int .i64 b1], .slice aw ws.length cw] w fun e w' => ∃ v, e = .returned (.tuple #[v, .agg #[.int .i64 ((allT (b0, b1) (closeT (b0, b1) ws l)).1), .int .i64 ((allT (b0, b1) (closeT (b0, b1) ws l)).2)], .int .i64 0]) ∧
      w'.ownsRow w.heap.size 36 2 v l.length (wcells (closeT (b0, b1) ws l)) ∧ Below w.heap.size w w' := by
  have hck := fun W (hx : Below w.heap.size w W) => checkSteps_ok l a c B W (by have := hx.size; omega) (hS.below (ek_stp B) (hx.mono hB)) hok hc hc'
  have hvb : vldB b0 b1 0 1000000000 = true := by simp [vldB]; omega
  have hv := dvalid_any b0 b1 0 1000000000
  rw [hvb] at hv
  have hl32 := hok.few
  have hw1000 := hws.few
  have hsl := hS.1
  have hwl := hW.1
  have HS := Lib.hid hS
  have HO := Lib.hid hok
  have HW := Lib.hid hW
  have HWS := Lib.hid hws
  clear hS hok hW hws
  have Hhvb := Lib.hid hvb; clear hvb
  go_enter Try.func8, Try.ntmps8
  go_wp2_with fail
  refine (hck _ (by repeat (first | exact Below.refl _ _ | (refine bl_setCell ?_ _ _ ?_; rotate_left; focus (first | omega | (simp; done) | (simp; omega))) | refine bl_alloc ?_ _ | refine bl_step ?_ (by assumption) | refine bl_drew ?_ | refine bl_drewN ?_ _))).mono ?_
  rintro e w1 ⟨rfl, hx1⟩
  have x1 : w1.heap[w.heap.size]? = some (.cells #[.int .i64 b0, .int .i64 b1] 36 (0, 0)) := heap_below hx1 (by repeat (first | (refine heap_alloc_at' _ _ ?_; focus (simp; done)) | refine heap_alloc_off ?_ _))
  have x2 : w1.heap[w.heap.size + 1]? = some (.cells #[.int .i64 0, .int .i64 0] 36 (0, 0)) := heap_below hx1 (by repeat (first | (refine heap_alloc_at' _ _ ?_; focus (simp; done)) | refine heap_alloc_off ?_ _))
  have hbw1 : Below w.heap.size w w1 := (by repeat (first | exact Below.refl _ _ | (refine bl_setCell ?_ _ _ ?_; rotate_left; focus (first | omega | (simp; done) | (simp; omega))) | refine bl_alloc ?_ _ | refine bl_step ?_ (by assumption) | refine bl_drew ?_ | refine bl_drewN ?_ _))
  have x1c := cells_of x1
  clear hx1 hck
  have Hx1 := Lib.hid x1; clear x1; have Hx2 := Lib.hid x2; clear x2; have Hhbw1 := Lib.hid hbw1; clear hbw1
  go_wp2_with fail
  refine (hv _).mono ?_
  rintro e w2 ⟨rfl, hx2⟩
  have y1 := heap_below hx2 Hx1.out
  have y2 := heap_below hx2 Hx2.out
  have hbw2 := bl_step Hhbw1.out hx2
  clear x1c hx2 hv
  have Hy1 := Lib.hid y1; clear y1; have Hy2 := Lib.hid y2; clear y2; have Hhbw2 := Lib.hid hbw2; clear hbw2
  go_wp2_with fail
  go_loopw [38] (fun i wr => ∃ k : Nat, k ≤ ws.length ∧ i = .int .i64 k ∧ Below w2.heap.size w2 wr) (fun i _ => ws.length - (intOf i).toNat)
  case atStart => exact ⟨0, Nat.zero_le _, rfl, Below.refl _ _⟩
  case round =>
    obtain ⟨k, hk, rfl, hb⟩ := hrel
    by_cases hlt : k < ws.length
    · have hSr := HW.out.below (ek_span B) ((bl_step Hhbw2.out hb).mono hB)
      obtain ⟨bk0, off, rfl, hbB, he⟩ := hSr.2 k hlt
      have hg := HWS.out.each ws[k] (List.getElem_mem hlt)
      have hap := HWS.out.apart
      have hprev : ∀ (h : 0 < k), ∃ u2 : Int, wr.cell? ⟨bk0, off + (k - 1) * 2 + 1, none⟩ = some (.int .i64 u2) ∧ u2 < ws[k].1 := by
        intro h
        obtain ⟨bk1, off1, h1, h2, h3⟩ := hSr.2 (k - 1) (by omega)
        simp only [Option.some.injEq, Addr.mk.injEq, and_true] at h1
        obtain ⟨rfl, rfl⟩ := h1
        exact ⟨_, h3.2, (List.pairwise_iff_getElem.1 hap) (k - 1) k (by omega) hlt (by omega)⟩
      obtain ⟨u, hu⟩ : ∃ x, ws[k] = x := ⟨_, rfl⟩
      rw [hu] at he hg hprev
      obtain ⟨u1, u2⟩ := u
      obtain ⟨e0, e1⟩ := he
      simp only at e0 e1 hg hprev
      have hbw : bk0 < wr.heap.size := by have := (bl_step Hhbw2.out hb).size; omega
      have hvu : vldB u1 u2 0 1000000000 = true := by simp [vldB]; omega
      have hv := dvalid_any u1 u2 0 1000000000
      rw [hvu] at hv
      have HP := Lib.hid hprev
      clear hprev hap hSr
      have Hhu := Lib.hid hu; clear hu; have Hhvu := Lib.hid hvu; clear hvu; have Hhb := Lib.hid hb; clear hb
      go_wp2_with fail
      refine (hv _).mono ?_
      rintro e w3 ⟨rfl, hx3⟩
      obtain ⟨_, _, _⟩ := bk bk0 hx3 (by simp; omega)
      obtain ⟨_, _, _⟩ := bk wr.heap.size hx3 (by simp)
      have hb3 : Below w2.heap.size w2 w3 := bl_step (bl_alloc Hhb.out _) hx3
      clear hv hx3
      have Hhb3 := Lib.hid hb3; clear hb3
      by_cases hk0 : k = 0
      · subst hk0
        clear HP
        go_upto_region 13 with fail
        go_quiet (fail)
        go_wp2_with fail
        go_roundw
        case rel => exact ⟨0 + 1, by omega, by go_num, by have := Hhb3.out; exact ⟨this.os, this.tape, this.output, this.size, this.block⟩⟩
        case measure => simp [intOf]; omega
      · obtain ⟨up, hup, hlt2⟩ := HP.out (by omega)
        have hk1 : 0 < k := by omega
        have hkm : (k : Int) - 1 = ((k - 1 : Nat) : Int) := by omega
        clear HP hk0
        go_upto_region 13 with fail
        go_quiet (fail)
        go_wp2_with fail
        go_roundw
        case rel => exact ⟨k + 1, by omega, by go_num, by have := Hhb3.out; exact ⟨this.os, this.tape, this.output, this.size, this.block⟩⟩
        case measure => simp [intOf]; omega
    · have x1 := heap_below hb Hy1.out
      have x2 := heap_below hb Hy2.out
      have hbw3 := bl_step Hhbw2.out hb
      have x1c := cells_of x1
      have x1l := lt_of_heap x1
      clear hb
      have Hx1 := Lib.hid x1; clear x1; have Hx2 := Lib.hid x2; clear x2; have Hhbw3 := Lib.hid hbw3; clear hbw3
      go_wp2_with fail
      generalize hp : wr.heap.size = p
      have hplt : w.heap.size + 1 < p := by rw [← hp]; exact lt_of_heap Hx2.out
      have Hhp := Lib.hid hp; clear hp
      go_loopw [12, 67] (fun e i wq => CloseI w (b0, b1) ws l p e i wq) (fun _ i _ => l.length - (intOf i).toNat)
      case atStart =>
        refine ⟨0, Nat.zero_le _, rfl, World.ownsRow_nil _ _ _ _, ?_, heap_alloc_off Hx1.out _, heap_alloc_off Hx2.out _, bl_alloc Hhbw3.out _, by have := Hhp.out; simp; omega⟩
        exact heap_alloc_at' _ _ Hhp.out.symm
      case round =>
        obtain ⟨n, hn, rfl, hrow, zp, z1, z2, hbq, hpq⟩ := hrel
        by_cases hlt2 : n < l.length
        · have hSq := HS.out.below (ek_stp B) (hbq.mono hB)
          obtain ⟨bs, off, rfl, hbB, he⟩ := hSq.2 n hlt2
          have hg := HO.out.each n hlt2
          obtain ⟨s, hs⟩ : ∃ x, l[n] = x := ⟨_, rfl⟩
          rw [hs] at he hg
          obtain ⟨aa, ca, hca, hca', e0, e1, e2, e3, e4, e5, e6, hsa⟩ := he
          have hlen := closeT_length (b0, b1) ws (l.take n)
          rw [List.length_take, Nat.min_eq_left hn] at hlen
          have hcl := close_ok (b := (b0, b1)) HWS.out.each ⟨⟨hb0, by show b0 ≤ _; omega⟩, ⟨by show 0 ≤ b1; omega, hb2⟩⟩ (l.take n) (fun t ht => by
            obtain ⟨i, hi, rfl⟩ := List.mem_iff_getElem.1 ht
            rw [List.getElem_take]
            have hi' : i < l.length := by simp at hi; omega
            have := HO.out.each i hi'
            exact ⟨this.t0, this.t1, this.t2⟩) (by rw [List.length_take]; omega)
          rw [List.length_take, Nat.min_eq_left hn] at hcl
          have hnext : closeT (b0, b1) ws (l.take (n + 1)) = closeT (b0, b1) ws (l.take n) ++ [stepEnd (b0, b1) ws (closeT (b0, b1) ws (l.take n)) s] := by
            rw [List.take_succ_eq_append_getElem hlt2, closeT_snoc, hs]
          have hb01 : EndOk n (b0, b1).1 ∧ EndOk n (b0, b1).2 := ⟨.inr ⟨hb0, by show b0 ≤ _; omega⟩, .inr ⟨by show 0 ≤ b1; omega, by show b1 ≤ _; omega⟩⟩
          obtain ⟨ends, hends⟩ : ∃ x, closeT (b0, b1) ws (l.take n) = x := ⟨_, rfl⟩
          rw [hends] at hlen hcl hnext hrow zp
          have hbkw : bs < wr.heap.size := by have := hbq.size; omega
          have hn32 : n ≤ 32 := by omega
          have z1c := cells_of z1
          have z1l := lt_of_heap z1
          have zpl := lt_of_heap zp
          have hna := hg.few
          have Hhs := Lib.hid hs; clear hs; have Hhlen := Lib.hid hlen; clear hlen; have Hhcl := Lib.hid hcl; clear hcl; have Hhnext := Lib.hid hnext; clear hnext; have Hhends := Lib.hid hends; clear hends; have Hhrow := Lib.hid hrow; clear hrow; have Hzp := Lib.hid zp; clear zp; have Hz1 := Lib.hid z1; clear z1; have Hz2 := Lib.hid z2; clear z2; have Hhbq := Lib.hid hbq; clear hbq; have Hhg := Lib.hid hg; clear hg; have Hhsa := Lib.hid hsa; clear hsa; have HhSq := Lib.hid hSq; clear hSq; have Hhb01 := Lib.hid hb01; clear hb01; have Hhn := Lib.hid hn; clear hn
          go_wp2_with fail
          have hwbF : WbF B w b0 b1 p wr.heap.size u12 ends s aa ca n (allT (b0, b1) ends).1 (allT (b0, b1) ends).2 ((wr.alloc (.cells #[.string s.name, .slice aa s.after.length ca, .int .i64 s.tlo, .int .i64 s.thi, .bool s.calm, .bool false, .int .i64 0] 49)).alloc (.cells #[.int .i64 b0, .int .i64 b1] 36)) :=
            ⟨(Hhrow.out.alloc _).alloc _, heap_alloc_off (heap_alloc_off Hzp.out _) _, heap_alloc_off (heap_alloc_off Hz1.out _) _, heap_alloc_off (heap_alloc_off Hz2.out _) _, heap_alloc_off (heap_alloc_at' _ _ rfl) _, bl_alloc (bl_alloc Hhbq.out _) _, hplt, hpq, by simp, fun g hg => (Hhrow.out.lt g hg).2, hB, Hhsa.out.below (ek_int B) ((Below.refl _ _).alloc (by have := Hhbq.out.size; omega) _ |>.alloc (by have := Hhbq.out.size; simp; omega) _)⟩
          have hx16 : ((wr.alloc (.cells #[.string s.name, .slice aa s.after.length ca, .int .i64 s.tlo, .int .i64 s.thi, .bool s.calm, .bool false, .int .i64 0] 49)).alloc (.cells #[.int .i64 b0, .int .i64 b1] 36)).heap[wr.heap.size + 1]? = some (.cells #[.int .i64 b0, .int .i64 b1] 36 (0, 0)) := heap_alloc_at' _ _ (by simp)
          have hbk15 : bs < wr.heap.size := hbkw
          generalize ((wr.alloc (.cells #[.string s.name, .slice aa s.after.length ca, .int .i64 s.tlo, .int .i64 s.thi, .bool s.calm, .bool false, .int .i64 0] 49)).alloc (.cells #[.int .i64 b0, .int .i64 b1] 36)) = wb at hwbF hx16 ⊢
          generalize wr.heap.size = q at hwbF hx16 hbk15 hpq ⊢
          clear e0 e1 e2 e3 e4 e5 e6 z1c z1l zpl Hhrow Hzp Hz1 Hz2 Hhbq hbkw HhSq
          have hBq : B ≤ q := by have := hwbF.below.size; have := hwbF.size; have := hwbF.pq; omega
          go_loopw [75] (fun i wx => ReadyI b0 b1 ends s q wb i wx) (fun i _ => s.after.length - (intOf i).toNat)
          case atStart => exact ⟨0, Nat.zero_le _, rfl, hx16, Keeps.refl _ _⟩
          case round =>
            obtain ⟨j, hj, rfl, y16, hkx⟩ := hrel
            have hwxF := hwbF.keep hkx
            have y16c := cells_of y16
            have y16f := frozen_of y16
            have y16l := lt_of_heap y16
            by_cases hjl : j < s.after.length
            · obtain ⟨bk', off', rfl, hbk', he'⟩ := hwxF.after.2 j hjl
              have hbe := Hhg.out.before s.after[j] (List.getElem_mem hjl)
              have hsn := readyT_snoc (b0, b1) ends (s.after.take j) s.after[j]
              rw [← List.take_succ_eq_append_getElem hjl] at hsn
              obtain ⟨y, hy⟩ : ∃ y, s.after[j] = y := ⟨_, rfl⟩
              rw [hy] at he' hbe hsn
              have he'' : wr.cell? ⟨bk', off' + j, none⟩ = some (.int .i64 y) := by have := he'; unfold IntE at this; simpa using this
              obtain ⟨y0, y1⟩ := hbe
              have hn0 : 0 < n := by omega
              obtain ⟨g, cap, rfl, hg1, hg2⟩ := row_form hwxF.row hn0
              have hen := Hhlen.out
              have hyl : y.toNat < ends.length := by omega
              have c1 := (hwxF.row.cellAt (y.toNat * 2) (by omega)).trans (wcells_get ends y.toNat hyl).1
              have c2 := (hwxF.row.cellAt (y.toNat * 2 + 1) (by omega)).trans (wcells_get ends y.toNat hyl).2
              rw [show ends[y.toNat] = at' ends y from by unfold at'; exact getD_eq hyl _] at c1 c2
              obtain ⟨E, hE⟩ : ∃ E, at' ends y = E := ⟨_, rfl⟩
              rw [hE] at c1 c2 hsn
              obtain ⟨E1, E2⟩ := E
              simp only at c1 c2
              have hgq := hwxF.own g rfl
              have hbk'w : bk' < wr.heap.size := by have := hwxF.below.size; have := hwxF.base; omega
              have hbk'q : bk' < q := by have := hwxF.pq; have := hwxF.wp; have := hwxF.base; omega
              obtain ⟨R, hR⟩ : ∃ R, readyT (b0, b1) ends (s.after.take j) = R := ⟨_, rfl⟩
              rw [hR] at y16 y16c
              rw [hR] at hsn
              obtain ⟨R1, R2⟩ := R
              simp only at y16 y16c
              clear he' hen
              have HF := Lib.hid hwxF
              have HK := Lib.hid hkx
              clear hwxF hkx hwbF
              have Hhy := Lib.hid hy; clear hy; have HhE := Lib.hid hE; clear hE; have HhR := Lib.hid hR; clear hR; have Hy16 := Lib.hid y16; clear y16
              have hgw : g < wr.heap.size := hg2
              by_cases hj0 : j = 0
              · subst hj0
                rw [if_pos (by simp)] at hsn
                have he0 : wr.cell? ⟨bk', off', none⟩ = some (.int .i64 y) := by simpa using he''
                clear he''
                have Hhsn := Lib.hid hsn; clear hsn
                go_upto_region 27 with fail
                have c1' : ((wr.setCell ⟨q + 1, 0, none⟩ (.int .i64 E1)).setCell ⟨q + 1, 1, none⟩ (.int .i64 E2)).cell? ⟨g, y.toNat * 2, none⟩ = some (.int .i64 E1) := (cell_two_off (by omega)).trans c1
                have c2' : ((wr.setCell ⟨q + 1, 0, none⟩ (.int .i64 E1)).setCell ⟨q + 1, 1, none⟩ (.int .i64 E2)).cell? ⟨g, y.toNat * 2 + 1, none⟩ = some (.int .i64 E2) := (cell_two_off (by omega)).trans c2
                have y16' : ((wr.setCell ⟨q + 1, 0, none⟩ (.int .i64 E1)).setCell ⟨q + 1, 1, none⟩ (.int .i64 E2)).heap[q + 1]? = some (.cells #[.int .i64 E1, .int .i64 E2] 36 (0, 0)) := (heap_setCell_at ((heap_setCell_at Hy16.out _).trans rfl) _).trans rfl
                have hkw : Keeps [q + 1] wb ((wr.setCell ⟨q + 1, 0, none⟩ (.int .i64 E1)).setCell ⟨q + 1, 1, none⟩ (.int .i64 E2)) := (HK.out.setCell _ _ (.inl (by simp))).setCell _ _ (.inl (by simp))
                have hwz : ((wr.setCell ⟨q + 1, 0, none⟩ (.int .i64 E1)).setCell ⟨q + 1, 1, none⟩ (.int .i64 E2)).heap.size = wr.heap.size := by simp
                generalize ((wr.setCell ⟨q + 1, 0, none⟩ (.int .i64 E1)).setCell ⟨q + 1, 1, none⟩ (.int .i64 E2)) = wy at c1' c2' y16' hkw hwz ⊢
                rw [← hwz] at hgw
                clear y16c y16f y16l Hy16 c1 c2
                have y16 := y16'
                have y16c := cells_of y16
                have y16f := frozen_of y16
                have y16l := lt_of_heap y16
                clear y16'
                have Hy16 := Lib.hid y16; clear y16; have Hhkw := Lib.hid hkw; clear hkw; have Hhwz := Lib.hid hwz; clear hwz
                have hI : Below wy.heap.size wy wy.drew := (Below.refl _ _).drew
                refine wp_region_ord (fun W => Below wy.heap.size wy W) [([0, 1, 2, 3, 4], 5)] [] (some 6) (by kernel_rfl) (by kernel_rfl) hI ?_
                refine OrdI_cons ?_
                (apply StI_plain (w0 := wy.drew) hI rfl rfl rfl rfl; (focus (intro W hW K hK; obtain ⟨_, _⟩ := bk (q + 1) hW y16l; obtain ⟨_, _⟩ := bk g hW hgw; go_step; exact hK)); (focus rfl)); (apply StI_plain (w0 := wy.drew) hI rfl rfl rfl rfl; (focus (intro W hW K hK; obtain ⟨_, _⟩ := bk (q + 1) hW y16l; obtain ⟨_, _⟩ := bk g hW hgw; go_step; exact hK)); (focus rfl)); (apply StI_plain (w0 := wy.drew) hI rfl rfl rfl rfl; (focus (intro W hW K hK; obtain ⟨_, _⟩ := bk (q + 1) hW y16l; obtain ⟨_, _⟩ := bk g hW hgw; go_step; exact hK)); (focus rfl)); (apply StI_plain (w0 := wy.drew) hI rfl rfl rfl rfl; (focus (intro W hW K hK; obtain ⟨_, _⟩ := bk (q + 1) hW y16l; obtain ⟨_, _⟩ := bk g hW hgw; go_step; exact hK)); (focus rfl)); (apply StI_plain (w0 := wy.drew) hI rfl rfl rfl rfl; (focus (intro W hW K hK; obtain ⟨_, _⟩ := bk (q + 1) hW y16l; obtain ⟨_, _⟩ := bk g hW hgw; go_step; exact hK)); (focus rfl))
                (apply StI_eff rfl; go_wp2_with (first | (go_at_call 15; refine (later_any E1 E2 E1 E2 _).mono ?_; rintro e w3 ⟨rfl, hb3⟩)))
                have hI3 : Below wy.heap.size wy w3 := below_mid hI (Nat.le_refl _) hb3
                refine onNormal_mk hI3 (OrdI_snk ?_)
                obtain ⟨_, _, _⟩ := bk (q + 1) hI3 y16l
                have y3 := heap_below hI3 Hy16.out
                have hk3 : Keeps [q + 1] wb w3 := Keeps.stepB Hhkw.out hI3
                have Hy3 := Lib.hid y3; clear y3; have Hhk3 := Lib.hid hk3; clear hk3
                (apply StI_eff rfl; go_wp2_with (first | fail))
                refine onNormal_last ?_
                go_wp2_with fail
                go_roundw
                case rel =>
                  refine ⟨0 + 1, by omega, by go_num, ?_, (Hhk3.out.setCell _ _ (.inl (by simp))).setCell _ _ (.inl (by simp))⟩
                  rw [Hhsn.out]
                  exact (heap_setCell_at ((heap_setCell_at Hy3.out _).trans rfl) _).trans (by first | rfl | simp [laterT])
                case measure => simp [intOf]; omega
              · rw [if_neg (take_ne hj0 hjl)] at hsn
                have hj0' : ((j : Int) == 0) = false := by simp; omega
                have Hhsn := Lib.hid hsn; clear hsn
                go_upto_region 27 with fail
                have hI : Below wr.heap.size wr wr.drew := (Below.refl _ _).drew
                refine wp_region_ord (fun W => Below wr.heap.size wr W) [([0, 1, 2, 3, 4], 5)] [] (some 6) (by kernel_rfl) (by kernel_rfl) hI ?_
                refine OrdI_cons ?_
                (apply StI_plain (w0 := wr.drew) hI rfl rfl rfl rfl; (focus (intro W hW K hK; obtain ⟨_, _⟩ := bk (q + 1) hW y16l; obtain ⟨_, _⟩ := bk g hW hgw; go_step; exact hK)); (focus rfl)); (apply StI_plain (w0 := wr.drew) hI rfl rfl rfl rfl; (focus (intro W hW K hK; obtain ⟨_, _⟩ := bk (q + 1) hW y16l; obtain ⟨_, _⟩ := bk g hW hgw; go_step; exact hK)); (focus rfl)); (apply StI_plain (w0 := wr.drew) hI rfl rfl rfl rfl; (focus (intro W hW K hK; obtain ⟨_, _⟩ := bk (q + 1) hW y16l; obtain ⟨_, _⟩ := bk g hW hgw; go_step; exact hK)); (focus rfl)); (apply StI_plain (w0 := wr.drew) hI rfl rfl rfl rfl; (focus (intro W hW K hK; obtain ⟨_, _⟩ := bk (q + 1) hW y16l; obtain ⟨_, _⟩ := bk g hW hgw; go_step; exact hK)); (focus rfl)); (apply StI_plain (w0 := wr.drew) hI rfl rfl rfl rfl; (focus (intro W hW K hK; obtain ⟨_, _⟩ := bk (q + 1) hW y16l; obtain ⟨_, _⟩ := bk g hW hgw; go_step; exact hK)); (focus rfl))
                (apply StI_eff rfl; go_wp2_with (first | (go_at_call 15; refine (later_any R1 R2 E1 E2 _).mono ?_; rintro e w3 ⟨rfl, hb3⟩)))
                have hI3 : Below wr.heap.size wr w3 := below_mid hI (Nat.le_refl _) hb3
                refine onNormal_mk hI3 (OrdI_snk ?_)
                obtain ⟨_, _, _⟩ := bk (q + 1) hI3 y16l
                have y3 := heap_below hI3 Hy16.out
                have hk3 : Keeps [q + 1] wb w3 := Keeps.stepB HK.out hI3
                have Hy3 := Lib.hid y3; clear y3; have Hhk3 := Lib.hid hk3; clear hk3
                (apply StI_eff rfl; go_wp2_with (first | fail))
                refine onNormal_last ?_
                go_wp2_with fail
                go_roundw
                case rel =>
                  refine ⟨j + 1, by omega, by go_num, ?_, (Hhk3.out.setCell _ _ (.inl (by simp))).setCell _ _ (.inl (by simp))⟩
                  rw [Hhsn.out]
                  exact (heap_setCell_at ((heap_setCell_at Hy3.out _).trans rfl) _).trans (by first | rfl | simp [laterT])
                case measure => simp [intOf]; omega
            · obtain rfl : j = s.after.length := by omega
              rw [List.take_length] at y16 y16c
              have hro := ready_ok (b := (b0, b1)) hn32 Hhb01.out Hhcl.out s.after
              have hse : stepEnd (b0, b1) ws ends s = (endT s.calm (readyT (b0, b1) ends s.after).1 s.tlo ws, endT s.calm (readyT (b0, b1) ends s.after).2 s.thi ws) := rfl
              obtain ⟨R, hR⟩ : ∃ R, readyT (b0, b1) ends s.after = R := ⟨_, rfl⟩
              rw [hR] at y16 y16c hro hse
              obtain ⟨R1, R2⟩ := R
              simp only at y16 y16c hro hse
              obtain ⟨v1, hv1⟩ : ∃ v, endT s.calm R1 s.tlo ws = v := ⟨_, rfl⟩
              obtain ⟨v2, hv2⟩ : ∃ v, endT s.calm R2 s.thi ws = v := ⟨_, rfl⟩
              rw [hv1, hv2] at hse
              have r1 := hro.1.bd hn32
              have r2 := hro.2.bd hn32
              have t0 := Hhg.out.t0
              have t1 := Hhg.out.t1
              have t2 := Hhg.out.t2
              have hE1 := fun W (hx : Below w.heap.size w W) => end_any s.name aa s.after.length ca s.tlo s.thi s.calm R1 s.tlo v1 ws aw cw B W (HW.out.below (ek_span B) (hx.mono hB)) (by have := hx.size; omega) HWS.out.each (by omega) (by omega) (by omega) (by omega) hv1
              have hE2 := fun W (hx : Below w.heap.size w W) => end_any s.name aa s.after.length ca s.tlo s.thi s.calm R2 s.thi v2 ws aw cw B W (HW.out.below (ek_span B) (hx.mono hB)) (by have := hx.size; omega) HWS.out.each (by omega) (by omega) (by omega) (by omega) hv2
              have hstp := hwxF.stp
              have hstpc := cells_of hstp
              have hstpl := lt_of_heap hstp
              have y16l := lt_of_heap y16
              have HF := Lib.hid hwxF
              clear hwxF hkx hwbF hro r1 r2 hx16 hj hjl
              have HhR := Lib.hid hR; clear hR; have Hhse := Lib.hid hse; clear hse; have Hhv1 := Lib.hid hv1; clear hv1; have Hhv2 := Lib.hid hv2; clear hv2; have Hy16 := Lib.hid y16; clear y16; have Hhstp := Lib.hid hstp; clear hstp
              go_upto_region 29 with fail
              go_cut [19] from 93 to 109 (fun v wx => EndB v1 v2 wr v wx)
              case first =>
                have hbb0 : Below w.heap.size w wr := HF.out.below
                have hbbs : w.heap.size ≤ wr.heap.size := hbb0.size
                have hI : Below wr.heap.size wr wr.drew := (Below.refl _ _).drew
                refine wp_region_ordT (fun W => Below wr.heap.size wr W) (.two [0, 1, 2, 3, 4, 5, 6, 8, 9, 10, 11, 12, 13, 14] 7 (.two [] 15 (.one [16] 17 (.fin [] (some 18))) 17 (.one [] 15 (.fin [16] (some 18)))) 17 (.one [] 7 (.one [] 15 (.fin [16] (some 18))))) (by kernel_rfl) (by kernel_rfl) hI ?_
                refine otTwo ?_
                (apply StI_plain (w0 := wr.drew) hI rfl rfl rfl rfl; (focus (intro W hW K hK; obtain ⟨_, _⟩ := bk q hW hstpl; obtain ⟨_, _⟩ := bk (q + 1) hW y16l; go_step; exact hK)); (focus rfl)); (apply StI_plain (w0 := wr.drew) hI rfl rfl rfl rfl; (focus (intro W hW K hK; obtain ⟨_, _⟩ := bk q hW hstpl; obtain ⟨_, _⟩ := bk (q + 1) hW y16l; go_step; exact hK)); (focus rfl)); (apply StI_plain (w0 := wr.drew) hI rfl rfl rfl rfl; (focus (intro W hW K hK; obtain ⟨_, _⟩ := bk q hW hstpl; obtain ⟨_, _⟩ := bk (q + 1) hW y16l; go_step; exact hK)); (focus rfl)); (apply StI_plain (w0 := wr.drew) hI rfl rfl rfl rfl; (focus (intro W hW K hK; obtain ⟨_, _⟩ := bk q hW hstpl; obtain ⟨_, _⟩ := bk (q + 1) hW y16l; go_step; exact hK)); (focus rfl)); (apply StI_plain (w0 := wr.drew) hI rfl rfl rfl rfl; (focus (intro W hW K hK; obtain ⟨_, _⟩ := bk q hW hstpl; obtain ⟨_, _⟩ := bk (q + 1) hW y16l; go_step; exact hK)); (focus rfl)); (apply StI_plain (w0 := wr.drew) hI rfl rfl rfl rfl; (focus (intro W hW K hK; obtain ⟨_, _⟩ := bk q hW hstpl; obtain ⟨_, _⟩ := bk (q + 1) hW y16l; go_step; exact hK)); (focus rfl)); (apply StI_plain (w0 := wr.drew) hI rfl rfl rfl rfl; (focus (intro W hW K hK; obtain ⟨_, _⟩ := bk q hW hstpl; obtain ⟨_, _⟩ := bk (q + 1) hW y16l; go_step; exact hK)); (focus rfl)); (apply StI_plain (w0 := wr.drew) hI rfl rfl rfl rfl; (focus (intro W hW K hK; obtain ⟨_, _⟩ := bk q hW hstpl; obtain ⟨_, _⟩ := bk (q + 1) hW y16l; go_step; exact hK)); (focus rfl)); (apply StI_plain (w0 := wr.drew) hI rfl rfl rfl rfl; (focus (intro W hW K hK; obtain ⟨_, _⟩ := bk q hW hstpl; obtain ⟨_, _⟩ := bk (q + 1) hW y16l; go_step; exact hK)); (focus rfl)); (apply StI_plain (w0 := wr.drew) hI rfl rfl rfl rfl; (focus (intro W hW K hK; obtain ⟨_, _⟩ := bk q hW hstpl; obtain ⟨_, _⟩ := bk (q + 1) hW y16l; go_step; exact hK)); (focus rfl)); (apply StI_plain (w0 := wr.drew) hI rfl rfl rfl rfl; (focus (intro W hW K hK; obtain ⟨_, _⟩ := bk q hW hstpl; obtain ⟨_, _⟩ := bk (q + 1) hW y16l; go_step; exact hK)); (focus rfl)); (apply StI_plain (w0 := wr.drew) hI rfl rfl rfl rfl; (focus (intro W hW K hK; obtain ⟨_, _⟩ := bk q hW hstpl; obtain ⟨_, _⟩ := bk (q + 1) hW y16l; go_step; exact hK)); (focus rfl)); (apply StI_plain (w0 := wr.drew) hI rfl rfl rfl rfl; (focus (intro W hW K hK; obtain ⟨_, _⟩ := bk q hW hstpl; obtain ⟨_, _⟩ := bk (q + 1) hW y16l; go_step; exact hK)); (focus rfl)); (apply StI_plain (w0 := wr.drew) hI rfl rfl rfl rfl; (focus (intro W hW K hK; obtain ⟨_, _⟩ := bk q hW hstpl; obtain ⟨_, _⟩ := bk (q + 1) hW y16l; go_step; exact hK)); (focus rfl))
                refine StI_nil ⟨?_, ?_⟩
                · (apply wpOp_eff rfl; go_wp2_with (first | (go_at_call 16; refine (hE1 _ (Below.trans hbb0 (Below.mono hI hbbs))).mono ?_; rintro e w1 ⟨rfl, hb1⟩)))
                  have hI1 : Below wr.heap.size wr w1 := below_mid hI (Nat.le_refl _) hb1
                  refine otN hI1 (otTwo (StI_nil ⟨?_, ?_⟩))
                  · (apply wpOp_eff rfl; go_wp2_with (first | (go_at_call 16; refine (hE2 _ (Below.trans hbb0 (Below.mono hI1 hbbs))).mono ?_; rintro e w2 ⟨rfl, hb2⟩)))
                    have hI2 : Below wr.heap.size wr w2 := below_mid hI1 (Nat.le_refl _) hb2
                    refine otN hI2 (otOne ?_)
                    (apply StI_plain (w0 := w2) hI2 rfl rfl rfl rfl; (focus (intro W hW K hK; skip; go_step; exact hK)); (focus rfl))
                    (apply StI_eff rfl; go_wp2_with (first | fail))
                    have hqq : wr.heap.size ≤ w2.heap.size := hI2.size
                    refine otN (hI2.alloc hqq _) (otSnkI ?_)
                    (apply StI_eff rfl; go_wp2_with (first | fail))
                    refine onNormal_last ?_
                    go_wp2_with fail
                    go_meet
                    exact ⟨w2.heap.size, rfl, hqq, heap_alloc_at _ _, hI2.alloc hqq _⟩
                  · (apply wpOp_eff rfl; go_wp2_with (first | fail))
                    have hqq : wr.heap.size ≤ w1.heap.size := hI1.size
                    have hIa : Below wr.heap.size wr (w1.alloc (.cells #[.int .i64 0, .int .i64 0] 36)) := hI1.alloc hqq _
                    have xq := heap_alloc_at w1 (.cells #[.int .i64 0, .int .i64 0] 36)
                    obtain ⟨q9, hq9⟩ : ∃ q, w1.heap.size = q := ⟨_, rfl⟩
                    rw [hq9] at xq hqq ⊢
                    refine otN hIa (otOne ?_)
                    (apply StI_eff rfl; go_wp2_with (first | (go_at_call 16; refine (hE2 _ (Below.trans hbb0 (Below.mono hIa hbbs))).mono ?_; rintro e w2 ⟨rfl, hb2⟩)))
                    have hI2 : Below wr.heap.size wr w2 := below_mid hIa (Nat.le_refl _) hb2
                    replace xq := heap_below hb2 xq
                    refine otN hI2 (otSnkI ?_)
                    (apply StI_plain (w0 := w2) hI2 rfl rfl rfl rfl; (focus (intro W hW K hK; skip; go_step; exact hK)); (focus rfl))
                    have xqc := cells_of xq
                    have xqf := frozen_of xq
                    have xql := lt_of_heap xq
                    have Hxq := Lib.hid xq; clear xq
                    (apply StI_eff rfl; go_wp2_with (first | fail))
                    refine onNormal_last ?_
                    go_wp2_with fail
                    go_meet
                    exact ⟨_, rfl, hqq, two_set36 Hxq.out, below_set2 hI2 hqq⟩
                · (apply wpOp_eff rfl; go_wp2_with (first | fail))
                  have hqq : wr.heap.size ≤ wr.heap.size := Nat.le_refl _
                  have hIa : Below wr.heap.size wr (wr.alloc (.cells #[.int .i64 0, .int .i64 0] 36)).drew := ((Below.refl _ _).alloc hqq _).drew
                  have xq : (wr.alloc (.cells #[.int .i64 0, .int .i64 0] 36)).drew.heap[wr.heap.size]? = some (.cells #[.int .i64 0, .int .i64 0] 36 (0, 0)) := heap_drew' (heap_alloc_at wr (.cells #[.int .i64 0, .int .i64 0] 36))
                  refine otN hIa (otOne ?_)
                  (apply StI_eff rfl; go_wp2_with (first | (go_at_call 16; refine (hE1 _ (Below.trans hbb0 (Below.mono hIa hbbs))).mono ?_; rintro e w1 ⟨rfl, hb1⟩)))
                  have hI1 : Below wr.heap.size wr w1 := below_mid hIa (Nat.le_refl _) hb1
                  replace xq := heap_below hb1 xq
                  refine otN hI1 (otOne ?_)
                  (apply StI_eff rfl; go_wp2_with (first | (go_at_call 16; refine (hE2 _ (Below.trans hbb0 (Below.mono hI1 hbbs))).mono ?_; rintro e w2 ⟨rfl, hb2⟩)))
                  have hI2 : Below wr.heap.size wr w2 := below_mid hI1 (Nat.le_refl _) hb2
                  replace xq := heap_below hb2 xq
                  refine otN hI2 (otSnkI ?_)
                  (apply StI_plain (w0 := w2) hI2 rfl rfl rfl rfl; (focus (intro W hW K hK; skip; go_step; exact hK)); (focus rfl))
                  have xqc := cells_of xq
                  have xqf := frozen_of xq
                  have xql := lt_of_heap xq
                  have Hxq := Lib.hid xq; clear xq
                  (apply StI_eff rfl; go_wp2_with (first | fail))
                  refine onNormal_last ?_
                  go_wp2_with fail
                  go_meet
                  exact ⟨_, rfl, hqq, two_set36 Hxq.out, below_set2 hI2 hqq⟩
              case rest =>
                obtain ⟨q9, rfl, hq9, z9, hb9⟩ := hcut
                have hF := HF.out
                have frow := row_below hF.row hb9
                have fall := heap_below hb9 hF.all
                have fbeg := heap_below hb9 hF.begin
                have fres := heap_below hb9 hF.res
                have fbel := bl_step hF.below hb9
                have hwp := hF.wp
                have hpq2 := hF.pq
                have hsz := hF.size
                have hszb := hb9.size
                have z9c := cells_of z9
                have z9l := lt_of_heap z9
                have fallc := cells_of fall
                have fallf := frozen_of fall
                have falll := lt_of_heap fall
                have hown := hF.own
                have hpl : p + 1 ≤ wc.heap.size := by omega
                obtain ⟨A, hA⟩ : ∃ A, allT (b0, b1) ends = A := ⟨_, rfl⟩
                rw [hA] at fall fallc
                obtain ⟨A1, A2⟩ := A
                simp only at fall fallc
                clear hF HF hb9 hE1 hE2 hstpc y16c y16l hstpl
                have Hz9 := Lib.hid z9; clear z9; have Hfall := Lib.hid fall; clear fall; have Hfbeg := Lib.hid fbeg; clear fbeg; have Hfres := Lib.hid fres; clear fres; have Hfbel := Lib.hid fbel; clear fbel; have HhA := Lib.hid hA; clear hA
                go_upto_region 30 with fail
                obtain ⟨i0, hinf, hz0, hz1, hz2⟩ := info_parts info36
                have hlt0 := fun g (hg : u12.ownBlock = some g) => (frow.lt g hg).1
                have hI : BoxPQ p q9 A1 A2 v1 v2 wc.drew := ⟨Hfall.out, Hz9.out⟩
                refine wp_region_ord (BoxPQ p q9 A1 A2 v1 v2) [([0, 1, 4, 5], 2), ([], 3), ([], 6)] [7] (some 8) (by kernel_rfl) (by kernel_rfl) hI ?_
                refine OrdI_cons ?_
                (apply StI_plain (w0 := wc.drew) hI rfl rfl rfl rfl; (focus (intro W hW K hK; have := cells_of hW.1; have := cells_of hW.2; go_step; exact hK)); (focus rfl)); (apply StI_plain (w0 := wc.drew) hI rfl rfl rfl rfl; (focus (intro W hW K hK; have := cells_of hW.1; have := cells_of hW.2; go_step; exact hK)); (focus rfl)); (apply StI_plain (w0 := wc.drew) hI rfl rfl rfl rfl; (focus (intro W hW K hK; have := cells_of hW.1; have := cells_of hW.2; go_step; exact hK)); (focus rfl)); (apply StI_plain (w0 := wc.drew) hI rfl rfl rfl rfl; (focus (intro W hW K hK; have := cells_of hW.1; have := cells_of hW.2; go_step; exact hK)); (focus rfl))
                (apply StI_eff rfl; go_wp2_with (first | fail))
                have hI1 : BoxPQ p q9 A1 A2 v1 v2 (wc.alloc (.cells #[.int .i64 v1, .int .i64 v2] 36)).drew := ⟨heap_drew' (heap_alloc_off Hfall.out _), heap_drew' (heap_alloc_off Hz9.out _)⟩
                refine onNormal_mk hI1 (OrdI_cons ?_)
                have hnews : ∀ j u, [Value.int .i64 v1, Value.int .i64 v2][j]? = some u → (wc.alloc (.cells #[.int .i64 v1, .int .i64 v2] 36)).drew.cell? ((⟨wc.heap.size, 0, none⟩ : Addr).add j) = some u := by
                  intro j u hj
                  have hca := cells_of (heap_alloc_at wc (.cells #[.int .i64 v1, .int .i64 v2] 36))
                  rcases j with _ | _ | j
                  · exact (hca 0).trans hj
                  · exact (hca 1).trans hj
                  · simp at hj
                have hmax : n + 1 ≤ maxLen := by unfold maxLen; omega
                apply StI_eff rfl
                refine wpList_append_own _ rfl _ _ 38 rfl (p + 1) 36 i0 (.agg #[.int .i64 0, .int .i64 0]) 2 16 Try.underlying38 hinf hz0 hz1 hz2 rfl (by decide) _ _ _ rfl ((frow.alloc _).drew) ⟨wc.heap.size, 0, none⟩ 1 1 [.int .i64 v1, .int .i64 v2] rfl rfl hnews (by simp [Value.oneCell']) (by omega) (by omega) (by simp; omega) ?_
                intro v' w4 hown' hgrow _
                replace hown' : w4.ownsRow (p + 1) 36 2 v' (n + 1) (wcells ends ++ [Value.int .i64 v1, Value.int .i64 v2]) := hown'
                replace hgrow : ((wc.alloc (.cells #[.int .i64 v1, .int .i64 v2] 36)).drew).grownBy w4 u12.ownBlock := hgrow
                obtain ⟨g', cap', hv', hg1', hg2'⟩ := row_form hown' (by omega)
                subst hv'
                have hszg : wc.heap.size + 1 ≤ w4.heap.size := by have := hgrow.size; simpa using this
                have hq9s : q + 2 ≤ q9 := by omega
                have n9 : some q9 ≠ u12.ownBlock := fun h => by have := hown q9 h.symm; omega
                have np : some p ≠ u12.ownBlock := fun h => by have := hlt0 p h.symm; omega
                have nb : some w.heap.size ≠ u12.ownBlock := fun h => by have := hlt0 _ h.symm; omega
                have nr : some (w.heap.size + 1) ≠ u12.ownBlock := fun h => by have := hlt0 _ h.symm; omega
                have g4p := (hgrow.block p (by simp; omega) np).trans hI1.1
                have g49 := (hgrow.block q9 (by simp; omega) n9).trans hI1.2
                have g4b := (hgrow.block w.heap.size (by simp; omega) nb).trans (heap_drew' (heap_alloc_off Hfbeg.out _))
                have g4r := (hgrow.block (w.heap.size + 1) (by simp; omega) nr).trans (heap_drew' (heap_alloc_off Hfres.out _))
                have hb4 : Below w.heap.size w w4 := (bl_drew (bl_alloc Hfbel.out _)).grown hgrow (by simp; omega) (fun k hk => by have := hlt0 k hk; omega)
                have hI4 : BoxPQ p q9 A1 A2 v1 v2 w4 := ⟨g4p, g49⟩
                clear hnews hinf hz0 hz1 hz2 hI1 hI z9c fallc fallf
                have Hhgrow := Lib.hid hgrow; clear hgrow; have Hhown' := Lib.hid hown'; clear hown'; have Hg4p := Lib.hid g4p; clear g4p; have Hg49 := Lib.hid g49; clear g49; have Hg4b := Lib.hid g4b; clear g4b; have Hg4r := Lib.hid g4r; clear g4r; have Hhb4 := Lib.hid hb4; clear hb4; have Hn9 := Lib.hid n9; clear n9; have Hnp := Lib.hid np; clear np; have Hnb := Lib.hid nb; clear nb; have Hnr := Lib.hid nr; clear nr
                go_wp2_with fail
                refine onNormal_mk hI4 (OrdI_cons ?_)
                (apply StI_eff rfl; go_wp2_with (first | (go_at_call 15; refine (later_any A1 A2 v1 v2 _).mono ?_; rintro e w5 ⟨rfl, hb5⟩)))
                have k5p := heap_below hb5 Hg4p.out
                have k59 := heap_below hb5 Hg49.out
                have k5b := heap_below hb5 Hg4b.out
                have k5r := heap_below hb5 Hg4r.out
                have row5 := row_below Hhown'.out hb5
                have hb5w := bl_step Hhb4.out hb5
                have hsz5 := hb5.size
                have hI5 : BoxPQ p q9 A1 A2 v1 v2 w5 := ⟨k5p, k59⟩
                refine onNormal_mk hI5 (OrdI_snk ?_)
                have k5pc := cells_of k5p
                have k5pf := frozen_of k5p
                have k5pl := lt_of_heap k5p
                clear hb5
                have Hk5p := Lib.hid k5p; clear k5p; have Hk59 := Lib.hid k59; clear k59; have Hk5b := Lib.hid k5b; clear k5b; have Hk5r := Lib.hid k5r; clear k5r; have Hrow5 := Lib.hid row5; clear row5; have Hhb5w := Lib.hid hb5w; clear hb5w; have HhI5 := Lib.hid hI5; clear hI5; have HhI4 := Lib.hid hI4; clear hI4
                (apply StI_plain (w0 := w5) HhI5.out rfl rfl rfl rfl; (focus (intro W hW K hK; skip; go_step; exact hK)); (focus rfl))
                (apply StI_eff rfl; go_wp2_with (first | fail))
                refine onNormal_last ?_
                go_wp2_with fail
                go_roundw
                case rel =>
                  have hnx := Hhnext.out
                  rw [Hhse.out] at hnx
                  refine ⟨n + 1, by omega, by go_num, ?_, ?_, ?_, ?_, ?_, by simp; omega⟩
                  · rw [hnx, wcells_snoc]
                    exact ownsRow_setCell_below (ownsRow_setCell_below Hrow5.out (by show p < p + 1; omega) _) (by show p < p + 1; omega) _
                  · rw [hnx, allT_snoc, HhA.out]
                    exact (heap_setCell_at ((heap_setCell_at Hk5p.out _).trans rfl) _).trans (by first | rfl | simp [laterT])
                  · exact heap_setCell_off (heap_setCell_off Hk5b.out _ (by omega)) _ (by omega)
                  · exact heap_setCell_off (heap_setCell_off Hk5r.out _ (by omega)) _ (by omega)
                  · exact bl_setCell (bl_setCell Hhb5w.out _ _ (by show _ ≤ p; omega)) _ _ (by show _ ≤ p; omega)
                case measure => simp [intOf]; omega
        · obtain rfl : n = l.length := by omega
          rw [List.take_length] at hrow zp
          obtain ⟨A, hA⟩ : ∃ A, allT (b0, b1) (closeT (b0, b1) ws l) = A := ⟨_, rfl⟩
          rw [hA] at zp
          obtain ⟨A1, A2⟩ := A
          simp only at zp
          have zpc := cells_of zp
          have zpl := lt_of_heap zp
          have z2c := cells_of z2
          have z2f := frozen_of z2
          have z2l := lt_of_heap z2
          have hnr : u12.ownBlock ≠ some (w.heap.size + 1) := fun h => by have := (hrow.lt _ h).1; omega
          have hI : BoxPQ p p A1 A2 A1 A2 wr.drew := ⟨zp, zp⟩
          have ROW := Lib.hid hrow
          clear hrow
          have Hzp := Lib.hid zp; clear zp; have Hz1 := Lib.hid z1; clear z1; have Hz2 := Lib.hid z2; clear z2; have Hhbq := Lib.hid hbq; clear hbq; have HhA := Lib.hid hA; clear hA; have Hhnr := Lib.hid hnr; clear hnr
          go_upto_region 32 with fail
          refine wp_region_ord (BoxPQ p p A1 A2 A1 A2) [([0, 1, 2], 3)] [4] none (by kernel_rfl) (by kernel_rfl) hI ?_
          refine OrdI_cons ?_
          (apply StI_plain (w0 := wr.drew) hI rfl rfl rfl rfl; (focus (intro W hW K hK; have := cells_of hW.1; go_step; exact hK)); (focus rfl)); (apply StI_plain (w0 := wr.drew) hI rfl rfl rfl rfl; (focus (intro W hW K hK; have := cells_of hW.1; go_step; exact hK)); (focus rfl)); (apply StI_plain (w0 := wr.drew) hI rfl rfl rfl rfl; (focus (intro W hW K hK; have := cells_of hW.1; go_step; exact hK)); (focus rfl))
          (apply StI_eff rfl; go_wp2_with (first | fail))
          have hI2 : BoxPQ p p A1 A2 A1 A2 ((wr.setCell ⟨w.heap.size + 1, 0, none⟩ (.int .i64 A1)).setCell ⟨w.heap.size + 1, 1, none⟩ (.int .i64 A2)).drew := ⟨heap_drew' (heap_setCell_off (heap_setCell_off Hzp.out _ (by omega)) _ (by omega)), heap_drew' (heap_setCell_off (heap_setCell_off Hzp.out _ (by omega)) _ (by omega))⟩
          refine onNormal_mk hI2 (OrdI_fin ?_)
          (apply StI_plain (w0 := ((wr.setCell ⟨w.heap.size + 1, 0, none⟩ (.int .i64 A1)).setCell ⟨w.heap.size + 1, 1, none⟩ (.int .i64 A2)).drew) hI2 rfl rfl rfl rfl; (focus (intro W hW K hK; skip; go_step; exact hK)); (focus rfl))
          refine StI_nil ?_
          go_wp2_with fail
          ((try simp only [Exit.inBlock, Exit.then]); refine bodyPost_ret (v := .tuple #[u12, .agg #[.int .i64 A1, .int .i64 A2], .int .i64 0]) (by simp [results, Try.results8, go_sem, *]) rfl ?_)
          have hrw : ((wr.setCell ⟨w.heap.size + 1, 0, none⟩ (.int .i64 A1)).setCell ⟨w.heap.size + 1, 1, none⟩ (.int .i64 A2)).ownsRow w.heap.size 36 2 u12 l.length (wcells (closeT (b0, b1) ws l)) := by
            obtain ⟨hr1, hr2⟩ := ownsRow_setCell_below (ownsRow_setCell_below ROW.out (a := ⟨w.heap.size + 1, 0, none⟩) (by show w.heap.size + 1 < p + 1; omega) (.int .i64 A1)) (a := ⟨w.heap.size + 1, 1, none⟩) (by show w.heap.size + 1 < p + 1; omega) (.int .i64 A2)
            refine ⟨hr1, ?_⟩
            rcases hr2 with h | ⟨g, cap, cur, h1, h2, h3⟩
            · exact .inl h
            · exact .inr ⟨g, cap, cur, h1, by omega, h3⟩
          refine ⟨u12, by rw [HhA.out], ?_, ?_⟩
          · first | exact hrw | exact hrw.drew
          · have := Hhbq.out
            repeat (first | assumption | refine bl_drew ?_ | refine bl_setCell ?_ _ _ (by show _ ≤ w.heap.size + 1; omega))
end Go.Proofs.Ytahoobhjabhfmaa
