/- drill: tallies. -/
import Derived.Test.YtjoihijlcpnhoaaTalG
import Derived.Test.YtjoihijlcpnhoaaBgD
import Derived.OwnWalk
namespace Go.Proofs.Ytjoihijlcpnhoaa
open Go.RowKit

theorem infoTl : (Try.prog.info? 82).map (fun i => (i.zero, i.size, i.bytes)) = some (some (.agg #[.int .i64 0, .int .i64 0, .int .i64 0, .int .i64 0, .int .i64 0, .int .i64 0]), 6, 48) := by kernel_rfl
theorem made_tallies (n : Nat) : (madeCells (Value.agg #[.int .i64 0, .int .i64 0, .int .i64 0, .int .i64 0, .int .i64 0, .int .i64 0]).cells (n * 6)).toList = tcells (List.replicate n Tally.z) := by
  apply List.ext_getElem?
  intro i
  by_cases h : i < n * 6
  · have e : i = (i / 6) * 6 + i % 6 := by omega
    have hr : (tcells (List.replicate n Tally.z))[i]? = some (.int .i64 0) := by
      rw [e, tcells_get _ (i / 6) (i % 6) (by simp; omega) (by omega)]
      simp only [List.getElem_replicate]
      have h6 : i % 6 = 0 ∨ i % 6 = 1 ∨ i % 6 = 2 ∨ i % 6 = 3 ∨ i % 6 = 4 ∨ i % 6 = 5 := by omega
      rcases h6 with h | h | h | h | h | h <;> rw [h] <;> rfl
    rw [hr]
    have h6 : i % 6 = 0 ∨ i % 6 = 1 ∨ i % 6 = 2 ∨ i % 6 = 3 ∨ i % 6 = 4 ∨ i % 6 = 5 := by omega
    simp only [madeCells, Value.cells, Array.toList_map, Array.toList_range, List.getElem?_map, List.getElem?_range h, Option.map_some]
    rcases h6 with h | h | h | h | h | h <;> simp [h]
  · rw [List.getElem?_eq_none (by simp [size_madeCells]; omega), List.getElem?_eq_none (by rw [tcells_length]; simp; omega)]

def unpl (g : Group) : Tally := { Tally.z with unplanned := g.count }
/-- The tallies while the groups are laid out. -/
def grpL (l : List Group) (k : Nat) : List Tally := (l.take k).map unpl ++ List.replicate (l.length - k) Tally.z
theorem grpL_len (l : List Group) (k : Nat) (h : k ≤ l.length) : (grpL l k).length = l.length := by simp [grpL]; omega
theorem grpL_get (l : List Group) (k : Nat) (h : k < l.length) : (grpL l k)[k]'(by rw [grpL_len l k (by omega)]; exact h) = Tally.z := by
  unfold grpL
  rw [List.getElem_append_right (by simp; omega)]
  simp
theorem grpL_set (l : List Group) (k : Nat) (h : k < l.length) : (grpL l k).set k (unpl l[k]) = grpL l (k + 1) := by
  unfold grpL
  have e : l.length - k = (l.length - (k + 1)) + 1 := by omega
  have hl : ((l.take k).map unpl).length = k := by simp; omega
  rw [List.set_append_right _ _ (by omega), hl, Nat.sub_self, e, List.replicate_succ, List.set_cons_zero, List.take_succ_eq_append_getElem h, List.map_append, List.append_assoc]
  rfl

theorem grpL_all (l : List Group) : grpL l l.length = l.map unpl := by simp [grpL]
theorem unpl_le {T : Town} (hG : TownG T) : TB 100000 (T.groups.map unpl) := by
  intro t ht
  obtain ⟨g, hg, rfl⟩ := List.mem_map.1 ht
  have := (hG.group g hg).2.2
  unfold unpl Tally.z Tally.le
  simp only
  omega
theorem tlSet_get (l : List Tally) (i : Int) (f : Tally → Tally) {t : Tally} (ht : l[i.toNat]? = some t) : tlSet l i f = l.set i.toNat (f t) := by
  unfold tlSet
  rw [List.getD_eq_getElem?_getD, ht]
  rfl

/-- The row of tallies. -/
def TRow (base : Nat) (W : World) (g n : Nat) (l : List Tally) : Prop := W.ownsRow base 82 6 (.slice (some ⟨g, 0, none⟩) n n) n (tcells l) ∧ l.length = n
theorem TRow.lt {base : Nat} {W : World} {g n : Nat} {l : List Tally} (h : TRow base W g n l) : base ≤ g ∧ g < W.heap.size := h.1.lt g rfl
theorem TRow.cell {base : Nat} {W : World} {g n : Nat} {l : List Tally} (h : TRow base W g n l) {i : Nat} {t : Tally} (ht : l[i]? = some t) (j : Nat) (hj : j < 6) : W.cell? ⟨g, i * 6 + j, none⟩ = (tcell t)[j]? := by
  obtain ⟨hi, he⟩ := List.getElem?_eq_some_iff.1 ht
  have h2 := h.2
  rw [← he]
  exact (h.1.cellAt (i * 6 + j) (by omega)).trans (tcells_get l i j hi hj)
theorem TRow.write {base : Nat} {W : World} {g n : Nat} {l : List Tally} (h : TRow base W g n l) {i : Nat} {t : Tally} (ht : l[i]? = some t) (j : Nat) (hj : j < 6) (v : Value) (t' : Tally) (he : (tcell t).set j v = tcell t') : TRow base (W.setCell ⟨g, i * 6 + j, none⟩ v) g n (l.set i t') := by
  obtain ⟨hi, hl⟩ := List.getElem?_eq_some_iff.1 ht
  refine ⟨?_, by rw [List.length_set]; exact h.2⟩
  rw [← tcells_set l i j t' v hi hj (by rw [hl]; exact he)]
  exact (h.1.stored (i * 6 + j) v).1
theorem TRow.below {base : Nat} {W W' : World} {g n : Nat} {l : List Tally} (h : TRow base W g n l) (hb : Below W.heap.size W W') : TRow base W' g n l := ⟨row_below h.1 hb, h.2⟩
theorem TRow.frozen {base : Nat} {W : World} {g n : Nat} {l : List Tally} (h : TRow base W g n l) : ∀ o, W.frozen? ⟨g, o, none⟩ = false := row_frozen h.1

set_option maxHeartbeats 16000000 in
set_option maxRecDepth 100000 in
theorem tallies_any (T : Town) (a1 a2 a3 a4 : Option Addr) (c1 c2 c3 c4 : Nat) (p : Plan) (p1 p2 : Option Addr) (d1 d2 : Nat) (B : Nat) (A : RA) (w : World) (r : RunS) (s : Int) (um : Option Nat) (hG : TownG T) (hPG : PlanG T p) (h : RunM T a1 a2 a3 a4 c1 c2 c3 c4 p p1 p2 d1 d2 B A w r s um) (hR : RunG T r) (hTal : TalG p.trips.length r)
    (hlp : r.parties.length = p.trips.length + p.rides.length) (hlw : r.waits.length = boardsN p.rides) :
    Calls Try.prog 36 #[.pointer (some ⟨A.rb, 0, none⟩)] w
      fun e w' => ∃ v, e = .returned v ∧ w'.ownsRow w.heap.size 82 6 v T.groups.length (tcells (talliesT T p r)) ∧ Below w.heap.size w w' := by
  have hac := cells_of h.blk
  have hal := lt_of_heap h.blk
  simp only [runCells] at hac
  have hng := hG.ng
  have hlg := h.town.groups.1
  obtain ⟨i0, hinf, hz0, hz1, hz2⟩ := info_part infoTl
  have Hh := Lib.hid h; clear h; have HhR := Lib.hid hR; clear hR; have HhTal := Lib.hid hTal; clear hTal; have HhG := Lib.hid hG; clear hG; have HhPG := Lib.hid hPG; clear hPG; have Hhlp := Lib.hid hlp; clear hlp; have Hhlw := Lib.hid hlw; clear hlw; have Hhinf := Lib.hid hinf; clear hinf; have Hhz0 := Lib.hid hz0; clear hz0; have Hhz1 := Lib.hid hz1; clear hz1; have Hhz2 := Lib.hid hz2; clear hz2
  go_enter Try.func36, Try.ntmps36
  go_upto_region 2 with (at_make; refine wpList_make_full _ rfl _ _ 78 rfl w.heap.size 82 i0 _ 6 Try.underlying78 Hhinf.out Hhz0.out Hhz1.out .i64 .i64 _ _ T.groups.length rfl rfl rfl rfl (by rw [Hhz2.out]; omega) (by unfold maxLen; omega) (Nat.le_refl _) ?_; intro w1 hrow1 hg1)
  have hb1 : Below w.heap.size w w1 := ⟨hg1.os, hg1.tape, hg1.output, hg1.size, fun q hq => hg1.block q hq (by simp)⟩
  obtain ⟨gq, hgq⟩ : ∃ q, w.heap.size = q := ⟨_, rfl⟩
  obtain ⟨n, hn⟩ : ∃ k, T.groups.length = k := ⟨_, rfl⟩
  have hT1 : TRow w.heap.size w1 gq n (grpL T.groups 0) := by
    rw [made_tallies] at hrow1
    refine ⟨?_, by rw [grpL_len _ _ (by omega), hn]⟩
    rw [← hgq, ← hn]
    simpa [grpL] using hrow1
  have hr1 := Hh.out.below hb1
  clear hac hal hrow1 hg1
  have hac := cells_of hr1.blk
  have hal := lt_of_heap hr1.blk
  simp only [runCells] at hac
  rw [hgq, hn]
  rw [hn] at hac hng
  have Hhb1 := Lib.hid hb1; clear hb1; have HhT1 := Lib.hid hT1; clear hT1; have Hhr1 := Lib.hid hr1; clear hr1; have Hhgq := Lib.hid hgq; clear hgq; have Hhn := Lib.hid hn; clear hn
  go_wp2_with fail
  go_loopw [29] (fun i W => ∃ k : Nat, k ≤ n ∧ i = .int .i64 k ∧ TRow w.heap.size W gq n (grpL T.groups k) ∧ Below w.heap.size w W) (fun i _ => n - (intOf i).toNat)
  case atStart => exact ⟨0, Nat.zero_le _, rfl, HhT1.out, Hhb1.out⟩
  case round =>
    obtain ⟨k, hk, rfl, hTk, hbk⟩ := hrel
    by_cases hltk : k < n
    · as_aux_lemma =>
      have hkg : k < T.groups.length := by have := Hhn.out; omega
      have hrk := Hh.out.below hbk
      obtain ⟨bg, offg, ha3, hbg, g0, g1, g2⟩ := hrk.town.groups.2 k hkg
      subst ha3
      obtain ⟨gr, hgrq⟩ : ∃ q, T.groups[k] = q := ⟨_, rfl⟩
      rw [hgrq] at g0 g1 g2
      have hbgw : bg < wr.heap.size := by have := hrk.le; omega
      have hgl := hTk.lt
      have hz : (grpL T.groups k)[k]? = some Tally.z := by rw [List.getElem?_eq_getElem (by rw [grpL_len _ _ (by omega)]; exact hkg), grpL_get T.groups k hkg]
      have k5 : wr.cell? ⟨gq, k * 6 + 5, none⟩ = some (.int .i64 0) := hTk.cell hz 5 (by omega)
      have hgf := hTk.frozen
      clear hac hal
      have HhTk := Lib.hid hTk; clear hTk; have Hhbk := Lib.hid hbk; clear hbk; have Hhrk := Lib.hid hrk; clear hrk; have Hhgrq := Lib.hid hgrq; clear hgrq; have Hhz := Lib.hid hz; clear hz
      go_wp2_with fail
      go_roundw
      case rel =>
        refine ⟨k + 1, by omega, by go_num, ?_, ?_⟩
        · have hbx := bl_alloc (Below.refl wr.heap.size wr) (.cells #[.int .i64 gr.place, .int .i64 gr.cls, .int .i64 gr.count] 43)
          have h1 := (HhTk.out.write Hhz.out 5 (by omega) (.int .i64 gr.count) (unpl gr) rfl)
          have hset := grpL_set T.groups k hkg
          rw [Hhgrq.out] at hset
          rw [hset] at h1
          exact h1.below (bl_alloc (Below.refl _ _) _)
        · exact bl_alloc (bl_setCell Hhbk.out _ _ hgl.1) _
      case measure => simp [intOf]; omega
    · obtain rfl : k = n := by omega
      as_aux_lemma =>
      have hrk := Hh.out.below hbk
      clear hac hal
      have hac := cells_of hrk.blk
      have hal := lt_of_heap hrk.blk
      simp only [runCells] at hac
      have hlt := hrk.plan.trips.1
      have Hhrk := Lib.hid hrk; clear hrk; have HhTk := Lib.hid hTk; clear hTk; have Hhbk := Lib.hid hbk; clear hbk
      go_wp2_with fail
      have hL0 : grpL T.groups k = T.groups.map unpl := by rw [← Hhn.out]; exact grpL_all _
      have hT2 := HhTk.out
      rw [hL0] at hT2
      clear hac hal
      have HhT2 := Lib.hid hT2; clear hT2; have HhL0 := Lib.hid hL0; clear hL0
      go_loopw [47] (fun i W => ∃ j : Nat, j ≤ p.trips.length ∧ i = .int .i64 j ∧ TRow w.heap.size W gq k (tallyTrips r 0 (p.trips.take j) (T.groups.map unpl)) ∧ TB (100000 + j * 400000) (tallyTrips r 0 (p.trips.take j) (T.groups.map unpl)) ∧ Below w.heap.size w W) (fun i _ => p.trips.length - (intOf i).toNat)
      case atStart => exact ⟨0, Nat.zero_le _, rfl, HhT2.out, by simpa [tallyTrips] using unpl_le HhG.out, Hhbk.out⟩
      case round =>
        clear HhT2 HhTk Hhbk Hhrk
        obtain ⟨j, hj, rfl, hTj, hBj, hbj⟩ := hrel
        by_cases hltj : j < p.trips.length
        · as_aux_lemma =>
          have hrj := Hh.out.below hbj
          obtain ⟨b, off, hp1, hbb, ah, ch, f0, f1, f2, f3, hsl⟩ := hrj.plan.trips.2 j hltj
          have htg := HhPG.out.trips _ (List.getElem_mem hltj)
          obtain ⟨x, hxq⟩ : ∃ q, p.trips[j] = q := ⟨_, rfl⟩
          rw [hxq] at f0 f1 f2 f3 hsl htg
          have hgr := htg.group
          have hcnt := htg.count
          subst hp1
          have hpn : j < r.parties.length := by have := Hhlp.out; omega
          obtain ⟨L, hLq⟩ : ∃ q, tallyTrips r 0 (p.trips.take j) (T.groups.map unpl) = q := ⟨_, rfl⟩
          rw [hLq] at hTj hBj
          obtain ⟨gi, hgi⟩ : ∃ q, x.group.toNat = q := ⟨_, rfl⟩
          have hgik : gi < k := by have := Hhn.out; omega
          obtain ⟨tl, htl⟩ : ∃ t, L[gi]? = some t := ⟨L[gi]'(by rw [hTj.2]; exact hgik), List.getElem?_eq_getElem _⟩
          have htle : tl.le (100000 + j * 400000) := hBj _ (List.mem_of_getElem? htl)
          have hbw3 : b < wr.heap.size := by have := hrj.le; omega
          have hgI : (gi : Int) < (k : Int) := by omega
          have hgx : x.group = (gi : Int) := by omega
          rw [hgx] at f0
          clear hgr
          have HhTj := Lib.hid hTj; clear hTj; have HhBj := Lib.hid hBj; clear hBj; have Hhbj := Lib.hid hbj; clear hbj; have Hhrj := Lib.hid hrj; clear hrj; have Hhxq := Lib.hid hxq; clear hxq; have Hhtl := Lib.hid htl; clear htl; have Hhtle := Lib.hid htle; clear htle; have Hhgi := Lib.hid hgi; clear hgi; have Hhgx := Lib.hid hgx; clear hgx; have Hhtg := Lib.hid htg; clear htg; have Hhsl := Lib.hid hsl; clear hsl
          go_upto_region 11 with fail
          obtain ⟨q7, hq7⟩ : ∃ q, wr.heap.size = q := ⟨_, rfl⟩
          obtain ⟨w5, hw5⟩ : ∃ W, wr.alloc (.cells #[.int .i64 gi, .int .i64 x.count, .slice ah x.hops.length (x.hops.length + ch), .int .i64 x.enter] 41) = W := ⟨_, rfl⟩
          have x7 : w5.heap[q7]? = some (.cells #[.int .i64 gi, .int .i64 x.count, .slice ah x.hops.length (x.hops.length + ch), .int .i64 x.enter] 41 (0, 0)) := by rw [← hw5, ← hq7]; exact heap_alloc_at _ _
          have hb5 : Below wr.heap.size wr w5 := by rw [← hw5]; exact bl_alloc (Below.refl _ _) _
          have hbw5 : Below w.heap.size w w5 := bl_step Hhbj.out hb5
          have hT5 := HhTj.out.below hb5
          have hr5 := Hhrj.out.below hb5
          rw [hw5, hq7]
          clear hw5 f0 f1 f2 f3
          have hpp := HhTal.out.trip j hltj
          obtain ⟨hpa, hpc, hpb, _⟩ := hr5.pt j hpn
          obtain ⟨y, hyq⟩ : ∃ y, r.pt j = y := ⟨_, rfl⟩
          rw [hyq] at hpp hpb
          obtain ⟨gv, vc, hvp, _, hgvl⟩ := hr5.rowp.form (by omega)
          have hptr := (hr5.ptr hpn hvp).1
          have hac := cells_of hr5.blk
          have hal := lt_of_heap hr5.blk
          simp only [runCells] at hac
          rw [hvp] at hac
          have hyc := cells_of hpb
          have hyl := lt_of_heap hpb
          simp only [partyCells] at hyc
          have c7 := cells_of x7
          have l7 := lt_of_heap x7
          have hgf := hT5.frozen
          have k5 : w5.cell? ⟨gq, gi * 6 + 5, none⟩ = some (.int .i64 tl.unplanned) := hT5.cell Hhtl.out 5 (by omega)
          have hgl5 := hT5.lt.2
          have hle' := Hhtle.out
          unfold Tally.le at hle'
          have hjn : (j : Int) ≤ 4096 := by have := HhPG.out.nt; omega
          have hnp2 : (j : Int) < (r.parties.length : Int) := by omega
          have hI : Below w5.heap.size w5 w5.drew := (Below.refl _ _).drew
          obtain ⟨npp, hnpp⟩ : ∃ q, r.parties.length = q := ⟨_, rfl⟩
          rw [hnpp] at hac hnp2
          have Hx7 := Lib.hid x7; clear x7; have Hhb5 := Lib.hid hb5; clear hb5; have Hhbw5 := Lib.hid hbw5; clear hbw5; have HhT5 := Lib.hid hT5; clear hT5; have Hhr5 := Lib.hid hr5; clear hr5; have Hhyq := Lib.hid hyq; clear hyq; have Hhpb := Lib.hid hpb; clear hpb; have Hhvp := Lib.hid hvp; clear hvp; have Hhnpp := Lib.hid hnpp; clear hnpp
          refine wp_region_ord (fun W => Below w5.heap.size w5 W) [] [0, 1, 2, 3, 4, 5, 6, 7, 8] (some 9) (by kernel_rfl) (by kernel_rfl) hI ?_
          refine OrdI_snk ?_
          (apply StI_plain (w0 := w5.drew) hI rfl rfl rfl rfl; (focus (intro W hW K hK; obtain ⟨_, _, _⟩ := bk q7 hW l7; obtain ⟨_, _, _⟩ := bk gq hW hgl5; go_step; exact hK)); (focus rfl)); (apply StI_plain (w0 := w5.drew) hI rfl rfl rfl rfl; (focus (intro W hW K hK; obtain ⟨_, _, _⟩ := bk q7 hW l7; obtain ⟨_, _, _⟩ := bk gq hW hgl5; go_step; exact hK)); (focus rfl)); (apply StI_plain (w0 := w5.drew) hI rfl rfl rfl rfl; (focus (intro W hW K hK; obtain ⟨_, _, _⟩ := bk q7 hW l7; obtain ⟨_, _, _⟩ := bk gq hW hgl5; go_step; exact hK)); (focus rfl)); (apply StI_plain (w0 := w5.drew) hI rfl rfl rfl rfl; (focus (intro W hW K hK; obtain ⟨_, _, _⟩ := bk q7 hW l7; obtain ⟨_, _, _⟩ := bk gq hW hgl5; go_step; exact hK)); (focus rfl)); (apply StI_plain (w0 := w5.drew) hI rfl rfl rfl rfl; (focus (intro W hW K hK; obtain ⟨_, _, _⟩ := bk q7 hW l7; obtain ⟨_, _, _⟩ := bk gq hW hgl5; go_step; exact hK)); (focus rfl)); (apply StI_plain (w0 := w5.drew) hI rfl rfl rfl rfl; (focus (intro W hW K hK; obtain ⟨_, _, _⟩ := bk q7 hW l7; obtain ⟨_, _, _⟩ := bk gq hW hgl5; go_step; exact hK)); (focus rfl)); (apply StI_plain (w0 := w5.drew) hI rfl rfl rfl rfl; (focus (intro W hW K hK; obtain ⟨_, _, _⟩ := bk q7 hW l7; obtain ⟨_, _, _⟩ := bk gq hW hgl5; go_step; exact hK)); (focus rfl)); (apply StI_plain (w0 := w5.drew) hI rfl rfl rfl rfl; (focus (intro W hW K hK; obtain ⟨_, _, _⟩ := bk q7 hW l7; obtain ⟨_, _, _⟩ := bk gq hW hgl5; go_step; exact hK)); (focus rfl)); (apply StI_plain (w0 := w5.drew) hI rfl rfl rfl rfl; (focus (intro W hW K hK; obtain ⟨_, _, _⟩ := bk q7 hW l7; obtain ⟨_, _, _⟩ := bk gq hW hgl5; go_step; exact hK)); (focus rfl))
          (apply StI_eff rfl; go_wp2_with fail)
          refine onNormal_last ?_
          obtain ⟨w6, hw6⟩ : ∃ W, (w5.setCell ⟨gq, gi * 6 + 5, none⟩ (.int .i64 (tl.unplanned - x.count))).drew = W := ⟨_, rfl⟩
          obtain ⟨t1, ht1⟩ : ∃ t : Tally, t = { tl with unplanned := tl.unplanned - x.count } := ⟨_, rfl⟩
          have hT6 : TRow w.heap.size w6 gq k (L.set gi t1) := by
            have h1 := HhT5.out.write Hhtl.out 5 (by omega) (.int .i64 (tl.unplanned - x.count)) t1 (by rw [ht1]; rfl)
            have h2 := h1.below (bl_drew (Below.refl _ _))
            rw [hw6] at h2
            exact h2
          have hbw6 : Below w.heap.size w w6 := by rw [← hw6]; exact bl_drew (bl_setCell Hhbw5.out _ _ (by have := hT6.lt.1; exact this))
          have hgi6 : (L.set gi t1)[gi]? = some t1 := by rw [List.getElem?_set_self (by rw [HhTj.out.2]; exact hgik)]
          have hq7gq : q7 ≠ gq := fun e => row_ne HhT5.out.1 Hx7.out (by decide) (by rw [e]; rfl)
          have x76 : w6.heap[q7]? = some (.cells #[.int .i64 gi, .int .i64 x.count, .slice ah x.hops.length (x.hops.length + ch), .int .i64 x.enter] 41 (0, 0)) := by
            rw [← hw6]
            exact heap_drew' ((setCell_other _ _ _ _ hq7gq).trans Hx7.out)
          rw [hw6]
          clear hw6 hac hal hyc hyl c7 l7 hgf hgl5 hptr hgvl k5 hI
          have hr6 := Hh.out.below hbw6
          obtain ⟨hpa6, hpc6, hpb6, _⟩ := hr6.pt j hpn
          rw [Hhyq.out] at hpb6
          have hptr6 := (hr6.ptr hpn Hhvp.out).1
          have hgvl6 := (hr6.ptr hpn Hhvp.out).2
          have hac := cells_of hr6.blk
          have hal := lt_of_heap hr6.blk
          simp only [runCells] at hac
          rw [Hhvp.out, Hhnpp.out] at hac
          have hyc := cells_of hpb6
          have hyl := lt_of_heap hpb6
          simp only [partyCells] at hyc
          have c7 := cells_of x76
          have l7 := lt_of_heap x76
          have hgf := hT6.frozen
          have hgl6 := hT6.lt.2
          have k2 : w6.cell? ⟨gq, gi * 6 + 2, none⟩ = some (.int .i64 tl.absent) := by rw [hT6.cell hgi6 2 (by omega), ht1]; rfl
          have hI : Below w6.heap.size w6 w6.drew := (Below.refl _ _).drew
          have HhT6 := Lib.hid hT6; clear hT6; have Hhbw6 := Lib.hid hbw6; clear hbw6; have Hhgi6 := Lib.hid hgi6; clear hgi6; have Hx76 := Lib.hid x76; clear x76; have Hhr6 := Lib.hid hr6; clear hr6; have Hhpb6 := Lib.hid hpb6; clear hpb6; have Hht1 := Lib.hid ht1; clear ht1
          go_upto_region 12 with fail
          refine wp_region_ord (fun W => Below w6.heap.size w6 W) [] [0, 1, 2, 3, 4, 5, 6, 7, 8, 9, 10, 11, 12, 13, 14, 15, 16, 17, 18, 19] (some 20) (by kernel_rfl) (by kernel_rfl) hI ?_
          refine OrdI_snk ?_
          (apply StI_plain (w0 := w6.drew) hI rfl rfl rfl rfl; (focus (intro W hW K hK; obtain ⟨_, _, _⟩ := bk q7 hW l7; obtain ⟨_, _, _⟩ := bk gq hW hgl6; obtain ⟨_, _, _⟩ := bk A.rb hW hal; obtain ⟨_, _, _⟩ := bk gv hW hgvl6; obtain ⟨_, _, _⟩ := bk (A.pb j) hW hyl; go_step; exact hK)); (focus rfl)); (apply StI_plain (w0 := w6.drew) hI rfl rfl rfl rfl; (focus (intro W hW K hK; obtain ⟨_, _, _⟩ := bk q7 hW l7; obtain ⟨_, _, _⟩ := bk gq hW hgl6; obtain ⟨_, _, _⟩ := bk A.rb hW hal; obtain ⟨_, _, _⟩ := bk gv hW hgvl6; obtain ⟨_, _, _⟩ := bk (A.pb j) hW hyl; go_step; exact hK)); (focus rfl)); (apply StI_plain (w0 := w6.drew) hI rfl rfl rfl rfl; (focus (intro W hW K hK; obtain ⟨_, _, _⟩ := bk q7 hW l7; obtain ⟨_, _, _⟩ := bk gq hW hgl6; obtain ⟨_, _, _⟩ := bk A.rb hW hal; obtain ⟨_, _, _⟩ := bk gv hW hgvl6; obtain ⟨_, _, _⟩ := bk (A.pb j) hW hyl; go_step; exact hK)); (focus rfl)); (apply StI_plain (w0 := w6.drew) hI rfl rfl rfl rfl; (focus (intro W hW K hK; obtain ⟨_, _, _⟩ := bk q7 hW l7; obtain ⟨_, _, _⟩ := bk gq hW hgl6; obtain ⟨_, _, _⟩ := bk A.rb hW hal; obtain ⟨_, _, _⟩ := bk gv hW hgvl6; obtain ⟨_, _, _⟩ := bk (A.pb j) hW hyl; go_step; exact hK)); (focus rfl)); (apply StI_plain (w0 := w6.drew) hI rfl rfl rfl rfl; (focus (intro W hW K hK; obtain ⟨_, _, _⟩ := bk q7 hW l7; obtain ⟨_, _, _⟩ := bk gq hW hgl6; obtain ⟨_, _, _⟩ := bk A.rb hW hal; obtain ⟨_, _, _⟩ := bk gv hW hgvl6; obtain ⟨_, _, _⟩ := bk (A.pb j) hW hyl; go_step; exact hK)); (focus rfl)); (apply StI_plain (w0 := w6.drew) hI rfl rfl rfl rfl; (focus (intro W hW K hK; obtain ⟨_, _, _⟩ := bk q7 hW l7; obtain ⟨_, _, _⟩ := bk gq hW hgl6; obtain ⟨_, _, _⟩ := bk A.rb hW hal; obtain ⟨_, _, _⟩ := bk gv hW hgvl6; obtain ⟨_, _, _⟩ := bk (A.pb j) hW hyl; go_step; exact hK)); (focus rfl)); (apply StI_plain (w0 := w6.drew) hI rfl rfl rfl rfl; (focus (intro W hW K hK; obtain ⟨_, _, _⟩ := bk q7 hW l7; obtain ⟨_, _, _⟩ := bk gq hW hgl6; obtain ⟨_, _, _⟩ := bk A.rb hW hal; obtain ⟨_, _, _⟩ := bk gv hW hgvl6; obtain ⟨_, _, _⟩ := bk (A.pb j) hW hyl; go_step; exact hK)); (focus rfl)); (apply StI_plain (w0 := w6.drew) hI rfl rfl rfl rfl; (focus (intro W hW K hK; obtain ⟨_, _, _⟩ := bk q7 hW l7; obtain ⟨_, _, _⟩ := bk gq hW hgl6; obtain ⟨_, _, _⟩ := bk A.rb hW hal; obtain ⟨_, _, _⟩ := bk gv hW hgvl6; obtain ⟨_, _, _⟩ := bk (A.pb j) hW hyl; go_step; exact hK)); (focus rfl)); (apply StI_plain (w0 := w6.drew) hI rfl rfl rfl rfl; (focus (intro W hW K hK; obtain ⟨_, _, _⟩ := bk q7 hW l7; obtain ⟨_, _, _⟩ := bk gq hW hgl6; obtain ⟨_, _, _⟩ := bk A.rb hW hal; obtain ⟨_, _, _⟩ := bk gv hW hgvl6; obtain ⟨_, _, _⟩ := bk (A.pb j) hW hyl; go_step; exact hK)); (focus rfl)); (apply StI_plain (w0 := w6.drew) hI rfl rfl rfl rfl; (focus (intro W hW K hK; obtain ⟨_, _, _⟩ := bk q7 hW l7; obtain ⟨_, _, _⟩ := bk gq hW hgl6; obtain ⟨_, _, _⟩ := bk A.rb hW hal; obtain ⟨_, _, _⟩ := bk gv hW hgvl6; obtain ⟨_, _, _⟩ := bk (A.pb j) hW hyl; go_step; exact hK)); (focus rfl)); (apply StI_plain (w0 := w6.drew) hI rfl rfl rfl rfl; (focus (intro W hW K hK; obtain ⟨_, _, _⟩ := bk q7 hW l7; obtain ⟨_, _, _⟩ := bk gq hW hgl6; obtain ⟨_, _, _⟩ := bk A.rb hW hal; obtain ⟨_, _, _⟩ := bk gv hW hgvl6; obtain ⟨_, _, _⟩ := bk (A.pb j) hW hyl; go_step; exact hK)); (focus rfl)); (apply StI_plain (w0 := w6.drew) hI rfl rfl rfl rfl; (focus (intro W hW K hK; obtain ⟨_, _, _⟩ := bk q7 hW l7; obtain ⟨_, _, _⟩ := bk gq hW hgl6; obtain ⟨_, _, _⟩ := bk A.rb hW hal; obtain ⟨_, _, _⟩ := bk gv hW hgvl6; obtain ⟨_, _, _⟩ := bk (A.pb j) hW hyl; go_step; exact hK)); (focus rfl)); (apply StI_plain (w0 := w6.drew) hI rfl rfl rfl rfl; (focus (intro W hW K hK; obtain ⟨_, _, _⟩ := bk q7 hW l7; obtain ⟨_, _, _⟩ := bk gq hW hgl6; obtain ⟨_, _, _⟩ := bk A.rb hW hal; obtain ⟨_, _, _⟩ := bk gv hW hgvl6; obtain ⟨_, _, _⟩ := bk (A.pb j) hW hyl; go_step; exact hK)); (focus rfl)); (apply StI_plain (w0 := w6.drew) hI rfl rfl rfl rfl; (focus (intro W hW K hK; obtain ⟨_, _, _⟩ := bk q7 hW l7; obtain ⟨_, _, _⟩ := bk gq hW hgl6; obtain ⟨_, _, _⟩ := bk A.rb hW hal; obtain ⟨_, _, _⟩ := bk gv hW hgvl6; obtain ⟨_, _, _⟩ := bk (A.pb j) hW hyl; go_step; exact hK)); (focus rfl)); (apply StI_plain (w0 := w6.drew) hI rfl rfl rfl rfl; (focus (intro W hW K hK; obtain ⟨_, _, _⟩ := bk q7 hW l7; obtain ⟨_, _, _⟩ := bk gq hW hgl6; obtain ⟨_, _, _⟩ := bk A.rb hW hal; obtain ⟨_, _, _⟩ := bk gv hW hgvl6; obtain ⟨_, _, _⟩ := bk (A.pb j) hW hyl; go_step; exact hK)); (focus rfl)); (apply StI_plain (w0 := w6.drew) hI rfl rfl rfl rfl; (focus (intro W hW K hK; obtain ⟨_, _, _⟩ := bk q7 hW l7; obtain ⟨_, _, _⟩ := bk gq hW hgl6; obtain ⟨_, _, _⟩ := bk A.rb hW hal; obtain ⟨_, _, _⟩ := bk gv hW hgvl6; obtain ⟨_, _, _⟩ := bk (A.pb j) hW hyl; go_step; exact hK)); (focus rfl)); (apply StI_plain (w0 := w6.drew) hI rfl rfl rfl rfl; (focus (intro W hW K hK; obtain ⟨_, _, _⟩ := bk q7 hW l7; obtain ⟨_, _, _⟩ := bk gq hW hgl6; obtain ⟨_, _, _⟩ := bk A.rb hW hal; obtain ⟨_, _, _⟩ := bk gv hW hgvl6; obtain ⟨_, _, _⟩ := bk (A.pb j) hW hyl; go_step; exact hK)); (focus rfl)); (apply StI_plain (w0 := w6.drew) hI rfl rfl rfl rfl; (focus (intro W hW K hK; obtain ⟨_, _, _⟩ := bk q7 hW l7; obtain ⟨_, _, _⟩ := bk gq hW hgl6; obtain ⟨_, _, _⟩ := bk A.rb hW hal; obtain ⟨_, _, _⟩ := bk gv hW hgvl6; obtain ⟨_, _, _⟩ := bk (A.pb j) hW hyl; go_step; exact hK)); (focus rfl)); (apply StI_plain (w0 := w6.drew) hI rfl rfl rfl rfl; (focus (intro W hW K hK; obtain ⟨_, _, _⟩ := bk q7 hW l7; obtain ⟨_, _, _⟩ := bk gq hW hgl6; obtain ⟨_, _, _⟩ := bk A.rb hW hal; obtain ⟨_, _, _⟩ := bk gv hW hgvl6; obtain ⟨_, _, _⟩ := bk (A.pb j) hW hyl; go_step; exact hK)); (focus rfl)); (apply StI_plain (w0 := w6.drew) hI rfl rfl rfl rfl; (focus (intro W hW K hK; obtain ⟨_, _, _⟩ := bk q7 hW l7; obtain ⟨_, _, _⟩ := bk gq hW hgl6; obtain ⟨_, _, _⟩ := bk A.rb hW hal; obtain ⟨_, _, _⟩ := bk gv hW hgvl6; obtain ⟨_, _, _⟩ := bk (A.pb j) hW hyl; go_step; exact hK)); (focus rfl))
          (apply StI_eff rfl; go_wp2_with fail)
          refine onNormal_last ?_
          obtain ⟨w7, hw7⟩ : ∃ W, (w6.setCell ⟨gq, gi * 6 + 2, none⟩ (.int .i64 (tl.absent + (x.count - y.people)))).drew = W := ⟨_, rfl⟩
          obtain ⟨t2, ht2⟩ : ∃ t : Tally, t = { tl with unplanned := tl.unplanned - x.count, absent := tl.absent + (x.count - y.people) } := ⟨_, rfl⟩
          have hT7 : TRow w.heap.size w7 gq k (L.set gi t2) := by
            have h1 := HhT6.out.write Hhgi6.out 2 (by omega) (.int .i64 (tl.absent + (x.count - y.people))) t2 (by rw [ht2, Hht1.out]; rfl)
            rw [List.set_set] at h1
            have h2 := h1.below (bl_drew (Below.refl _ _))
            rw [hw7] at h2
            exact h2
          have hbw7 : Below w.heap.size w w7 := by rw [← hw7]; exact bl_drew (bl_setCell Hhbw6.out _ _ (by have := hT7.lt.1; exact this))
          have hgi7 : (L.set gi t2)[gi]? = some t2 := by rw [List.getElem?_set_self (by rw [HhTj.out.2]; exact hgik)]
          have x77 : w7.heap[q7]? = some (.cells #[.int .i64 gi, .int .i64 x.count, .slice ah x.hops.length (x.hops.length + ch), .int .i64 x.enter] 41 (0, 0)) := by
            rw [← hw7]
            exact heap_drew' ((setCell_other _ _ _ _ hq7gq).trans Hx76.out)
          rw [hw7]
          clear hw7 hac hal hyc hyl c7 l7 hgf hgl6 hptr6 hgvl6 k2 hI
          have hr7 := Hh.out.below hbw7
          obtain ⟨hpa7, hpc7, hpb7, _⟩ := hr7.pt j hpn
          rw [Hhyq.out] at hpb7
          have hptr7 := (hr7.ptr hpn Hhvp.out).1
          have hgvl7 := (hr7.ptr hpn Hhvp.out).2
          have hac := cells_of hr7.blk
          have hal := lt_of_heap hr7.blk
          simp only [runCells] at hac
          rw [Hhvp.out, Hhnpp.out] at hac
          have hyc := cells_of hpb7
          have hyl := lt_of_heap hpb7
          simp only [partyCells] at hyc
          have c7 := cells_of x77
          have l7 := lt_of_heap x77
          have hgf := hT7.frozen
          have hgl7 := hT7.lt.2
          have hI : Below w7.heap.size w7 w7.drew := (Below.refl _ _).drew
          have h2le : t2.le (100000 + j * 400000 + 200000) := by rw [ht2]; unfold Tally.le; simp only; omega
          have HC : ∀ W, Below w7.heap.size w7 W → Calls Try.prog 71 #[.pointer (some ⟨gq, gi * 6, none⟩), .int .i64 y.state, .int .i64 y.people] W fun e w' => (∃ u, e = .returned u) ∧ w' = W.setCell ⟨gq, gi * 6 + tidx y.state, none⟩ (.int .i64 (tval t2 y.state + y.people)) := by
            intro W hW
            have hTW := hT7.below hW
            refine count_any gq (gi * 6) t2 y.state y.people W hTW.lt.2 hTW.frozen (fun jj hjj => hTW.cell hgi7 jj hjj) (by omega) ?_
            unfold Tally.le at h2le
            unfold tval
            split
            · omega
            split
            · omega
            split <;> omega
          have HhT7 := Lib.hid hT7; clear hT7; have Hhbw7 := Lib.hid hbw7; clear hbw7; have Hhgi7 := Lib.hid hgi7; clear hgi7; have Hx77 := Lib.hid x77; clear x77; have Hhr7 := Lib.hid hr7; clear hr7; have Hhpb7 := Lib.hid hpb7; clear hpb7; have Hht2 := Lib.hid ht2; clear ht2; have Hh2le := Lib.hid h2le; clear h2le; have HHC := Lib.hid HC; clear HC
          go_upto_region 13 with fail
          refine wp_region_ord (fun W => Below w7.heap.size w7 W) [] [0, 1, 2, 3, 4, 5, 6, 7, 8, 9, 10, 11, 12, 13, 14, 15, 16, 17, 18, 19, 20] (some 21) (by kernel_rfl) (by kernel_rfl) hI ?_
          refine OrdI_snk ?_
          (apply StI_plain (w0 := w7.drew) hI rfl rfl rfl rfl; (focus (intro W hW K hK; obtain ⟨_, _, _⟩ := bk A.rb hW hal; obtain ⟨_, _, _⟩ := bk gv hW hgvl7; obtain ⟨_, _, _⟩ := bk (A.pb j) hW hyl; go_step; exact hK)); (focus rfl)); (apply StI_plain (w0 := w7.drew) hI rfl rfl rfl rfl; (focus (intro W hW K hK; obtain ⟨_, _, _⟩ := bk A.rb hW hal; obtain ⟨_, _, _⟩ := bk gv hW hgvl7; obtain ⟨_, _, _⟩ := bk (A.pb j) hW hyl; go_step; exact hK)); (focus rfl)); (apply StI_plain (w0 := w7.drew) hI rfl rfl rfl rfl; (focus (intro W hW K hK; obtain ⟨_, _, _⟩ := bk A.rb hW hal; obtain ⟨_, _, _⟩ := bk gv hW hgvl7; obtain ⟨_, _, _⟩ := bk (A.pb j) hW hyl; go_step; exact hK)); (focus rfl)); (apply StI_plain (w0 := w7.drew) hI rfl rfl rfl rfl; (focus (intro W hW K hK; obtain ⟨_, _, _⟩ := bk A.rb hW hal; obtain ⟨_, _, _⟩ := bk gv hW hgvl7; obtain ⟨_, _, _⟩ := bk (A.pb j) hW hyl; go_step; exact hK)); (focus rfl)); (apply StI_plain (w0 := w7.drew) hI rfl rfl rfl rfl; (focus (intro W hW K hK; obtain ⟨_, _, _⟩ := bk A.rb hW hal; obtain ⟨_, _, _⟩ := bk gv hW hgvl7; obtain ⟨_, _, _⟩ := bk (A.pb j) hW hyl; go_step; exact hK)); (focus rfl)); (apply StI_plain (w0 := w7.drew) hI rfl rfl rfl rfl; (focus (intro W hW K hK; obtain ⟨_, _, _⟩ := bk A.rb hW hal; obtain ⟨_, _, _⟩ := bk gv hW hgvl7; obtain ⟨_, _, _⟩ := bk (A.pb j) hW hyl; go_step; exact hK)); (focus rfl)); (apply StI_plain (w0 := w7.drew) hI rfl rfl rfl rfl; (focus (intro W hW K hK; obtain ⟨_, _, _⟩ := bk A.rb hW hal; obtain ⟨_, _, _⟩ := bk gv hW hgvl7; obtain ⟨_, _, _⟩ := bk (A.pb j) hW hyl; go_step; exact hK)); (focus rfl)); (apply StI_plain (w0 := w7.drew) hI rfl rfl rfl rfl; (focus (intro W hW K hK; obtain ⟨_, _, _⟩ := bk A.rb hW hal; obtain ⟨_, _, _⟩ := bk gv hW hgvl7; obtain ⟨_, _, _⟩ := bk (A.pb j) hW hyl; go_step; exact hK)); (focus rfl)); (apply StI_plain (w0 := w7.drew) hI rfl rfl rfl rfl; (focus (intro W hW K hK; obtain ⟨_, _, _⟩ := bk A.rb hW hal; obtain ⟨_, _, _⟩ := bk gv hW hgvl7; obtain ⟨_, _, _⟩ := bk (A.pb j) hW hyl; go_step; exact hK)); (focus rfl)); (apply StI_plain (w0 := w7.drew) hI rfl rfl rfl rfl; (focus (intro W hW K hK; obtain ⟨_, _, _⟩ := bk A.rb hW hal; obtain ⟨_, _, _⟩ := bk gv hW hgvl7; obtain ⟨_, _, _⟩ := bk (A.pb j) hW hyl; go_step; exact hK)); (focus rfl)); (apply StI_plain (w0 := w7.drew) hI rfl rfl rfl rfl; (focus (intro W hW K hK; obtain ⟨_, _, _⟩ := bk A.rb hW hal; obtain ⟨_, _, _⟩ := bk gv hW hgvl7; obtain ⟨_, _, _⟩ := bk (A.pb j) hW hyl; go_step; exact hK)); (focus rfl)); (apply StI_plain (w0 := w7.drew) hI rfl rfl rfl rfl; (focus (intro W hW K hK; obtain ⟨_, _, _⟩ := bk A.rb hW hal; obtain ⟨_, _, _⟩ := bk gv hW hgvl7; obtain ⟨_, _, _⟩ := bk (A.pb j) hW hyl; go_step; exact hK)); (focus rfl)); (apply StI_plain (w0 := w7.drew) hI rfl rfl rfl rfl; (focus (intro W hW K hK; obtain ⟨_, _, _⟩ := bk A.rb hW hal; obtain ⟨_, _, _⟩ := bk gv hW hgvl7; obtain ⟨_, _, _⟩ := bk (A.pb j) hW hyl; go_step; exact hK)); (focus rfl)); (apply StI_plain (w0 := w7.drew) hI rfl rfl rfl rfl; (focus (intro W hW K hK; obtain ⟨_, _, _⟩ := bk A.rb hW hal; obtain ⟨_, _, _⟩ := bk gv hW hgvl7; obtain ⟨_, _, _⟩ := bk (A.pb j) hW hyl; go_step; exact hK)); (focus rfl)); (apply StI_plain (w0 := w7.drew) hI rfl rfl rfl rfl; (focus (intro W hW K hK; obtain ⟨_, _, _⟩ := bk A.rb hW hal; obtain ⟨_, _, _⟩ := bk gv hW hgvl7; obtain ⟨_, _, _⟩ := bk (A.pb j) hW hyl; go_step; exact hK)); (focus rfl)); (apply StI_plain (w0 := w7.drew) hI rfl rfl rfl rfl; (focus (intro W hW K hK; obtain ⟨_, _, _⟩ := bk A.rb hW hal; obtain ⟨_, _, _⟩ := bk gv hW hgvl7; obtain ⟨_, _, _⟩ := bk (A.pb j) hW hyl; go_step; exact hK)); (focus rfl)); (apply StI_plain (w0 := w7.drew) hI rfl rfl rfl rfl; (focus (intro W hW K hK; obtain ⟨_, _, _⟩ := bk A.rb hW hal; obtain ⟨_, _, _⟩ := bk gv hW hgvl7; obtain ⟨_, _, _⟩ := bk (A.pb j) hW hyl; go_step; exact hK)); (focus rfl)); (apply StI_plain (w0 := w7.drew) hI rfl rfl rfl rfl; (focus (intro W hW K hK; obtain ⟨_, _, _⟩ := bk A.rb hW hal; obtain ⟨_, _, _⟩ := bk gv hW hgvl7; obtain ⟨_, _, _⟩ := bk (A.pb j) hW hyl; go_step; exact hK)); (focus rfl)); (apply StI_plain (w0 := w7.drew) hI rfl rfl rfl rfl; (focus (intro W hW K hK; obtain ⟨_, _, _⟩ := bk A.rb hW hal; obtain ⟨_, _, _⟩ := bk gv hW hgvl7; obtain ⟨_, _, _⟩ := bk (A.pb j) hW hyl; go_step; exact hK)); (focus rfl)); (apply StI_plain (w0 := w7.drew) hI rfl rfl rfl rfl; (focus (intro W hW K hK; obtain ⟨_, _, _⟩ := bk A.rb hW hal; obtain ⟨_, _, _⟩ := bk gv hW hgvl7; obtain ⟨_, _, _⟩ := bk (A.pb j) hW hyl; go_step; exact hK)); (focus rfl)); (apply StI_plain (w0 := w7.drew) hI rfl rfl rfl rfl; (focus (intro W hW K hK; obtain ⟨_, _, _⟩ := bk A.rb hW hal; obtain ⟨_, _, _⟩ := bk gv hW hgvl7; obtain ⟨_, _, _⟩ := bk (A.pb j) hW hyl; go_step; exact hK)); (focus rfl))
          (apply StI_eff rfl; go_wp2_with (first | (go_at_call 71; refine (HHC.out _ hI).mono ?_; rintro e w8 ⟨⟨u, rfl⟩, hw8⟩; have Hhw8 := Lib.hid hw8; clear hw8)))
          refine onNormal_last ?_
          have hT8 : TRow w.heap.size w8 gq k (tallyTrip r j x L) := by
            have h0 := HhT7.out.below hI
            have h1 := h0.write Hhgi7.out (tidx y.state) (by unfold tidx; split <;> (try split) <;> (try split) <;> omega) (.int .i64 (tval t2 y.state + y.people)) (t2.add y.state y.people) (tally_add t2 y.state y.people)
            rw [List.set_set] at h1
            rw [Hhw8.out]
            have e : tallyTrip r j x L = L.set gi (t2.add y.state y.people) := by
              unfold tallyTrip
              have hg0 : x.group.toNat = gi := Hhgi.out
              rw [tlSet_get L x.group _ (by rw [hg0]; exact Hhtl.out), Hhyq.out, hg0, Hht2.out]
            rw [e]
            exact h1
          have hbw8 : Below w.heap.size w w8 := by rw [Hhw8.out]; exact bl_setCell (bl_step Hhbw7.out hI) _ _ (by have := HhT7.out.lt.1; exact this)
          have hB8 : TB (100000 + j * 400000 + 400000) (tallyTrip r j x L) := TB.trip HhBj.out (by omega) r j x (by omega) (by rw [Hhyq.out]; exact hpp.2)
          have hsn : tallyTrips r 0 (p.trips.take (j + 1)) (T.groups.map unpl) = tallyTrip r j x L := by
            rw [List.take_succ_eq_append_getElem hltj, tallyTrips_snoc, hLq, Hhxq.out]
            congr 1
            simp
            omega
          have HhT8 := Lib.hid hT8; clear hT8; have Hhbw8 := Lib.hid hbw8; clear hbw8; have HhB8 := Lib.hid hB8; clear hB8; have Hhsn := Lib.hid hsn; clear hsn
          go_wp2_with fail
          go_roundw
          case rel => exact ⟨j + 1, by omega, by go_num, by rw [Hhsn.out]; exact HhT8.out, by rw [Hhsn.out]; have h9 := HhB8.out; rw [show (100000 : Int) + ((j + 1 : Nat) : Int) * 400000 = 100000 + j * 400000 + 400000 from by omega]; exact h9, Hhbw8.out⟩
          case measure => simp [intOf]; omega
        · obtain rfl : j = p.trips.length := by omega
          as_aux_lemma =>
          rw [List.take_length] at hTj hBj
          have hrj := Hh.out.below hbj
          have hac := cells_of hrj.blk
          have hal := lt_of_heap hrj.blk
          simp only [runCells] at hac
          have hlr := hrj.plan.rides.1
          obtain ⟨L1, hL1⟩ : ∃ q, tallyTrips r 0 p.trips (T.groups.map unpl) = q := ⟨_, rfl⟩
          rw [hL1] at hTj hBj
          have Hhrj := Lib.hid hrj; clear hrj; have HhTj := Lib.hid hTj; clear hTj; have HhBj := Lib.hid hBj; clear hBj; have Hhbj := Lib.hid hbj; clear hbj; have HhL1 := Lib.hid hL1; clear hL1
          go_wp2_with fail
          clear hac hal
          go_loopw [9, 114] (fun v i W => ∃ m : Nat, m ≤ p.rides.length ∧ i = .int .i64 m ∧ v = .int .i64 (boardsN (p.rides.take m) : Nat) ∧ TRow w.heap.size W gq k (tallyRides r p.trips.length 0 (p.rides.take m) L1) ∧ TB (100000 + p.trips.length * 400000 + boardsN (p.rides.take m) * 600000) (tallyRides r p.trips.length 0 (p.rides.take m) L1) ∧ Below w.heap.size w W) (fun _ i _ => p.rides.length - (intOf i).toNat)
          case atStart => exact ⟨0, Nat.zero_le _, rfl, rfl, HhTj.out, by simpa [boardsN, tallyRides] using HhBj.out, Hhbj.out⟩
          case round =>
            clear HhTj HhBj Hhbj Hhrj
            obtain ⟨m, hm, rfl, rfl, hTm, hBm, hbm⟩ := hrel
            by_cases hltm : m < p.rides.length
            · as_aux_lemma =>
              have hBw : Below B w wr := hbm.mono Hh.out.le
              obtain ⟨b, off, hp2, hbb, ah, ch, bh, bc, f0', f1', f2', _, hbl0⟩ := Hh.out.plan.rides.2 m hltm
              have f0 := ek_cell hBw hbb f0'
              have f1 := ek_cell hBw hbb f1'
              have f2 := ek_cell hBw hbb f2'
              have hrg := HhPG.out.rides _ (List.getElem_mem hltm)
              obtain ⟨x, hxq⟩ : ∃ q, p.rides[m] = q := ⟨_, rfl⟩
              rw [hxq] at f0 f1 f2 hbl0 hrg
              have hsn : boardsN (p.rides.take (m + 1)) = boardsN (p.rides.take m) + x.boards.length := by rw [List.take_succ_eq_append_getElem hltm, boardsN_snoc, hxq]
              have htk := boardsN_take p.rides (m + 1)
              have hrs : tallyRides r p.trips.length 0 (p.rides.take (m + 1)) L1 = tallyBoards r (p.trips.length + m) (boardsN (p.rides.take m)) x.boards (tallyRides r p.trips.length 0 (p.rides.take m) L1) := by
                rw [List.take_succ_eq_append_getElem hltm, tallyRides_snoc, hxq, Nat.zero_add]
                congr 2
                simp
                omega
              subst hp2
              obtain ⟨Lm, hLm⟩ : ∃ q, tallyRides r p.trips.length 0 (p.rides.take m) L1 = q := ⟨_, rfl⟩
              obtain ⟨Nm, hNm⟩ : ∃ q, boardsN (p.rides.take m) = q := ⟨_, rfl⟩
              rw [hLm] at hTm hBm hrs
              rw [hNm] at hBm hrs hsn ⊢
              have hNw : Nm + x.boards.length ≤ r.waits.length := by have := Hhlw.out; omega
              have hbw3 : b < wr.heap.size := by have := Hh.out.le; have := hbm.size; omega
              have hbll := hbl0.1
              have hTw := hTm.below (bl_alloc (Below.refl wr.heap.size wr) (.cells #[.int .i64 x.vehicle, .slice ah x.hops.length (x.hops.length + ch), .slice bh x.boards.length bc] 53))
              have hbw5 := bl_alloc hbm (.cells #[.int .i64 x.vehicle, .slice ah x.hops.length (x.hops.length + ch), .slice bh x.boards.length bc] 53)
              clear f0' f1' f2' htk
              have HhTm := Lib.hid hTm; clear hTm; have HhBm := Lib.hid hBm; clear hBm; have Hhbm := Lib.hid hbm; clear hbm; have Hhxq := Lib.hid hxq; clear hxq; have Hhrg := Lib.hid hrg; clear hrg; have Hhsn := Lib.hid hsn; clear hsn; have Hhrs := Lib.hid hrs; clear hrs; have HhLm := Lib.hid hLm; clear hLm; have HhNm := Lib.hid hNm; clear hNm; have Hhbl0 := Lib.hid hbl0; clear hbl0; have HhBw := Lib.hid hBw; clear hBw; have HhTw := Lib.hid hTw; clear hTw; have Hhbw5 := Lib.hid hbw5; clear hbw5
              go_wp2_with fail
              clear f0 f1 f2
              go_loopw [9, 122] (fun v i W => ∃ q : Nat, q ≤ x.boards.length ∧ i = .int .i64 q ∧ v = .int .i64 ((Nm + q : Nat) : Int) ∧ TRow w.heap.size W gq k (tallyBoards r (p.trips.length + m) Nm (x.boards.take q) Lm) ∧ TB (100000 + p.trips.length * 400000 + ((Nm + q : Nat) : Int) * 600000) (tallyBoards r (p.trips.length + m) Nm (x.boards.take q) Lm) ∧ Below w.heap.size w W) (fun _ i _ => x.boards.length - (intOf i).toNat)
              case atStart => exact ⟨0, Nat.zero_le _, rfl, rfl, HhTw.out, by simpa [tallyBoards] using HhBm.out, Hhbw5.out⟩
              case round =>
                clear HhTw Hhbw5 HhTm Hhbm HhBm
                obtain ⟨q, hq, rfl, rfl, hTq, hBq, hbq⟩ := hrel
                by_cases hltq : q < x.boards.length
                · as_aux_lemma =>
                  have hBq2 : Below B w wr := hbq.mono Hh.out.le
                  obtain ⟨bb, offb, hbhq, hbbl, f0, f1, f2⟩ := (Hhbl0.out.below (ek_board B) hBq2).2 q hltq
                  subst hbhq
                  have hbG := Hhrg.out.boards _ (List.getElem_mem hltq)
                  obtain ⟨bo, hboq⟩ : ∃ z, x.boards[q] = z := ⟨_, rfl⟩
                  rw [hboq] at f0 f1 f2 hbG
                  have hgr := hbG.group
                  have hcnt := hbG.count
                  obtain ⟨gi, hgi⟩ : ∃ z, bo.group.toNat = z := ⟨_, rfl⟩
                  have hgik : gi < k := by have := Hhn.out; omega
                  have hgx : bo.group = (gi : Int) := by omega
                  rw [hgx] at f1
                  have hgI : (gi : Int) < (k : Int) := by omega
                  obtain ⟨ip, hipq⟩ : ∃ z, p.trips.length + m = z := ⟨_, rfl⟩
                  obtain ⟨kx, hkxq⟩ : ∃ z, Nm + q = z := ⟨_, rfl⟩
                  have hip : ip < r.parties.length := by have := Hhlp.out; omega
                  have hkx : kx < r.waits.length := by omega
                  rw [hipq] at hTq hBq
                  rw [hkxq] at hBq
                  obtain ⟨L, hLq⟩ : ∃ z, tallyBoards r ip Nm (x.boards.take q) Lm = z := ⟨_, rfl⟩
                  rw [hLq] at hTq hBq
                  obtain ⟨tl, htl⟩ : ∃ t, L[gi]? = some t := ⟨L[gi]'(by rw [hTq.2]; exact hgik), List.getElem?_eq_getElem _⟩
                  have htle : tl.le (100000 + p.trips.length * 400000 + (kx : Int) * 600000) := hBq _ (List.mem_of_getElem? htl)
                  have hbw3 : bb < wr.heap.size := by have := Hh.out.le; have := hbq.size; omega
                  have hrq := Hh.out.below hbq
                  obtain ⟨gv, vc, hvp, _, _⟩ := hrq.rowp.form (by omega)
                  obtain ⟨gw, wc2, hvw, _, _⟩ := hrq.roww.form (by omega)
                  obtain ⟨y, hyq⟩ : ∃ y, r.pt ip = y := ⟨_, rfl⟩
                  obtain ⟨z, hzq⟩ : ∃ z, r.wt kx = z := ⟨_, rfl⟩
                  have hzc1 := HhTal.out.wait kx
                  have hzc0 := (HhR.out.wt hkx).count
                  rw [hzq] at hzc1 hzc0
                  obtain ⟨npp, hnpp⟩ : ∃ z, r.parties.length = z := ⟨_, rfl⟩
                  obtain ⟨nww, hnww⟩ : ∃ z, r.waits.length = z := ⟨_, rfl⟩
                  have hipI : ((p.trips.length : Int) + (m : Int)) < (npp : Int) := by omega
                  have hkxI : (kx : Int) < (nww : Int) := by omega
                  have hntb : (p.trips.length : Int) ≤ 4096 := by have := HhPG.out.nt; omega
                  have hmb : (m : Int) ≤ 256 := by have := HhPG.out.nr; omega
                  have hkb : (kx : Int) ≤ 16384 := by have := HhR.out.nw; omega
                  have hltl := Hh.out.plan.trips.1
                  clear hgr
                  rw [hkxq]
                  have HhTq := Lib.hid hTq; clear hTq; have HhBq := Lib.hid hBq; clear hBq; have Hhbq := Lib.hid hbq; clear hbq; have HhBq2 := Lib.hid hBq2; clear hBq2; have Hhboq := Lib.hid hboq; clear hboq; have Hhgi := Lib.hid hgi; clear hgi; have Hhgx := Lib.hid hgx; clear hgx; have Hhtl := Lib.hid htl; clear htl; have Hhtle := Lib.hid htle; clear htle; have Hhrq := Lib.hid hrq; clear hrq; have Hhvp := Lib.hid hvp; clear hvp; have Hhvw := Lib.hid hvw; clear hvw; have Hhyq := Lib.hid hyq; clear hyq; have Hhzq := Lib.hid hzq; clear hzq; have Hhnpp := Lib.hid hnpp; clear hnpp; have Hhnww := Lib.hid hnww; clear hnww; have HhbG := Lib.hid hbG; clear hbG; have Hhipq := Lib.hid hipq; clear hipq; have Hhkxq := Lib.hid hkxq; clear hkxq
                  go_upto_region 22 with fail
                  obtain ⟨q13, hq13⟩ : ∃ z, wr.heap.size = z := ⟨_, rfl⟩
                  obtain ⟨w5, hw5⟩ : ∃ W, wr.alloc (.cells #[.int .i64 bo.hop, .int .i64 gi, .int .i64 bo.count] 56) = W := ⟨_, rfl⟩
                  have x135 : w5.heap[q13]? = some (.cells #[.int .i64 bo.hop, .int .i64 gi, .int .i64 bo.count] 56 (0, 0)) := by rw [← hw5, ← hq13]; exact heap_alloc_at _ _
                  have hb5 : Below wr.heap.size wr w5 := by rw [← hw5]; exact bl_alloc (Below.refl _ _) _
                  have hbw5 : Below w.heap.size w w5 := bl_step Hhbq.out hb5
                  have hT5 := HhTq.out.below hb5
                  have hqgq : q13 ≠ gq := fun e => row_ne hT5.1 x135 (by decide) (by rw [e]; rfl)
                  rw [hw5, hq13]
                  clear hw5 f0 f1 f2
                  have hr5 := Hh.out.below hbw5
                  obtain ⟨hpa5, hpc5, hpb5, _⟩ := hr5.pt ip hip
                  have hwt5 := hr5.wt kx hkx
                  rw [Hhyq.out] at hpb5
                  rw [Hhzq.out] at hwt5
                  have hptr5 := (hr5.ptr hip Hhvp.out).1
                  have hgvl5 := (hr5.ptr hip Hhvp.out).2
                  have hptw5 := (hr5.ptrw hkx Hhvw.out).1
                  have hgwl5 := (hr5.ptrw hkx Hhvw.out).2
                  have hac := cells_of hr5.blk
                  have hal := lt_of_heap hr5.blk
                  simp only [runCells] at hac
                  rw [Hhvp.out, Hhvw.out, Hhnpp.out, Hhnww.out] at hac
                  have hyc := cells_of hpb5
                  have hyl := lt_of_heap hpb5
                  simp only [partyCells] at hyc
                  have hzc := cells_of hwt5
                  have hzl := lt_of_heap hwt5
                  simp only [waitCells] at hzc
                  have c13 := cells_of x135
                  have l13 := lt_of_heap x135
                  have hgf := hT5.frozen
                  have hgl5 := hT5.lt.2
                  have hI : Below w5.heap.size w5 w5.drew := (Below.refl _ _).drew
                  have hle' := Hhtle.out
                  unfold Tally.le at hle'
                  have Hx135 := Lib.hid x135; clear x135; have Hhb5 := Lib.hid hb5; clear hb5; have Hhbw5 := Lib.hid hbw5; clear hbw5; have HhT5 := Lib.hid hT5; clear hT5; have Hhr5 := Lib.hid hr5; clear hr5; have Hhpb5 := Lib.hid hpb5; clear hpb5; have Hhwt5 := Lib.hid hwt5; clear hwt5
                  refine wp_region_ord (fun W => Below w5.heap.size w5 W) [] [0, 1, 2, 3, 4, 5, 6, 7, 8, 9, 10, 11, 12] none (by kernel_rfl) (by kernel_rfl) hI ?_
                  refine OrdI_fin ?_
                  (apply StI_plain (w0 := w5.drew) hI rfl rfl rfl rfl; (focus (intro W hW K hK; obtain ⟨_, _, _⟩ := bk q13 hW l13; obtain ⟨_, _, _⟩ := bk A.rb hW hal; obtain ⟨_, _, _⟩ := bk gw hW hgwl5; go_step; exact hK)); (focus rfl)); (apply StI_plain (w0 := w5.drew) hI rfl rfl rfl rfl; (focus (intro W hW K hK; obtain ⟨_, _, _⟩ := bk q13 hW l13; obtain ⟨_, _, _⟩ := bk A.rb hW hal; obtain ⟨_, _, _⟩ := bk gw hW hgwl5; go_step; exact hK)); (focus rfl)); (apply StI_plain (w0 := w5.drew) hI rfl rfl rfl rfl; (focus (intro W hW K hK; obtain ⟨_, _, _⟩ := bk q13 hW l13; obtain ⟨_, _, _⟩ := bk A.rb hW hal; obtain ⟨_, _, _⟩ := bk gw hW hgwl5; go_step; exact hK)); (focus rfl)); (apply StI_plain (w0 := w5.drew) hI rfl rfl rfl rfl; (focus (intro W hW K hK; obtain ⟨_, _, _⟩ := bk q13 hW l13; obtain ⟨_, _, _⟩ := bk A.rb hW hal; obtain ⟨_, _, _⟩ := bk gw hW hgwl5; go_step; exact hK)); (focus rfl)); (apply StI_plain (w0 := w5.drew) hI rfl rfl rfl rfl; (focus (intro W hW K hK; obtain ⟨_, _, _⟩ := bk q13 hW l13; obtain ⟨_, _, _⟩ := bk A.rb hW hal; obtain ⟨_, _, _⟩ := bk gw hW hgwl5; go_step; exact hK)); (focus rfl)); (apply StI_plain (w0 := w5.drew) hI rfl rfl rfl rfl; (focus (intro W hW K hK; obtain ⟨_, _, _⟩ := bk q13 hW l13; obtain ⟨_, _, _⟩ := bk A.rb hW hal; obtain ⟨_, _, _⟩ := bk gw hW hgwl5; go_step; exact hK)); (focus rfl)); (apply StI_plain (w0 := w5.drew) hI rfl rfl rfl rfl; (focus (intro W hW K hK; obtain ⟨_, _, _⟩ := bk q13 hW l13; obtain ⟨_, _, _⟩ := bk A.rb hW hal; obtain ⟨_, _, _⟩ := bk gw hW hgwl5; go_step; exact hK)); (focus rfl)); (apply StI_plain (w0 := w5.drew) hI rfl rfl rfl rfl; (focus (intro W hW K hK; obtain ⟨_, _, _⟩ := bk q13 hW l13; obtain ⟨_, _, _⟩ := bk A.rb hW hal; obtain ⟨_, _, _⟩ := bk gw hW hgwl5; go_step; exact hK)); (focus rfl)); (apply StI_plain (w0 := w5.drew) hI rfl rfl rfl rfl; (focus (intro W hW K hK; obtain ⟨_, _, _⟩ := bk q13 hW l13; obtain ⟨_, _, _⟩ := bk A.rb hW hal; obtain ⟨_, _, _⟩ := bk gw hW hgwl5; go_step; exact hK)); (focus rfl)); (apply StI_plain (w0 := w5.drew) hI rfl rfl rfl rfl; (focus (intro W hW K hK; obtain ⟨_, _, _⟩ := bk q13 hW l13; obtain ⟨_, _, _⟩ := bk A.rb hW hal; obtain ⟨_, _, _⟩ := bk gw hW hgwl5; go_step; exact hK)); (focus rfl)); (apply StI_plain (w0 := w5.drew) hI rfl rfl rfl rfl; (focus (intro W hW K hK; obtain ⟨_, _, _⟩ := bk q13 hW l13; obtain ⟨_, _, _⟩ := bk A.rb hW hal; obtain ⟨_, _, _⟩ := bk gw hW hgwl5; go_step; exact hK)); (focus rfl)); (apply StI_plain (w0 := w5.drew) hI rfl rfl rfl rfl; (focus (intro W hW K hK; obtain ⟨_, _, _⟩ := bk q13 hW l13; obtain ⟨_, _, _⟩ := bk A.rb hW hal; obtain ⟨_, _, _⟩ := bk gw hW hgwl5; go_step; exact hK)); (focus rfl)); (apply StI_plain (w0 := w5.drew) hI rfl rfl rfl rfl; (focus (intro W hW K hK; obtain ⟨_, _, _⟩ := bk q13 hW l13; obtain ⟨_, _, _⟩ := bk A.rb hW hal; obtain ⟨_, _, _⟩ := bk gw hW hgwl5; go_step; exact hK)); (focus rfl))
                  refine StI_nil ?_
                  obtain ⟨w6, hw6⟩ : ∃ W, w5.drew = W := ⟨_, rfl⟩
                  have hbw6 : Below w.heap.size w w6 := by rw [← hw6]; exact bl_drew Hhbw5.out
                  have hT6 : TRow w.heap.size w6 gq k L := by rw [← hw6]; exact HhT5.out.below (bl_drew (Below.refl _ _))
                  have x136 : w6.heap[q13]? = some (.cells #[.int .i64 bo.hop, .int .i64 gi, .int .i64 bo.count] 56 (0, 0)) := by rw [← hw6]; exact heap_drew' Hx135.out
                  rw [hw6]
                  clear hw6 hptr5 hgvl5 hptw5 hgwl5 hgl5 hac hal hyc hyl hzc hzl c13 l13 hgf hI
                  have hr6 := Hh.out.below hbw6
                  obtain ⟨hpa6, hpc6, hpb6, _⟩ := hr6.pt ip hip
                  have hwt6 := hr6.wt kx hkx
                  rw [Hhyq.out] at hpb6
                  rw [Hhzq.out] at hwt6
                  have hptr6 := (hr6.ptr hip Hhvp.out).1
                  have hgvl6 := (hr6.ptr hip Hhvp.out).2
                  have hptw6 := (hr6.ptrw hkx Hhvw.out).1
                  have hgwl6 := (hr6.ptrw hkx Hhvw.out).2
                  have hac := cells_of hr6.blk
                  have hal := lt_of_heap hr6.blk
                  simp only [runCells] at hac
                  rw [Hhvp.out, Hhvw.out, Hhnpp.out, Hhnww.out] at hac
                  have hyc := cells_of hpb6
                  have hyl := lt_of_heap hpb6
                  simp only [partyCells] at hyc
                  have hzc := cells_of hwt6
                  have hzl := lt_of_heap hwt6
                  simp only [waitCells] at hzc
                  have c13 := cells_of x136
                  have l13 := lt_of_heap x136
                  have hgf := hT6.frozen
                  have hgl6 := hT6.lt.2
                  have k5 : w6.cell? ⟨gq, gi * 6 + 5, none⟩ = some (.int .i64 tl.unplanned) := hT6.cell Hhtl.out 5 (by omega)
                  have hI : Below w6.heap.size w6 w6.drew := (Below.refl _ _).drew
                  have Hhbw6 := Lib.hid hbw6; clear hbw6; have HhT6 := Lib.hid hT6; clear hT6; have Hx136 := Lib.hid x136; clear x136; have Hhr6 := Lib.hid hr6; clear hr6; have Hhpb6 := Lib.hid hpb6; clear hpb6; have Hhwt6 := Lib.hid hwt6; clear hwt6
                  go_upto_region 24 with fail
                  refine wp_region_ord (fun W => Below w6.heap.size w6 W) [] [0, 1, 2, 3, 4, 5, 6, 7, 8] (some 9) (by kernel_rfl) (by kernel_rfl) hI ?_
                  refine OrdI_snk ?_
                  (apply StI_plain (w0 := w6.drew) hI rfl rfl rfl rfl; (focus (intro W hW K hK; obtain ⟨_, _, _⟩ := bk q13 hW l13; obtain ⟨_, _, _⟩ := bk gq hW hgl6; go_step; exact hK)); (focus rfl)); (apply StI_plain (w0 := w6.drew) hI rfl rfl rfl rfl; (focus (intro W hW K hK; obtain ⟨_, _, _⟩ := bk q13 hW l13; obtain ⟨_, _, _⟩ := bk gq hW hgl6; go_step; exact hK)); (focus rfl)); (apply StI_plain (w0 := w6.drew) hI rfl rfl rfl rfl; (focus (intro W hW K hK; obtain ⟨_, _, _⟩ := bk q13 hW l13; obtain ⟨_, _, _⟩ := bk gq hW hgl6; go_step; exact hK)); (focus rfl)); (apply StI_plain (w0 := w6.drew) hI rfl rfl rfl rfl; (focus (intro W hW K hK; obtain ⟨_, _, _⟩ := bk q13 hW l13; obtain ⟨_, _, _⟩ := bk gq hW hgl6; go_step; exact hK)); (focus rfl)); (apply StI_plain (w0 := w6.drew) hI rfl rfl rfl rfl; (focus (intro W hW K hK; obtain ⟨_, _, _⟩ := bk q13 hW l13; obtain ⟨_, _, _⟩ := bk gq hW hgl6; go_step; exact hK)); (focus rfl)); (apply StI_plain (w0 := w6.drew) hI rfl rfl rfl rfl; (focus (intro W hW K hK; obtain ⟨_, _, _⟩ := bk q13 hW l13; obtain ⟨_, _, _⟩ := bk gq hW hgl6; go_step; exact hK)); (focus rfl)); (apply StI_plain (w0 := w6.drew) hI rfl rfl rfl rfl; (focus (intro W hW K hK; obtain ⟨_, _, _⟩ := bk q13 hW l13; obtain ⟨_, _, _⟩ := bk gq hW hgl6; go_step; exact hK)); (focus rfl)); (apply StI_plain (w0 := w6.drew) hI rfl rfl rfl rfl; (focus (intro W hW K hK; obtain ⟨_, _, _⟩ := bk q13 hW l13; obtain ⟨_, _, _⟩ := bk gq hW hgl6; go_step; exact hK)); (focus rfl)); (apply StI_plain (w0 := w6.drew) hI rfl rfl rfl rfl; (focus (intro W hW K hK; obtain ⟨_, _, _⟩ := bk q13 hW l13; obtain ⟨_, _, _⟩ := bk gq hW hgl6; go_step; exact hK)); (focus rfl))
                  (apply StI_eff rfl; go_wp2_with fail)
                  refine onNormal_last ?_
                  obtain ⟨w7, hw7⟩ : ∃ W, (w6.setCell ⟨gq, gi * 6 + 5, none⟩ (.int .i64 (tl.unplanned - bo.count))).drew = W := ⟨_, rfl⟩
                  obtain ⟨t1, ht1⟩ : ∃ t : Tally, t = { tl with unplanned := tl.unplanned - bo.count } := ⟨_, rfl⟩
                  have hT7 : TRow w.heap.size w7 gq k (L.set gi t1) := by
                    have h1 := HhT6.out.write Hhtl.out 5 (by omega) (.int .i64 (tl.unplanned - bo.count)) t1 (by rw [ht1]; rfl)
                    have h2 := h1.below (bl_drew (Below.refl _ _))
                    rw [hw7] at h2
                    exact h2
                  have hbw7 : Below w.heap.size w w7 := by rw [← hw7]; exact bl_drew (bl_setCell Hhbw6.out _ _ (by have := hT7.lt.1; exact this))
                  have hgi7 : (L.set gi t1)[gi]? = some t1 := by rw [List.getElem?_set_self (by rw [HhTq.out.2]; exact hgik)]
                  have x137 : w7.heap[q13]? = some (.cells #[.int .i64 bo.hop, .int .i64 gi, .int .i64 bo.count] 56 (0, 0)) := by
                    rw [← hw7]
                    exact heap_drew' ((setCell_other _ _ _ _ hqgq).trans Hx136.out)
                  rw [hw7]
                  clear hw7 k5 hptr6 hgvl6 hptw6 hgwl6 hgl6 hac hal hyc hyl hzc hzl c13 l13 hgf hI
                  have hr7 := Hh.out.below hbw7
                  obtain ⟨hpa7, hpc7, hpb7, _⟩ := hr7.pt ip hip
                  have hwt7 := hr7.wt kx hkx
                  rw [Hhyq.out] at hpb7
                  rw [Hhzq.out] at hwt7
                  have hptr7 := (hr7.ptr hip Hhvp.out).1
                  have hgvl7 := (hr7.ptr hip Hhvp.out).2
                  have hptw7 := (hr7.ptrw hkx Hhvw.out).1
                  have hgwl7 := (hr7.ptrw hkx Hhvw.out).2
                  have hac := cells_of hr7.blk
                  have hal := lt_of_heap hr7.blk
                  simp only [runCells] at hac
                  rw [Hhvp.out, Hhvw.out, Hhnpp.out, Hhnww.out] at hac
                  have hyc := cells_of hpb7
                  have hyl := lt_of_heap hpb7
                  simp only [partyCells] at hyc
                  have hzc := cells_of hwt7
                  have hzl := lt_of_heap hwt7
                  simp only [waitCells] at hzc
                  have c13 := cells_of x137
                  have l13 := lt_of_heap x137
                  have hgf := hT7.frozen
                  have hgl7 := hT7.lt.2
                  have hI : Below w7.heap.size w7 w7.drew := (Below.refl _ _).drew
                  have h1le : t1.le (100000 + p.trips.length * 400000 + (kx : Int) * 600000 + 200000) := by rw [ht1]; unfold Tally.le; simp only; omega
                  have hptrN : w7.cell? ⟨gv, p.trips.length + m, none⟩ = some (.pointer (some ⟨A.pb ip, 0, none⟩)) := by rw [Hhipq.out]; exact hptr7
                  have hptrM : w7.cell? ⟨gv, ((p.trips.length : Int) + (m : Int)).toNat, none⟩ = some (.pointer (some ⟨A.pb ip, 0, none⟩)) := by
                    have e : ((p.trips.length : Int) + (m : Int)).toNat = ip := by have := Hhipq.out; omega
                    rw [e]; exact hptr7
                  have HC : ∀ W, Below w7.heap.size w7 W → Calls Try.prog 71 #[.pointer (some ⟨gq, gi * 6, none⟩), .int .i64 y.state, .int .i64 (bo.count - z.count)] W fun e w' => (∃ u, e = .returned u) ∧ w' = W.setCell ⟨gq, gi * 6 + tidx y.state, none⟩ (.int .i64 (tval t1 y.state + (bo.count - z.count))) := by
                    intro W hW
                    have hTW := hT7.below hW
                    refine count_any gq (gi * 6) t1 y.state (bo.count - z.count) W hTW.lt.2 hTW.frozen (fun jj hjj => hTW.cell hgi7 jj hjj) (by omega) ?_
                    unfold Tally.le at h1le
                    unfold tval
                    split
                    · omega
                    split
                    · omega
                    split <;> omega
                  have HhT7 := Lib.hid hT7; clear hT7; have Hhbw7 := Lib.hid hbw7; clear hbw7; have Hhgi7 := Lib.hid hgi7; clear hgi7; have Hx137 := Lib.hid x137; clear x137; have Hhr7 := Lib.hid hr7; clear hr7; have Hhpb7 := Lib.hid hpb7; clear hpb7; have Hhwt7 := Lib.hid hwt7; clear hwt7; have Hht1 := Lib.hid ht1; clear ht1; have Hh1le := Lib.hid h1le; clear h1le; have HHC := Lib.hid HC; clear HC
                  go_upto_region 25 with fail
                  refine wp_region_ord (fun W => Below w7.heap.size w7 W) [] [0, 1, 2, 3, 4, 5, 6, 7, 8, 9, 10, 11, 12, 13, 14, 15, 16, 17, 18, 19, 20, 21, 22, 23, 24] (some 25) (by kernel_rfl) (by kernel_rfl) hI ?_
                  refine OrdI_snk ?_
                  (apply StI_plain (w0 := w7.drew) hI rfl rfl rfl rfl; (focus (intro W hW K hK; obtain ⟨_, _, _⟩ := bk A.rb hW hal; obtain ⟨_, _, _⟩ := bk gv hW hgvl7; obtain ⟨_, _, _⟩ := bk (A.pb ip) hW hyl; obtain ⟨_, _, _⟩ := bk q13 hW l13; obtain ⟨_, _, _⟩ := bk (A.wb kx) hW hzl; go_step; exact hK)); (focus rfl)); (apply StI_plain (w0 := w7.drew) hI rfl rfl rfl rfl; (focus (intro W hW K hK; obtain ⟨_, _, _⟩ := bk A.rb hW hal; obtain ⟨_, _, _⟩ := bk gv hW hgvl7; obtain ⟨_, _, _⟩ := bk (A.pb ip) hW hyl; obtain ⟨_, _, _⟩ := bk q13 hW l13; obtain ⟨_, _, _⟩ := bk (A.wb kx) hW hzl; go_step; exact hK)); (focus rfl)); (apply StI_plain (w0 := w7.drew) hI rfl rfl rfl rfl; (focus (intro W hW K hK; obtain ⟨_, _, _⟩ := bk A.rb hW hal; obtain ⟨_, _, _⟩ := bk gv hW hgvl7; obtain ⟨_, _, _⟩ := bk (A.pb ip) hW hyl; obtain ⟨_, _, _⟩ := bk q13 hW l13; obtain ⟨_, _, _⟩ := bk (A.wb kx) hW hzl; go_step; exact hK)); (focus rfl)); (apply StI_plain (w0 := w7.drew) hI rfl rfl rfl rfl; (focus (intro W hW K hK; obtain ⟨_, _, _⟩ := bk A.rb hW hal; obtain ⟨_, _, _⟩ := bk gv hW hgvl7; obtain ⟨_, _, _⟩ := bk (A.pb ip) hW hyl; obtain ⟨_, _, _⟩ := bk q13 hW l13; obtain ⟨_, _, _⟩ := bk (A.wb kx) hW hzl; go_step; exact hK)); (focus rfl)); (apply StI_plain (w0 := w7.drew) hI rfl rfl rfl rfl; (focus (intro W hW K hK; obtain ⟨_, _, _⟩ := bk A.rb hW hal; obtain ⟨_, _, _⟩ := bk gv hW hgvl7; obtain ⟨_, _, _⟩ := bk (A.pb ip) hW hyl; obtain ⟨_, _, _⟩ := bk q13 hW l13; obtain ⟨_, _, _⟩ := bk (A.wb kx) hW hzl; go_step; exact hK)); (focus rfl)); (apply StI_plain (w0 := w7.drew) hI rfl rfl rfl rfl; (focus (intro W hW K hK; obtain ⟨_, _, _⟩ := bk A.rb hW hal; obtain ⟨_, _, _⟩ := bk gv hW hgvl7; obtain ⟨_, _, _⟩ := bk (A.pb ip) hW hyl; obtain ⟨_, _, _⟩ := bk q13 hW l13; obtain ⟨_, _, _⟩ := bk (A.wb kx) hW hzl; go_step; exact hK)); (focus rfl)); (apply StI_plain (w0 := w7.drew) hI rfl rfl rfl rfl; (focus (intro W hW K hK; obtain ⟨_, _, _⟩ := bk A.rb hW hal; obtain ⟨_, _, _⟩ := bk gv hW hgvl7; obtain ⟨_, _, _⟩ := bk (A.pb ip) hW hyl; obtain ⟨_, _, _⟩ := bk q13 hW l13; obtain ⟨_, _, _⟩ := bk (A.wb kx) hW hzl; go_step; exact hK)); (focus rfl)); (apply StI_plain (w0 := w7.drew) hI rfl rfl rfl rfl; (focus (intro W hW K hK; obtain ⟨_, _, _⟩ := bk A.rb hW hal; obtain ⟨_, _, _⟩ := bk gv hW hgvl7; obtain ⟨_, _, _⟩ := bk (A.pb ip) hW hyl; obtain ⟨_, _, _⟩ := bk q13 hW l13; obtain ⟨_, _, _⟩ := bk (A.wb kx) hW hzl; go_step; exact hK)); (focus rfl)); (apply StI_plain (w0 := w7.drew) hI rfl rfl rfl rfl; (focus (intro W hW K hK; obtain ⟨_, _, _⟩ := bk A.rb hW hal; obtain ⟨_, _, _⟩ := bk gv hW hgvl7; obtain ⟨_, _, _⟩ := bk (A.pb ip) hW hyl; obtain ⟨_, _, _⟩ := bk q13 hW l13; obtain ⟨_, _, _⟩ := bk (A.wb kx) hW hzl; go_step; exact hK)); (focus rfl)); (apply StI_plain (w0 := w7.drew) hI rfl rfl rfl rfl; (focus (intro W hW K hK; obtain ⟨_, _, _⟩ := bk A.rb hW hal; obtain ⟨_, _, _⟩ := bk gv hW hgvl7; obtain ⟨_, _, _⟩ := bk (A.pb ip) hW hyl; obtain ⟨_, _, _⟩ := bk q13 hW l13; obtain ⟨_, _, _⟩ := bk (A.wb kx) hW hzl; go_step; exact hK)); (focus rfl)); (apply StI_plain (w0 := w7.drew) hI rfl rfl rfl rfl; (focus (intro W hW K hK; obtain ⟨_, _, _⟩ := bk A.rb hW hal; obtain ⟨_, _, _⟩ := bk gv hW hgvl7; obtain ⟨_, _, _⟩ := bk (A.pb ip) hW hyl; obtain ⟨_, _, _⟩ := bk q13 hW l13; obtain ⟨_, _, _⟩ := bk (A.wb kx) hW hzl; go_step; exact hK)); (focus rfl)); (apply StI_plain (w0 := w7.drew) hI rfl rfl rfl rfl; (focus (intro W hW K hK; obtain ⟨_, _, _⟩ := bk A.rb hW hal; obtain ⟨_, _, _⟩ := bk gv hW hgvl7; obtain ⟨_, _, _⟩ := bk (A.pb ip) hW hyl; obtain ⟨_, _, _⟩ := bk q13 hW l13; obtain ⟨_, _, _⟩ := bk (A.wb kx) hW hzl; go_step; exact hK)); (focus rfl)); (apply StI_plain (w0 := w7.drew) hI rfl rfl rfl rfl; (focus (intro W hW K hK; obtain ⟨_, _, _⟩ := bk A.rb hW hal; obtain ⟨_, _, _⟩ := bk gv hW hgvl7; obtain ⟨_, _, _⟩ := bk (A.pb ip) hW hyl; obtain ⟨_, _, _⟩ := bk q13 hW l13; obtain ⟨_, _, _⟩ := bk (A.wb kx) hW hzl; go_step; exact hK)); (focus rfl)); (apply StI_plain (w0 := w7.drew) hI rfl rfl rfl rfl; (focus (intro W hW K hK; obtain ⟨_, _, _⟩ := bk A.rb hW hal; obtain ⟨_, _, _⟩ := bk gv hW hgvl7; obtain ⟨_, _, _⟩ := bk (A.pb ip) hW hyl; obtain ⟨_, _, _⟩ := bk q13 hW l13; obtain ⟨_, _, _⟩ := bk (A.wb kx) hW hzl; go_step; exact hK)); (focus rfl)); (apply StI_plain (w0 := w7.drew) hI rfl rfl rfl rfl; (focus (intro W hW K hK; obtain ⟨_, _, _⟩ := bk A.rb hW hal; obtain ⟨_, _, _⟩ := bk gv hW hgvl7; obtain ⟨_, _, _⟩ := bk (A.pb ip) hW hyl; obtain ⟨_, _, _⟩ := bk q13 hW l13; obtain ⟨_, _, _⟩ := bk (A.wb kx) hW hzl; go_step; exact hK)); (focus rfl)); (apply StI_plain (w0 := w7.drew) hI rfl rfl rfl rfl; (focus (intro W hW K hK; obtain ⟨_, _, _⟩ := bk A.rb hW hal; obtain ⟨_, _, _⟩ := bk gv hW hgvl7; obtain ⟨_, _, _⟩ := bk (A.pb ip) hW hyl; obtain ⟨_, _, _⟩ := bk q13 hW l13; obtain ⟨_, _, _⟩ := bk (A.wb kx) hW hzl; go_step; exact hK)); (focus rfl)); (apply StI_plain (w0 := w7.drew) hI rfl rfl rfl rfl; (focus (intro W hW K hK; obtain ⟨_, _, _⟩ := bk A.rb hW hal; obtain ⟨_, _, _⟩ := bk gv hW hgvl7; obtain ⟨_, _, _⟩ := bk (A.pb ip) hW hyl; obtain ⟨_, _, _⟩ := bk q13 hW l13; obtain ⟨_, _, _⟩ := bk (A.wb kx) hW hzl; go_step; exact hK)); (focus rfl)); (apply StI_plain (w0 := w7.drew) hI rfl rfl rfl rfl; (focus (intro W hW K hK; obtain ⟨_, _, _⟩ := bk A.rb hW hal; obtain ⟨_, _, _⟩ := bk gv hW hgvl7; obtain ⟨_, _, _⟩ := bk (A.pb ip) hW hyl; obtain ⟨_, _, _⟩ := bk q13 hW l13; obtain ⟨_, _, _⟩ := bk (A.wb kx) hW hzl; go_step; exact hK)); (focus rfl)); (apply StI_plain (w0 := w7.drew) hI rfl rfl rfl rfl; (focus (intro W hW K hK; obtain ⟨_, _, _⟩ := bk A.rb hW hal; obtain ⟨_, _, _⟩ := bk gv hW hgvl7; obtain ⟨_, _, _⟩ := bk (A.pb ip) hW hyl; obtain ⟨_, _, _⟩ := bk q13 hW l13; obtain ⟨_, _, _⟩ := bk (A.wb kx) hW hzl; go_step; exact hK)); (focus rfl)); (apply StI_plain (w0 := w7.drew) hI rfl rfl rfl rfl; (focus (intro W hW K hK; obtain ⟨_, _, _⟩ := bk A.rb hW hal; obtain ⟨_, _, _⟩ := bk gv hW hgvl7; obtain ⟨_, _, _⟩ := bk (A.pb ip) hW hyl; obtain ⟨_, _, _⟩ := bk q13 hW l13; obtain ⟨_, _, _⟩ := bk (A.wb kx) hW hzl; go_step; exact hK)); (focus rfl)); (apply StI_plain (w0 := w7.drew) hI rfl rfl rfl rfl; (focus (intro W hW K hK; obtain ⟨_, _, _⟩ := bk A.rb hW hal; obtain ⟨_, _, _⟩ := bk gv hW hgvl7; obtain ⟨_, _, _⟩ := bk (A.pb ip) hW hyl; obtain ⟨_, _, _⟩ := bk q13 hW l13; obtain ⟨_, _, _⟩ := bk (A.wb kx) hW hzl; go_step; exact hK)); (focus rfl)); (apply StI_plain (w0 := w7.drew) hI rfl rfl rfl rfl; (focus (intro W hW K hK; obtain ⟨_, _, _⟩ := bk A.rb hW hal; obtain ⟨_, _, _⟩ := bk gv hW hgvl7; obtain ⟨_, _, _⟩ := bk (A.pb ip) hW hyl; obtain ⟨_, _, _⟩ := bk q13 hW l13; obtain ⟨_, _, _⟩ := bk (A.wb kx) hW hzl; go_step; exact hK)); (focus rfl)); (apply StI_plain (w0 := w7.drew) hI rfl rfl rfl rfl; (focus (intro W hW K hK; obtain ⟨_, _, _⟩ := bk A.rb hW hal; obtain ⟨_, _, _⟩ := bk gv hW hgvl7; obtain ⟨_, _, _⟩ := bk (A.pb ip) hW hyl; obtain ⟨_, _, _⟩ := bk q13 hW l13; obtain ⟨_, _, _⟩ := bk (A.wb kx) hW hzl; go_step; exact hK)); (focus rfl)); (apply StI_plain (w0 := w7.drew) hI rfl rfl rfl rfl; (focus (intro W hW K hK; obtain ⟨_, _, _⟩ := bk A.rb hW hal; obtain ⟨_, _, _⟩ := bk gv hW hgvl7; obtain ⟨_, _, _⟩ := bk (A.pb ip) hW hyl; obtain ⟨_, _, _⟩ := bk q13 hW l13; obtain ⟨_, _, _⟩ := bk (A.wb kx) hW hzl; go_step; exact hK)); (focus rfl)); (apply StI_plain (w0 := w7.drew) hI rfl rfl rfl rfl; (focus (intro W hW K hK; obtain ⟨_, _, _⟩ := bk A.rb hW hal; obtain ⟨_, _, _⟩ := bk gv hW hgvl7; obtain ⟨_, _, _⟩ := bk (A.pb ip) hW hyl; obtain ⟨_, _, _⟩ := bk q13 hW l13; obtain ⟨_, _, _⟩ := bk (A.wb kx) hW hzl; go_step; exact hK)); (focus rfl))
                  (apply StI_eff rfl; go_wp2_with (first | (go_at_call 71; refine (HHC.out _ hI).mono ?_; rintro e w8 ⟨⟨u, rfl⟩, hw8⟩; have Hhw8 := Lib.hid hw8; clear hw8)))
                  refine onNormal_last ?_
                  obtain ⟨t2, ht2⟩ : ∃ t : Tally, t = t1.add y.state (bo.count - z.count) := ⟨_, rfl⟩
                  have hT8 : TRow w.heap.size w8 gq k (L.set gi t2) := by
                    have h0 := HhT7.out.below hI
                    have h1 := h0.write Hhgi7.out (tidx y.state) (by unfold tidx; split <;> (try split) <;> (try split) <;> omega) (.int .i64 (tval t1 y.state + (bo.count - z.count))) t2 (by rw [ht2]; exact tally_add t1 y.state (bo.count - z.count))
                    rw [List.set_set] at h1
                    rw [Hhw8.out]
                    exact h1
                  have hbw8 : Below w.heap.size w w8 := by rw [Hhw8.out]; exact bl_setCell (bl_step Hhbw7.out hI) _ _ (by have := HhT7.out.lt.1; exact this)
                  have hgi8 : (L.set gi t2)[gi]? = some t2 := by rw [List.getElem?_set_self (by rw [HhTq.out.2]; exact hgik)]
                  have h2le : t2.le (100000 + p.trips.length * 400000 + (kx : Int) * 600000 + 400000) := by rw [ht2]; exact (Hh1le.out.add y.state (bo.count - z.count) (by omega)).mono (by omega)
                  have htB : tallyBoard r ip kx bo L = L.set gi (tallyWait t2 z) := by
                    unfold tallyBoard
                    have hg0 : bo.group.toNat = gi := Hhgi.out
                    rw [tlSet_get L bo.group _ (by rw [hg0]; exact Hhtl.out), Hhyq.out, Hhzq.out, hg0, ht2, Hht1.out]
                  have hB9 : TB (100000 + p.trips.length * 400000 + (kx : Int) * 600000 + 600000) (tallyBoard r ip kx bo L) := TB.board HhBq.out (by omega) r ip kx bo (by omega) (by rw [Hhzq.out]; omega)
                  have hsnq : tallyBoards r ip Nm (x.boards.take (q + 1)) Lm = tallyBoard r ip kx bo L := by
                    rw [List.take_succ_eq_append_getElem hltq, tallyBoards_snoc, hLq, Hhboq.out]
                    congr 1
                    have := Hhkxq.out
                    simp
                    omega
                  obtain ⟨zl, hzl0⟩ : ∃ v, z.lost = v := ⟨_, rfl⟩
                  clear hptr7 hgvl7 hptw7 hgwl7 hgl7 hptrN hptrM hac hal hyc hyl hzc hzl c13 l13 hgf hI
                  have hr8 := Hh.out.below hbw8
                  have hwt8 := hr8.wt kx hkx
                  rw [Hhzq.out] at hwt8
                  have hzc := cells_of hwt8
                  have hzl := lt_of_heap hwt8
                  simp only [waitCells] at hzc
                  rw [hzl0] at hzc
                  have hgf := hT8.frozen
                  have hgl8 := hT8.lt.2
                  have k1 : w8.cell? ⟨gq, gi * 6 + 1, none⟩ = some (.int .i64 t2.lost) := hT8.cell hgi8 1 (by omega)
                  have k4 : w8.cell? ⟨gq, gi * 6 + 4, none⟩ = some (.int .i64 t2.outside) := hT8.cell hgi8 4 (by omega)
                  have hle2 := h2le
                  unfold Tally.le at hle2
                  have hI : Below w8.heap.size w8 w8.drew := (Below.refl _ _).drew
                  have HhT8 := Lib.hid hT8; clear hT8; have Hhbw8 := Lib.hid hbw8; clear hbw8; have Hhgi8 := Lib.hid hgi8; clear hgi8; have Hhr8 := Lib.hid hr8; clear hr8; have Hhwt8 := Lib.hid hwt8; clear hwt8; have Hh2le := Lib.hid h2le; clear h2le; have HhtB := Lib.hid htB; clear htB; have HhB9 := Lib.hid hB9; clear hB9; have Hhsnq := Lib.hid hsnq; clear hsnq; have Hht2 := Lib.hid ht2; clear ht2
                  cases zl
                  · have hwl : tallyWait t2 z = { t2 with outside := t2.outside + z.count } := by unfold tallyWait; rw [hzl0]; rfl
                    clear hzl0
                    have Hhwl := Lib.hid hwl; clear hwl
                    go_upto_region 28 with fail
                    refine wp_region_ord (fun W => Below w8.heap.size w8 W) [] [0, 1, 2, 3, 4, 5, 6, 7, 8, 9, 10] (some 11) (by kernel_rfl) (by kernel_rfl) hI ?_
                    refine OrdI_snk ?_
                    (apply StI_plain (w0 := w8.drew) hI rfl rfl rfl rfl; (focus (intro W hW K hK; obtain ⟨_, _, _⟩ := bk gq hW hgl8; obtain ⟨_, _, _⟩ := bk (A.wb kx) hW hzl; go_step; exact hK)); (focus rfl)); (apply StI_plain (w0 := w8.drew) hI rfl rfl rfl rfl; (focus (intro W hW K hK; obtain ⟨_, _, _⟩ := bk gq hW hgl8; obtain ⟨_, _, _⟩ := bk (A.wb kx) hW hzl; go_step; exact hK)); (focus rfl)); (apply StI_plain (w0 := w8.drew) hI rfl rfl rfl rfl; (focus (intro W hW K hK; obtain ⟨_, _, _⟩ := bk gq hW hgl8; obtain ⟨_, _, _⟩ := bk (A.wb kx) hW hzl; go_step; exact hK)); (focus rfl)); (apply StI_plain (w0 := w8.drew) hI rfl rfl rfl rfl; (focus (intro W hW K hK; obtain ⟨_, _, _⟩ := bk gq hW hgl8; obtain ⟨_, _, _⟩ := bk (A.wb kx) hW hzl; go_step; exact hK)); (focus rfl)); (apply StI_plain (w0 := w8.drew) hI rfl rfl rfl rfl; (focus (intro W hW K hK; obtain ⟨_, _, _⟩ := bk gq hW hgl8; obtain ⟨_, _, _⟩ := bk (A.wb kx) hW hzl; go_step; exact hK)); (focus rfl)); (apply StI_plain (w0 := w8.drew) hI rfl rfl rfl rfl; (focus (intro W hW K hK; obtain ⟨_, _, _⟩ := bk gq hW hgl8; obtain ⟨_, _, _⟩ := bk (A.wb kx) hW hzl; go_step; exact hK)); (focus rfl)); (apply StI_plain (w0 := w8.drew) hI rfl rfl rfl rfl; (focus (intro W hW K hK; obtain ⟨_, _, _⟩ := bk gq hW hgl8; obtain ⟨_, _, _⟩ := bk (A.wb kx) hW hzl; go_step; exact hK)); (focus rfl)); (apply StI_plain (w0 := w8.drew) hI rfl rfl rfl rfl; (focus (intro W hW K hK; obtain ⟨_, _, _⟩ := bk gq hW hgl8; obtain ⟨_, _, _⟩ := bk (A.wb kx) hW hzl; go_step; exact hK)); (focus rfl)); (apply StI_plain (w0 := w8.drew) hI rfl rfl rfl rfl; (focus (intro W hW K hK; obtain ⟨_, _, _⟩ := bk gq hW hgl8; obtain ⟨_, _, _⟩ := bk (A.wb kx) hW hzl; go_step; exact hK)); (focus rfl)); (apply StI_plain (w0 := w8.drew) hI rfl rfl rfl rfl; (focus (intro W hW K hK; obtain ⟨_, _, _⟩ := bk gq hW hgl8; obtain ⟨_, _, _⟩ := bk (A.wb kx) hW hzl; go_step; exact hK)); (focus rfl)); (apply StI_plain (w0 := w8.drew) hI rfl rfl rfl rfl; (focus (intro W hW K hK; obtain ⟨_, _, _⟩ := bk gq hW hgl8; obtain ⟨_, _, _⟩ := bk (A.wb kx) hW hzl; go_step; exact hK)); (focus rfl))
                    (apply StI_eff rfl; go_wp2_with fail)
                    refine onNormal_last ?_
                    obtain ⟨w9, hw9⟩ : ∃ W, (w8.setCell ⟨gq, gi * 6 + 4, none⟩ (.int .i64 (t2.outside + z.count))).drew = W := ⟨_, rfl⟩
                    have hT9 : TRow w.heap.size w9 gq k (tallyBoard r ip kx bo L) := by
                      have h1 := HhT8.out.write Hhgi8.out 4 (by omega) (.int .i64 (t2.outside + z.count)) (tallyWait t2 z) (by rw [Hhwl.out]; rfl)
                      rw [List.set_set] at h1
                      have h2 := h1.below (bl_drew (Below.refl _ _))
                      rw [hw9] at h2
                      rw [HhtB.out]
                      exact h2
                    have hbw9 : Below w.heap.size w w9 := by rw [← hw9]; exact bl_drew (bl_setCell Hhbw8.out _ _ (by have := hT9.lt.1; exact this))
                    rw [hw9]
                    clear hw9 hzc hgf k1 k4 hI
                    have HhT9 := Lib.hid hT9; clear hT9; have Hhbw9 := Lib.hid hbw9; clear hbw9
                    go_wp2_with fail
                    go_roundw
                    case rel =>
                      refine ⟨q + 1, by omega, by go_num, ?_, by rw [Hhipq.out, Hhsnq.out]; exact HhT9.out, ?_, Hhbw9.out⟩
                      · have e : ((Nm + (q + 1) : Nat) : Int) = (kx : Int) + 1 := by have := Hhkxq.out; omega
                        rw [e]
                      · rw [Hhipq.out, Hhsnq.out]
                        have e : (100000 : Int) + p.trips.length * 400000 + ((Nm + (q + 1) : Nat) : Int) * 600000 = 100000 + p.trips.length * 400000 + (kx : Int) * 600000 + 600000 := by have := Hhkxq.out; omega
                        rw [e]
                        exact HhB9.out
                    case measure => simp [intOf]; omega
                  · have hwl : tallyWait t2 z = { t2 with lost := t2.lost + z.count } := by unfold tallyWait; rw [hzl0]; rfl
                    clear hzl0
                    have Hhwl := Lib.hid hwl; clear hwl
                    go_upto_region 27 with fail
                    refine wp_region_ord (fun W => Below w8.heap.size w8 W) [] [0, 1, 2, 3, 4, 5, 6, 7, 8, 9, 10] (some 11) (by kernel_rfl) (by kernel_rfl) hI ?_
                    refine OrdI_snk ?_
                    (apply StI_plain (w0 := w8.drew) hI rfl rfl rfl rfl; (focus (intro W hW K hK; obtain ⟨_, _, _⟩ := bk gq hW hgl8; obtain ⟨_, _, _⟩ := bk (A.wb kx) hW hzl; go_step; exact hK)); (focus rfl)); (apply StI_plain (w0 := w8.drew) hI rfl rfl rfl rfl; (focus (intro W hW K hK; obtain ⟨_, _, _⟩ := bk gq hW hgl8; obtain ⟨_, _, _⟩ := bk (A.wb kx) hW hzl; go_step; exact hK)); (focus rfl)); (apply StI_plain (w0 := w8.drew) hI rfl rfl rfl rfl; (focus (intro W hW K hK; obtain ⟨_, _, _⟩ := bk gq hW hgl8; obtain ⟨_, _, _⟩ := bk (A.wb kx) hW hzl; go_step; exact hK)); (focus rfl)); (apply StI_plain (w0 := w8.drew) hI rfl rfl rfl rfl; (focus (intro W hW K hK; obtain ⟨_, _, _⟩ := bk gq hW hgl8; obtain ⟨_, _, _⟩ := bk (A.wb kx) hW hzl; go_step; exact hK)); (focus rfl)); (apply StI_plain (w0 := w8.drew) hI rfl rfl rfl rfl; (focus (intro W hW K hK; obtain ⟨_, _, _⟩ := bk gq hW hgl8; obtain ⟨_, _, _⟩ := bk (A.wb kx) hW hzl; go_step; exact hK)); (focus rfl)); (apply StI_plain (w0 := w8.drew) hI rfl rfl rfl rfl; (focus (intro W hW K hK; obtain ⟨_, _, _⟩ := bk gq hW hgl8; obtain ⟨_, _, _⟩ := bk (A.wb kx) hW hzl; go_step; exact hK)); (focus rfl)); (apply StI_plain (w0 := w8.drew) hI rfl rfl rfl rfl; (focus (intro W hW K hK; obtain ⟨_, _, _⟩ := bk gq hW hgl8; obtain ⟨_, _, _⟩ := bk (A.wb kx) hW hzl; go_step; exact hK)); (focus rfl)); (apply StI_plain (w0 := w8.drew) hI rfl rfl rfl rfl; (focus (intro W hW K hK; obtain ⟨_, _, _⟩ := bk gq hW hgl8; obtain ⟨_, _, _⟩ := bk (A.wb kx) hW hzl; go_step; exact hK)); (focus rfl)); (apply StI_plain (w0 := w8.drew) hI rfl rfl rfl rfl; (focus (intro W hW K hK; obtain ⟨_, _, _⟩ := bk gq hW hgl8; obtain ⟨_, _, _⟩ := bk (A.wb kx) hW hzl; go_step; exact hK)); (focus rfl)); (apply StI_plain (w0 := w8.drew) hI rfl rfl rfl rfl; (focus (intro W hW K hK; obtain ⟨_, _, _⟩ := bk gq hW hgl8; obtain ⟨_, _, _⟩ := bk (A.wb kx) hW hzl; go_step; exact hK)); (focus rfl)); (apply StI_plain (w0 := w8.drew) hI rfl rfl rfl rfl; (focus (intro W hW K hK; obtain ⟨_, _, _⟩ := bk gq hW hgl8; obtain ⟨_, _, _⟩ := bk (A.wb kx) hW hzl; go_step; exact hK)); (focus rfl))
                    (apply StI_eff rfl; go_wp2_with fail)
                    refine onNormal_last ?_
                    obtain ⟨w9, hw9⟩ : ∃ W, (w8.setCell ⟨gq, gi * 6 + 1, none⟩ (.int .i64 (t2.lost + z.count))).drew = W := ⟨_, rfl⟩
                    have hT9 : TRow w.heap.size w9 gq k (tallyBoard r ip kx bo L) := by
                      have h1 := HhT8.out.write Hhgi8.out 1 (by omega) (.int .i64 (t2.lost + z.count)) (tallyWait t2 z) (by rw [Hhwl.out]; rfl)
                      rw [List.set_set] at h1
                      have h2 := h1.below (bl_drew (Below.refl _ _))
                      rw [hw9] at h2
                      rw [HhtB.out]
                      exact h2
                    have hbw9 : Below w.heap.size w w9 := by rw [← hw9]; exact bl_drew (bl_setCell Hhbw8.out _ _ (by have := hT9.lt.1; exact this))
                    rw [hw9]
                    clear hw9 hzc hgf k1 k4 hI
                    have HhT9 := Lib.hid hT9; clear hT9; have Hhbw9 := Lib.hid hbw9; clear hbw9
                    go_wp2_with fail
                    go_roundw
                    case rel =>
                      refine ⟨q + 1, by omega, by go_num, ?_, by rw [Hhipq.out, Hhsnq.out]; exact HhT9.out, ?_, Hhbw9.out⟩
                      · have e : ((Nm + (q + 1) : Nat) : Int) = (kx : Int) + 1 := by have := Hhkxq.out; omega
                        rw [e]
                      · rw [Hhipq.out, Hhsnq.out]
                        have e : (100000 : Int) + p.trips.length * 400000 + ((Nm + (q + 1) : Nat) : Int) * 600000 = 100000 + p.trips.length * 400000 + (kx : Int) * 600000 + 600000 := by have := Hhkxq.out; omega
                        rw [e]
                        exact HhB9.out
                    case measure => simp [intOf]; omega
                · obtain rfl : q = x.boards.length := by omega
                  as_aux_lemma =>
                  rw [List.take_length] at hTq hBq
                  rw [← Hhrs.out] at hTq hBq
                  rw [← Hhsn.out] at hBq ⊢
                  have HhTq := Lib.hid hTq; clear hTq; have HhBq := Lib.hid hBq; clear hBq; have Hhbq := Lib.hid hbq; clear hbq
                  go_wp2_with fail
                  go_roundw
                  case rel => exact ⟨m + 1, by omega, by go_num, rfl, HhTq.out, HhBq.out, Hhbq.out⟩
                  case measure => simp [intOf]; omega
            · obtain rfl : m = p.rides.length := by omega
              as_aux_lemma =>
              rw [List.take_length] at hTm
              go_wp2_with fail
              go_ret
              refine ⟨_, rfl, ?_, hbm⟩
              have h1 := hTm.1
              rw [← HhL1.out] at h1
              have e : talliesT T p r = tallyRides r p.trips.length 0 p.rides (tallyTrips r 0 p.trips (T.groups.map unpl)) := rfl
              rw [Hhn.out, e]
              exact h1

end Go.Proofs.Ytjoihijlcpnhoaa
