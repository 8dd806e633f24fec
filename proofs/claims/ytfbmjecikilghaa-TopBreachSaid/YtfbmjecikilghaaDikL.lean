/- dike: what levels do to a section. -/
import Derived.Test.YtfbmjecikilghaaDikC
import Derived.Test.YtfbmjecikilghaaTruth
import Derived.Test.YtfbmjecikilghaaCheckS
import Derived.Maps.OwnOps
import Derived.Test.YtfbmjecikilghaaTopC
import Derived.WalkSpells
namespace Go.Proofs.Ytfbmjecikilghaa
open Go.RowKit

abbrev secC (cell : Int) (s : SecS) : Array Value := #[.int .i64 cell, .int .i64 s.crest.1, .int .i64 s.crest.2, .int .i64 s.strength.1, .int .i64 s.strength.2, .int .i64 s.toe, .int .i64 s.wear.1, .int .i64 s.wear.2]
def crestsL (s : SecS) (l : List Sp) (n : Nat) : List Sp := (List.range n).map fun k => ((holdAt s l k).weak.1, (holdAt s l k).strong.1)
def strengthsL (s : SecS) (l : List Sp) (n : Nat) : List Sp := (List.range n).map fun k => ((holdAt s l k).weak.2, (holdAt s l k).strong.2)

abbrev fateZ : Array Value := #[.slice none 0 0, .slice none 0 0, .int .i64 0, .int .i64 0]
/-- What stands in memory ahead of a step. -/
structure HoldM (w : World) (s : SecS) (cs : Array Value) (l : List Sp) (bf k : Nat) (vc vs : Value) (W : World) : Prop where
  sec : W.heap[w.heap.size]? = some (.cells cs 71 (0, 0))
  out : W.heap[w.heap.size + 1]? = some (.cells fateZ 73 (0, 0))
  fate : W.heap[bf]? = some (.cells #[vc, vs, .int .i64 (holdAt s l k).may, .int .i64 (holdAt s l k).must] 73 (0, 0))
  pair : W.heap[bf + 1]? = some (.cells #[.int .i64 (holdAt s l k).weak.1, .int .i64 (holdAt s l k).weak.2, .int .i64 (holdAt s l k).strong.1, .int .i64 (holdAt s l k).strong.2] 98 (0, 0))
  rc : W.ownsRow (bf + 2) 46 2 vc k (wcells (crestsL s l k))
  rs : W.ownsRow (bf + 2) 46 2 vs k (wcells (strengthsL s l k))
  sep : ∀ g, vc.ownBlock = some g → vs.ownBlock ≠ some g
  below : Below w.heap.size w W
  big : bf + 2 ≤ W.heap.size
def HoldI (w : World) (s : SecS) (cs : Array Value) (l : List Sp) (bf : Nat) (i : Value) (W : World) : Prop := ∃ (k : Nat) (vc vs : Value), k ≤ l.length ∧ i = .int .i64 k ∧ HoldM w s cs l bf k vc vs W
/-- In a step, behind its note. -/
structure HoldR (w0 : World) (bf : Nat) (vc vs : Value) (may must a b c d : Int) (W : World) : Prop where
  fate : W.heap[bf]? = some (.cells #[vc, vs, .int .i64 may, .int .i64 must] 73 (0, 0))
  pair : W.heap[bf + 1]? = some (.cells #[.int .i64 a, .int .i64 b, .int .i64 c, .int .i64 d] 98 (0, 0))
  kept : Keeps [bf, bf + 1] w0 W

theorem HoldR.step {w0 W W' : World} {bf : Nat} {vc vs : Value} {may must a b c d : Int} (h : HoldR w0 bf vc vs may must a b c d W) (hb : Below W.heap.size W W') : HoldR w0 bf vc vs may must a b c d W' :=
  ⟨heap_below hb h.fate, heap_below hb h.pair, h.kept.stepB hb⟩
theorem HoldR.may' {w0 W : World} {bf : Nat} {vc vs : Value} {may must a b c d : Int} (h : HoldR w0 bf vc vs may must a b c d W) (x : Int) : HoldR w0 bf vc vs x must a b c d (W.setCell ⟨bf, 2, none⟩ (.int .i64 x)) :=
  ⟨(heap_setCell_at h.fate _).trans rfl, heap_setCell_off h.pair _ (by omega), h.kept.setCell _ _ (.inl (by simp))⟩
theorem HoldR.must' {w0 W : World} {bf : Nat} {vc vs : Value} {may must a b c d : Int} (h : HoldR w0 bf vc vs may must a b c d W) (x : Int) : HoldR w0 bf vc vs may x a b c d (W.setCell ⟨bf, 3, none⟩ (.int .i64 x)) :=
  ⟨(heap_setCell_at h.fate _).trans rfl, heap_setCell_off h.pair _ (by omega), h.kept.setCell _ _ (.inl (by simp))⟩
theorem HoldR.weak' {w0 W : World} {bf : Nat} {vc vs : Value} {may must a b c d : Int} (h : HoldR w0 bf vc vs may must a b c d W) (x y : Int) : HoldR w0 bf vc vs may must x y c d ((W.setCell ⟨bf + 1, 0, none⟩ (.int .i64 x)).setCell ⟨bf + 1, 1, none⟩ (.int .i64 y)) :=
  ⟨heap_setCell_off (heap_setCell_off h.fate _ (by omega)) _ (by omega), (heap_setCell_at ((heap_setCell_at h.pair _).trans rfl) _).trans rfl, (h.kept.setCell _ _ (.inl (by simp))).setCell _ _ (.inl (by simp))⟩
theorem HoldR.strong' {w0 W : World} {bf : Nat} {vc vs : Value} {may must a b c d : Int} (h : HoldR w0 bf vc vs may must a b c d W) (x y : Int) : HoldR w0 bf vc vs may must a b x y ((W.setCell ⟨bf + 1, 2, none⟩ (.int .i64 x)).setCell ⟨bf + 1, 3, none⟩ (.int .i64 y)) :=
  ⟨heap_setCell_off (heap_setCell_off h.fate _ (by omega)) _ (by omega), (heap_setCell_at ((heap_setCell_at h.pair _).trans rfl) _).trans rfl, (h.kept.setCell _ _ (.inl (by simp))).setCell _ _ (.inl (by simp))⟩

theorem hold_next {w w4 W : World} {s : SecS} {cs : Array Value} {l : List Sp} {bf k : Nat} {vc vs : Value} {may must pa pb pc pd m1 n1 qa qb qc qd : Int} (hh : holdAt s l k = ⟨(pa, pb), (pc, pd), may, must⟩) (hn : holdAt s l (k + 1) = ⟨(qa, qb), (qc, qd), m1, n1⟩)
    (g0 : w4.heap[w.heap.size]? = some (.cells cs 71 (0, 0))) (g1 : w4.heap[w.heap.size + 1]? = some (.cells fateZ 73 (0, 0)))
    (rc : w4.ownsRow (bf + 2) 46 2 vc (k + 1) (wcells (crestsL s l k ++ [(pa, pc)]))) (rs : w4.ownsRow (bf + 2) 46 2 vs (k + 1) (wcells (strengthsL s l k ++ [(pb, pd)]))) (sep : ∀ g, vc.ownBlock = some g → vs.ownBlock ≠ some g)
    (hb : Below w.heap.size w w4) (hbig : bf + 2 ≤ w4.heap.size) (h1 : w.heap.size + 1 < bf) (hR : HoldR w4 bf vc vs m1 n1 qa qb qc qd W) : HoldM w s cs l bf (k + 1) vc vs W := by
  refine ⟨hR.kept.heap g0 (by simp; omega), hR.kept.heap g1 (by simp; omega), ?_, ?_, ?_, ?_, sep, hb.trans ((hR.kept.below (show bf ≤ w4.heap.size by omega) (by simp)).mono (by omega)), by have := hR.kept.size; omega⟩
  · rw [hn]; exact hR.fate
  · rw [hn]; exact hR.pair
  · have e : crestsL s l (k + 1) = crestsL s l k ++ [(pa, pc)] := by unfold crestsL; rw [range_snoc, hh]
    rw [e]; exact row_sameS rc (fun g hg => hR.kept.block g (rc.lt g hg).2 (by have := (rc.lt g hg).1; simp; omega))
  · have e : strengthsL s l (k + 1) = strengthsL s l k ++ [(pb, pd)] := by unfold strengthsL; rw [range_snoc, hh]
    rw [e]; exact row_sameS rs (fun g hg => hR.kept.block g (rs.lt g hg).2 (by have := (rs.lt g hg).1; simp; omega))

set_option maxHeartbeats 16000000 in
set_option maxRecDepth 100000 in
theorem hold_ok (s : SecS) (hs : s.ok) (cell : Int) (l : List Sp) (a : Option Addr) (cap B : Nat) (w : World) (hS : Sl SpanE 2 B w a l) (hB : B ≤ w.heap.size) (hl : ∀ p ∈ l, vldB p.1 p.2 (-20000) 20000 = true) (hn : l.length ≤ 100) :
    Calls Try.prog 16 #[.agg (secC cell s), .slice a l.length cap] w fun e w' => ∃ vc vs, e = .returned (.tuple #[.agg #[vc, vs, .int .i64 (holdAt s l l.length).may, .int .i64 (holdAt s l l.length).must], .int .i64 0]) ∧
      w'.ownsRow w.heap.size 46 2 vc (l.length + 1) (wcells (crestsL s l (l.length + 1))) ∧ w'.ownsRow w.heap.size 46 2 vs (l.length + 1) (wcells (strengthsL s l (l.length + 1))) ∧ Below w.heap.size w w' := by
  have hsec := section_any cell s.crest.1 s.crest.2 s.strength.1 s.strength.2 s.toe s.wear.1 s.wear.2 (by have := hs.c; have := hs.c0; have := hs.c1; simp [vldB]; omega) (by have := hs.s; have := hs.s0; have := hs.s1; simp [vldB]; omega) (by have := hs.t0; have := hs.t1; simp [vldB]; omega) (by have := hs.w; have := hs.w0; have := hs.w1; simp [vldB]; omega)
  have hcon := fun V (hV : Below w.heap.size w V) => containsHold_none l a cap B V (by have := hV.size; omega) (hS.below (ek_span B) (hV.mono hB)) hl
  have hord : ∀ j, (l.getD j (0, 0)).1 ≤ (l.getD j (0, 0)).2 := fun j => by
    rw [List.getD_eq_getElem?_getD]
    by_cases hj : j < l.length
    · have := hl _ (List.getElem_mem hj)
      rw [List.getElem?_eq_getElem hj]
      simp only [vldB, Bool.and_eq_true, decide_eq_true_eq] at this
      exact this.1.1
    · rw [List.getElem?_eq_none (by omega)]; exact Int.le_refl _
  have hbd := fun k => holdAt_bd hs hord k
  have hfst := fun k => holdAt_first s l k
  have hh0 : holdAt s l 0 = ⟨(s.crest.1, s.strength.1), (s.crest.2, s.strength.2), -1, -1⟩ := rfl
  obtain ⟨toe, htoe⟩ : ∃ x, s.toe = x := ⟨_, rfl⟩
  have ht0 := hs.t0
  have ht1 := hs.t1
  have hw0 := hs.w0
  have hw1 := hs.w
  have hw2 := hs.w1
  rw [htoe] at ht0 ht1 hsec
  have hsc : secC cell s = #[.int .i64 cell, .int .i64 s.crest.1, .int .i64 s.crest.2, .int .i64 s.strength.1, .int .i64 s.strength.2, .int .i64 toe, .int .i64 s.wear.1, .int .i64 s.wear.2] := by rw [← htoe]
  rw [hsc]
  obtain ⟨c0, hc0⟩ : ∃ x, s.crest.1 = x := ⟨_, rfl⟩
  obtain ⟨c1, hc1⟩ : ∃ x, s.crest.2 = x := ⟨_, rfl⟩
  obtain ⟨s0, hs0⟩ : ∃ x, s.strength.1 = x := ⟨_, rfl⟩
  obtain ⟨s1, hs1⟩ : ∃ x, s.strength.2 = x := ⟨_, rfl⟩
  obtain ⟨r0, hr0⟩ : ∃ x, s.wear.1 = x := ⟨_, rfl⟩
  obtain ⟨r1, hr1⟩ : ∃ x, s.wear.2 = x := ⟨_, rfl⟩
  rw [hc0, hc1, hs0, hs1, hr0, hr1] at hsec
  rw [hr0] at hw0 hw1
  rw [hr1] at hw1 hw2
  rw [hc0, hc1, hs0, hs1, hr0, hr1]
  rw [hc0, hc1, hs0, hs1] at hh0
  obtain ⟨hN, hhN⟩ : ∃ h, holdAt s l l.length = h := ⟨_, rfl⟩
  obtain ⟨⟨ya, yb⟩, ⟨yc, yd⟩, ymay, ymust⟩ := hN
  simp only [hhN]
  have Hhs := Lib.hid hs; clear hs; have HhS := Lib.hid hS; clear hS; have Hhl := Lib.hid hl; clear hl; have Hhord := Lib.hid hord; clear hord; have Hhbd := Lib.hid hbd; clear hbd; have Hhfst := Lib.hid hfst; clear hfst; have Hhh0 := Lib.hid hh0; clear hh0; have Hhtoe := Lib.hid htoe; clear htoe; have Hhsc := Lib.hid hsc; clear hsc; have Hhc0 := Lib.hid hc0; clear hc0; have Hhc1 := Lib.hid hc1; clear hc1; have Hhs0 := Lib.hid hs0; clear hs0; have Hhs1 := Lib.hid hs1; clear hs1; have Hhr0 := Lib.hid hr0; clear hr0; have Hhr1 := Lib.hid hr1; clear hr1; have HhhN := Lib.hid hhN; clear hhN
  go_enter Try.func16, Try.ntmps16
  go_wp2_with fail
  refine (hsec _).mono ?_
  rintro x w1 ⟨rfl, hb1⟩
  have y0 : w1.heap[w.heap.size]? = some (.cells #[.int .i64 cell, .int .i64 c0, .int .i64 c1, .int .i64 s0, .int .i64 s1, .int .i64 toe, .int .i64 r0, .int .i64 r1] 71 (0, 0)) := heap_below hb1 (by repeat (first | (refine heap_alloc_at' _ _ ?_; focus (simp; done)) | refine heap_alloc_off ?_ _))
  have y1 : w1.heap[w.heap.size + 1]? = some (.cells fateZ 73 (0, 0)) := heap_below hb1 (by repeat (first | (refine heap_alloc_at' _ _ ?_; focus (simp; done)) | refine heap_alloc_off ?_ _))
  have hbw : Below w.heap.size w w1 := (by repeat (first | exact Below.refl _ _ | (refine bl_setCell ?_ _ _ ?_; rotate_left; focus (first | omega | (simp; done) | (simp; omega))) | refine bl_alloc ?_ _ | refine bl_step ?_ (by assumption) | refine bl_drew ?_ | refine bl_drewN ?_ _))
  clear hb1 hsec
  have Hy0 := Lib.hid y0; clear y0; have Hy1 := Lib.hid y1; clear y1; have Hhbw := Lib.hid hbw; clear hbw
  go_wp2_with fail
  refine (hcon _ Hhbw.out).mono ?_
  rintro x w2 ⟨rfl, hb2⟩
  have z0 := heap_below hb2 Hy0.out
  have z1 := heap_below hb2 Hy1.out
  have hbv := bl_step Hhbw.out hb2
  clear Hy0 Hy1 Hhbw hb2 hcon
  have z0c := cells_of z0
  have z0l := lt_of_heap z0
  have Hz0 := Lib.hid z0; clear z0; have Hz1 := Lib.hid z1; clear z1; have Hhbv := Lib.hid hbv; clear hbv
  go_wp2_with fail
  have hzf := Hz1.out
  obtain ⟨bf, hbf⟩ : ∃ q, w2.heap.size = q := ⟨_, rfl⟩
  have hbig : w.heap.size + 1 < bf := by have := lt_of_heap hzf; omega
  clear hzf
  go_loopw [44] (fun i wr => HoldI w s #[.int .i64 cell, .int .i64 c0, .int .i64 c1, .int .i64 s0, .int .i64 s1, .int .i64 toe, .int .i64 r0, .int .i64 r1] l bf i wr) (fun i _ => l.length - (intOf i).toNat)
  case atStart =>
    subst hbf
    refine ⟨0, .slice none 0 0, .slice none 0 0, Nat.zero_le _, rfl, ⟨heap_alloc_off (heap_alloc_off Hz0.out _) _, heap_alloc_off (heap_alloc_off Hz1.out _) _, ?_, ?_, World.ownsRow_nil _ _ _ _, World.ownsRow_nil _ _ _ _, fun g hg => (by cases hg), bl_alloc (bl_alloc Hhbv.out _) _, by simp⟩⟩
    · rw [Hhh0.out]; exact heap_alloc_off (heap_alloc_at _ _) _
    · rw [Hhh0.out]; exact heap_alloc_at' _ _ (by simp)
  case round =>
    obtain ⟨k, vc, vs, hk, rfl, hM⟩ := hrel
    clear z0c z0l
    rw [hbf]
    by_cases hlt : k < l.length
    · obtain ⟨b, off, rfl, hbB, he⟩ := (HhS.out.below (ek_span B) (hM.below.mono hB)).2 k hlt
      have hgd : l.getD k (0, 0) = l[k] := by rw [List.getD_eq_getElem?_getD, List.getElem?_eq_getElem hlt]; rfl
      have hv := Hhl.out _ (List.getElem_mem hlt)
      obtain ⟨u, hu⟩ : ∃ x, l[k] = x := ⟨_, rfl⟩
      rw [hu] at he hgd hv
      obtain ⟨u1, u2⟩ := u
      obtain ⟨e0, e1⟩ := he
      simp only [vldB, Bool.and_eq_true, decide_eq_true_eq] at e0 e1 hv
      obtain ⟨⟨v0, v1⟩, v2⟩ := hv
      have hB0 := Hhbd.out k
      have hF0 := Hhfst.out k
      have hfate := hM.fate
      have hpair := hM.pair
      obtain ⟨h, hh⟩ : ∃ h, holdAt s l k = h := ⟨_, rfl⟩
      rw [hh] at hB0 hF0 hfate hpair
      obtain ⟨⟨pa, pb⟩, ⟨pc, pd⟩, may, must⟩ := h
      simp only at hB0 hF0 hfate hpair
      obtain ⟨⟨B1, B2, B3⟩, B4, B5, B6, B7⟩ := hB0
      obtain ⟨F1, F2⟩ := hF0
      have hbw : b < wr.heap.size := World.block_lt_of_cell? wr _ e0
      have Hhu := Lib.hid hu; clear hu; have Hhgd := Lib.hid hgd; clear hgd; have Hhh := Lib.hid hh; clear hh; have HhM := Lib.hid hM; clear hM; have Hhfate := Lib.hid hfate; clear hfate; have Hhpair := Lib.hid hpair; clear hpair
      go_wp2_with fail
      obtain ⟨S, hSd⟩ : ∃ S : List Nat, bf :: (vc.ownBlock.toList ++ vs.ownBlock.toList) = S := ⟨_, rfl⟩
      have hS0 : bf ∈ S := by rw [← hSd]; exact List.mem_cons_self
      have hSc : ∀ g, vc.ownBlock = some g → g ∈ S := fun g hg => by rw [← hSd, hg]; simp
      have hSs : ∀ g, vs.ownBlock = some g → g ∈ S := fun g hg => by rw [← hSd, hg]; simp
      have hSb : ∀ i ∈ S, (bf = i ∨ bf + 2 ≤ i) ∧ i < wr.heap.size := fun i hi => by
        rw [← hSd] at hi
        rcases List.mem_cons.1 hi with rfl | hi
        · have := HhM.out.big; omega
        · rcases List.mem_append.1 hi with hi | hi
          · have := HhM.out.rc.lt i (by simpa using hi); omega
          · have := HhM.out.rs.lt i (by simpa using hi); omega
      have hgb := HhM.out.big
      refine Calls.mono (note_any (bf + 2) bf (bf + 1) k vc vs (crestsL s l k) (strengthsL s l k) may must pa pb pc pd S _ (heap_alloc_off Hhfate.out (.cells #[.int .i64 u1, .int .i64 u2] 46)) (heap_alloc_off Hhpair.out (.cells #[.int .i64 u1, .int .i64 u2] 46)) (HhM.out.rc.alloc _) (HhM.out.rs.alloc _) HhM.out.sep (by omega) (by omega) (by omega) (by simp; omega) (by omega) hS0 hSc hSs) ?_
      rintro x w4 ⟨vc', vs', ⟨uu, rfl⟩, f0, p0, rc, rs, hsep, hK4⟩
      obtain ⟨q, hq⟩ : ∃ q, wr.heap.size = q := ⟨_, rfl⟩
      have hqS : ¬ q ∈ S := fun h => by have := hSb q h; omega
      have gq : w4.heap[q]? = some (.cells #[.int .i64 u1, .int .i64 u2] 46 (0, 0)) := hK4.heap (heap_alloc_at' _ _ hq.symm) hqS
      have g0 := hK4.heap (heap_alloc_off HhM.out.sec (.cells #[.int .i64 u1, .int .i64 u2] 46)) (fun h => by have := hSb _ h; omega)
      have g1 := hK4.heap (heap_alloc_off HhM.out.out (.cells #[.int .i64 u1, .int .i64 u2] 46)) (fun h => by have := hSb _ h; omega)
      have hB4 : Below bf wr w4 := ((Keeps.alloc (Keeps.refl S wr) (.cells #[.int .i64 u1, .int .i64 u2] 46)).step hK4 (fun i hi => .inl hi)).below (by omega) (fun i hi => by have := hSb i hi; omega)
      have hbw4 : Below w.heap.size w w4 := HhM.out.below.trans (hB4.mono (by omega))
      have hbig4 : bf + 2 ≤ w4.heap.size := by have := hK4.size; simp at this; omega
      have hR : HoldR w4 bf vc' vs' may must pa pb pc pd w4 := ⟨f0, p0, Keeps.refl _ _⟩
      clear hSb hS0 hSc hSs hK4 hB4 hqS hSd hgb
      rw [hq]
      have hnq : q ≠ bf ∧ q ≠ bf + 1 := ⟨fun e => (by subst e; rw [gq] at f0; cases f0), fun e => (by subst e; rw [gq] at p0; cases p0)⟩
      obtain ⟨hnq0, hnq1⟩ := hnq
      have f0c := cells_of f0
      have f0l := lt_of_heap f0
      have p0c := cells_of p0
      have p0l := lt_of_heap p0
      have gqc := cells_of gq
      have gql := lt_of_heap gq
      have hfa := fails_any pa pb u2
      have hfb := fails_any pc pd u1
      clear HhM Hhfate Hhpair
      have Hf0 := Lib.hid f0; clear f0; have Hp0 := Lib.hid p0; clear p0; have Hrc := Lib.hid rc; clear rc; have Hrs := Lib.hid rs; clear rs; have Hhsep := Lib.hid hsep; clear hsep; have Hgq := Lib.hid gq; clear gq; have Hg0 := Lib.hid g0; clear g0; have Hg1 := Lib.hid g1; clear g1; have Hhbw4 := Lib.hid hbw4; clear hbw4; have HhR := Lib.hid hR; clear hR
      go_upto_region 14 with fail
      go_cut [60] from 51 to 59 (fun v wx => v = .bool (decide (may < 0 ∧ min pa pb < u2)) ∧ HoldR w4 bf vc' vs' may must pa pb pc pd wx)
      case first =>
        by_cases hm : may < 0
        · go_wp2_with fail
          refine (hfa _).mono ?_
          rintro x w5 ⟨rfl, hb5⟩
          go_wp2_with fail
          go_meet
          exact ⟨by simp [hm], HhR.out.step hb5⟩
        · go_wp2_with fail
          go_meet
          exact ⟨by rw [decide_eq_false (fun h => by omega)], HhR.out⟩
      case rest =>
        obtain ⟨rfl, hR⟩ := hcut
        obtain ⟨m1, hm1⟩ : ∃ x : Int, (if may < 0 ∧ min pa pb < u2 then (k : Int) else may) = x := ⟨_, rfl⟩
        obtain ⟨b1, hb1⟩ : ∃ x, decide (may < 0 ∧ min pa pb < u2) = x := ⟨_, rfl⟩
        rw [hb1]
        clear f0c f0l p0c p0l gqc gql HhR hfa
        have f0c := cells_of hR.fate
        have f0f := frozen_of hR.fate
        have f0l := lt_of_heap hR.fate
        have p0c := cells_of hR.pair
        have p0f := frozen_of hR.pair
        have p0l := lt_of_heap hR.pair
        have gq' := hR.kept.heap Hgq.out (by simp; omega)
        have gqc := cells_of gq'
        have gql := lt_of_heap gq'
        clear gq'
        have HhR := Lib.hid hR; clear hR
        have Hhm1 := Lib.hid hm1; clear hm1; have Hhb1 := Lib.hid hb1; clear hb1
        go_upto_if 60 with fail
        go_cut [61] from 61 to 62 (fun _ wx => HoldR w4 bf vc' vs' (m1) (must) (pa) (pb) (pc) (pd) wx)
        case first =>
          cases b1 with
          | true =>
            have e : m1 = k := by rw [← Hhm1.out, if_pos (of_decide_eq_true Hhb1.out)]
            clear Hhm1
            go_wp2_with fail
            go_meet
            rw [e]
            exact HhR.out.may' k
          | false =>
            have e : m1 = may := by rw [← Hhm1.out, if_neg (of_decide_eq_false Hhb1.out)]
            clear Hhm1
            go_wp2_with fail
            go_meet
            rw [e]
            exact HhR.out
        case rest =>
        have hR := hcut
        clear hcut
        clear f0c f0f f0l p0c p0f p0l gqc gql HhR
        have f0c := cells_of hR.fate
        have f0f := frozen_of hR.fate
        have f0l := lt_of_heap hR.fate
        have p0c := cells_of hR.pair
        have p0f := frozen_of hR.pair
        have p0l := lt_of_heap hR.pair
        have gq' := hR.kept.heap Hgq.out (by simp; omega)
        have gqc := cells_of gq'
        have gql := lt_of_heap gq'
        clear gq'
        have HhR := Lib.hid hR; clear hR
        go_upto_region 16 with fail
        go_cut [72] from 63 to 71 (fun v wx => v = .bool (decide (must < 0 ∧ min pc pd < u1)) ∧ HoldR w4 bf vc' vs' (m1) (must) (pa) (pb) (pc) (pd) wx)
        case first =>
          by_cases hm : must < 0
          · go_wp2_with fail
            refine (hfb _).mono ?_
            rintro x w5 ⟨rfl, hb5⟩
            go_wp2_with fail
            go_meet
            exact ⟨by simp [hm], HhR.out.step hb5⟩
          · go_wp2_with fail
            go_meet
            exact ⟨by rw [decide_eq_false (fun h => by omega)], HhR.out⟩
        case rest =>
        obtain ⟨rfl, hR⟩ := hcut
        obtain ⟨n1, hn1⟩ : ∃ x : Int, (if must < 0 ∧ min pc pd < u1 then (k : Int) else must) = x := ⟨_, rfl⟩
        obtain ⟨b2, hb2⟩ : ∃ x, decide (must < 0 ∧ min pc pd < u1) = x := ⟨_, rfl⟩
        rw [hb2]
        clear f0c f0f f0l p0c p0f p0l gqc gql HhR hfb
        have f0c := cells_of hR.fate
        have f0f := frozen_of hR.fate
        have f0l := lt_of_heap hR.fate
        have p0c := cells_of hR.pair
        have p0f := frozen_of hR.pair
        have p0l := lt_of_heap hR.pair
        have gq' := hR.kept.heap Hgq.out (by simp; omega)
        have gqc := cells_of gq'
        have gql := lt_of_heap gq'
        clear gq'
        have HhR := Lib.hid hR; clear hR
        have Hhn1 := Lib.hid hn1; clear hn1; have Hhb2 := Lib.hid hb2; clear hb2
        go_upto_if 72 with fail
        go_cut [73] from 73 to 74 (fun _ wx => HoldR w4 bf vc' vs' (m1) (n1) (pa) (pb) (pc) (pd) wx)
        case first =>
          cases b2 with
          | true =>
            have e : n1 = k := by rw [← Hhn1.out, if_pos (of_decide_eq_true Hhb2.out)]
            clear Hhn1
            go_wp2_with fail
            go_meet
            rw [e]
            exact HhR.out.must' k
          | false =>
            have e : n1 = must := by rw [← Hhn1.out, if_neg (of_decide_eq_false Hhb2.out)]
            clear Hhn1
            go_wp2_with fail
            go_meet
            rw [e]
            exact HhR.out
        case rest =>
        have hR := hcut
        clear hcut
        clear f0c f0f f0l p0c p0f p0l gqc gql HhR
        have f0c := cells_of hR.fate
        have f0f := frozen_of hR.fate
        have f0l := lt_of_heap hR.fate
        have p0c := cells_of hR.pair
        have p0f := frozen_of hR.pair
        have p0l := lt_of_heap hR.pair
        have gq' := hR.kept.heap Hgq.out (by simp; omega)
        have gqc := cells_of gq'
        have gql := lt_of_heap gq'
        clear gq'
        have HhR := Lib.hid hR; clear hR
        have gs' := HhR.out.kept.heap Hg0.out (by simp; omega)
        have gsc := cells_of gs'
        have gsl := lt_of_heap gs'
        clear gs'
        obtain ⟨qa, hqa⟩ : ∃ z : Int, (if toe < u2 then pa - r1 else pa) = z := ⟨_, rfl⟩
        obtain ⟨qb, hqb⟩ : ∃ z : Int, (if toe < u2 then pb - r1 else pb) = z := ⟨_, rfl⟩
        obtain ⟨b3, hb3⟩ : ∃ z, decide (toe < u2) = z := ⟨_, rfl⟩
        have Hhqa := Lib.hid hqa; clear hqa; have Hhqb := Lib.hid hqb; clear hqb
        go_upto_if 79 with fail
        go_cut [80] from 80 to 86 (fun _ wx => HoldR w4 bf vc' vs' (m1) (n1) (qa) (qb) (pc) (pd) wx)
        case first =>
          cases b3 with
          | true =>
            have e1 : qa = pa - r1 := by rw [← Hhqa.out, if_pos (of_decide_eq_true hb3)]
            have e2 : qb = pb - r1 := by rw [← Hhqb.out, if_pos (of_decide_eq_true hb3)]
            clear Hhqa Hhqb
            have Hhb3 := Lib.hid hb3; clear hb3; have He1 := Lib.hid e1; clear e1; have He2 := Lib.hid e2; clear e2
            go_wp2_with fail
            refine (worn_any pa pb r1 (by omega) (by omega) (by omega) _).mono ?_
            rintro x w5 ⟨rfl, hb5⟩
            have hR := HhR.out.step hb5
            clear f0c f0f f0l p0c p0f p0l gqc gql gsc gsl HhR hb5
            have p0c := cells_of hR.pair
            have p0f := frozen_of hR.pair
            have p0l := lt_of_heap hR.pair
            have HhR := Lib.hid hR; clear hR
            go_wp2_with fail
            go_meet
            rw [He1.out, He2.out]
            exact HhR.out.weak' _ _
          | false =>
            have e1 : qa = pa := by rw [← Hhqa.out, if_neg (of_decide_eq_false hb3)]
            have e2 : qb = pb := by rw [← Hhqb.out, if_neg (of_decide_eq_false hb3)]
            clear Hhqa Hhqb
            have Hhb3 := Lib.hid hb3; clear hb3; have He1 := Lib.hid e1; clear e1; have He2 := Lib.hid e2; clear e2
            go_wp2_with fail
            go_meet
            rw [He1.out, He2.out]
            exact HhR.out
        case rest =>
        have hR := hcut
        clear hcut hb3
        clear f0c f0f f0l p0c p0f p0l gqc gql HhR gsc gsl
        have f0c := cells_of hR.fate
        have f0f := frozen_of hR.fate
        have f0l := lt_of_heap hR.fate
        have p0c := cells_of hR.pair
        have p0f := frozen_of hR.pair
        have p0l := lt_of_heap hR.pair
        have gq' := hR.kept.heap Hgq.out (by simp; omega)
        have gqc := cells_of gq'
        have gql := lt_of_heap gq'
        have gs' := hR.kept.heap Hg0.out (by simp; omega)
        have gsc := cells_of gs'
        have gsl := lt_of_heap gs'
        clear gq' gs'
        have HhR := Lib.hid hR; clear hR
        obtain ⟨qc, hqc⟩ : ∃ z : Int, (if toe < u1 then pc - r0 else pc) = z := ⟨_, rfl⟩
        obtain ⟨qd, hqd⟩ : ∃ z : Int, (if toe < u1 then pd - r0 else pd) = z := ⟨_, rfl⟩
        obtain ⟨b4, hb4⟩ : ∃ z, decide (toe < u1) = z := ⟨_, rfl⟩
        have Hhqc := Lib.hid hqc; clear hqc; have Hhqd := Lib.hid hqd; clear hqd
        have hnext : holdAt s l (k + 1) = ⟨(qa, qb), (qc, qd), m1, n1⟩ := by
          simp only [holdAt, holdStep, Hhh.out, Hhgd.out, Hhtoe.out, Hhr0.out, Hhr1.out, wornS]
          rw [← Hhqa.out, ← Hhqb.out, ← Hhqc.out, ← Hhqd.out, ← Hhm1.out, ← Hhn1.out]
          by_cases z1 : toe < u2 <;> by_cases z2 : toe < u1 <;> simp [z1, z2]
        have Hhnext := Lib.hid hnext; clear hnext
        go_upto_if 91 with fail
        cases b4 with
        | true =>
          as_aux_lemma =>
          have e1 : qc = pc - r0 := by rw [← Hhqc.out, if_pos (of_decide_eq_true hb4)]
          have e2 : qd = pd - r0 := by rw [← Hhqd.out, if_pos (of_decide_eq_true hb4)]
          clear Hhqc Hhqd
          have Hhb4 := Lib.hid hb4; clear hb4; have He1 := Lib.hid e1; clear e1; have He2 := Lib.hid e2; clear e2
          go_wp2_with fail
          refine (worn_any pc pd r0 (by omega) (by omega) (by omega) _).mono ?_
          rintro x w5 ⟨rfl, hb5⟩
          have hR := HhR.out.step hb5
          clear f0c f0f f0l p0c p0f p0l gqc gql gsc gsl HhR hb5
          have p0c := cells_of hR.pair
          have p0f := frozen_of hR.pair
          have p0l := lt_of_heap hR.pair
          have hR2 := hR.strong' (pc - r0) (pd - r0)
          rw [← He1.out, ← He2.out] at hR2
          have HhR := Lib.hid hR; clear hR; have HhR2 := Lib.hid hR2; clear hR2
          go_wp2_with fail
          rw [← He1.out, ← He2.out]
          refine ⟨⟨k + 1, vc', vs', by omega, by go_num, hold_next Hhh.out Hhnext.out Hg0.out Hg1.out Hrc.out Hrs.out Hhsep.out Hhbw4.out hbig4 hbig HhR2.out⟩, by simp [intOf]; omega⟩
        | false =>
          as_aux_lemma =>
          have e1 : qc = pc := by rw [← Hhqc.out, if_neg (of_decide_eq_false hb4)]
          have e2 : qd = pd := by rw [← Hhqd.out, if_neg (of_decide_eq_false hb4)]
          clear Hhqc Hhqd
          have hR2 := HhR.out
          rw [← e1, ← e2] at hR2
          have Hhb4 := Lib.hid hb4; clear hb4; have He1 := Lib.hid e1; clear e1; have He2 := Lib.hid e2; clear e2; have HhR2 := Lib.hid hR2; clear hR2
          go_wp2_with fail
          refine ⟨⟨k + 1, vc', vs', by omega, by go_num, hold_next Hhh.out Hhnext.out Hg0.out Hg1.out Hrc.out Hrs.out Hhsep.out Hhbw4.out hbig4 hbig HhR2.out⟩, by simp [intOf]; omega⟩
    · obtain rfl : k = l.length := by omega
      have hfate := hM.fate
      have hpair := hM.pair
      have hF0 := Hhfst.out l.length
      have hcn : crestsL s l (l.length + 1) = crestsL s l l.length ++ [((holdAt s l l.length).weak.1, (holdAt s l l.length).strong.1)] := by unfold crestsL; rw [range_snoc]
      have hsn : strengthsL s l (l.length + 1) = strengthsL s l l.length ++ [((holdAt s l l.length).weak.2, (holdAt s l l.length).strong.2)] := by unfold strengthsL; rw [range_snoc]
      have hh := HhhN.out
      rw [hh] at hfate hpair hcn hsn hF0
      simp only at hfate hpair hcn hsn hF0
      obtain ⟨S, hSd⟩ : ∃ S : List Nat, bf :: (vc.ownBlock.toList ++ vs.ownBlock.toList) = S := ⟨_, rfl⟩
      have hS0 : bf ∈ S := by rw [← hSd]; exact List.mem_cons_self
      have hSc : ∀ g, vc.ownBlock = some g → g ∈ S := fun g hg => by rw [← hSd, hg]; simp
      have hSs : ∀ g, vs.ownBlock = some g → g ∈ S := fun g hg => by rw [← hSd, hg]; simp
      have hSb : ∀ i ∈ S, bf ≤ i := fun i hi => by
        rw [← hSd] at hi
        rcases List.mem_cons.1 hi with rfl | hi
        · exact Nat.le_refl _
        · rcases List.mem_append.1 hi with hi | hi
          · have := hM.rc.lt i (by simpa using hi); omega
          · have := hM.rs.lt i (by simpa using hi); omega
      have hgb := hM.big
      have hnote := note_any (bf + 2) bf (bf + 1) l.length vc vs (crestsL s l l.length) (strengthsL s l l.length) ymay ymust ya yb yc yd S wr hfate hpair hM.rc hM.rs hM.sep (by omega) (by omega) (by omega) hgb (by omega) hS0 hSc hSs
      have hbM := hM.below
      have hoM := hM.out
      clear hM hfate hpair hS0 hSc hSs hSd
      have HhbM := Lib.hid hbM; clear hbM; have HhoM := Lib.hid hoM; clear hoM; have Hhh := Lib.hid hh; clear hh; have Hhcn := Lib.hid hcn; clear hcn; have Hhsn := Lib.hid hsn; clear hsn; have Hhnote := Lib.hid hnote; clear hnote; have HhSb := Lib.hid hSb; clear hSb
      go_wp2_with fail
      refine Calls.mono Hhnote.out ?_
      rintro x w4 ⟨vc', vs', ⟨uu, rfl⟩, f0, p0, rc, rs, hsep, hK4⟩
      obtain ⟨ac, cc, rfl⟩ := row_len rc
      obtain ⟨as5, cs', rfl⟩ := row_len rs
      have g1 := hK4.heap HhoM.out (fun h => by have := HhSb.out _ h; omega)
      have hbw : Below w.heap.size w w4 := HhbM.out.trans ((hK4.below (show bf ≤ wr.heap.size by omega) HhSb.out).mono (by omega))
      have f0c := cells_of f0
      have f0l := lt_of_heap f0
      have g1c := cells_of g1
      have g1f := frozen_of g1
      have g1l := lt_of_heap g1
      rw [← Hhcn.out] at rc
      rw [← Hhsn.out] at rs
      clear Hhnote hK4 hsep p0
      have Hf0 := Lib.hid f0; clear f0; have Hg1 := Lib.hid g1; clear g1; have Hhbw := Lib.hid hbw; clear hbw; have Hrc := Lib.hid rc; clear rc; have Hrs := Lib.hid rs; clear rs
      go_wp2_with fail
      ((try simp only [Exit.inBlock, Exit.then]); refine bodyPost_ret (v := .tuple #[.agg #[.slice ac (l.length + 1) cc, .slice as5 (l.length + 1) cs', .int .i64 ymay, .int .i64 ymust], .int .i64 0]) (by simp [results, Try.results16, go_sem, *]) rfl ?_)
      refine ⟨_, _, rfl, ?_, ?_, ?_⟩
      · refine row_mono (base := bf + 2) ?_ (by omega)
        repeat (first | exact Hrc.out | refine ownsRow_setCell_below ?_ (by first | (show w.heap.size + 1 < bf + 2; omega)) _)
      · refine row_mono (base := bf + 2) ?_ (by omega)
        repeat (first | exact Hrs.out | refine ownsRow_setCell_below ?_ (by first | (show w.heap.size + 1 < bf + 2; omega)) _)
      · repeat (first | exact Hhbw.out | refine bl_setCell ?_ _ _ (by show _ ≤ w.heap.size + 1; omega))
end Go.Proofs.Ytfbmjecikilghaa
namespace Go.Proofs.Ytfbmjecikilghaa
open Go.RowKit

theorem zeroBool (w : World) : (zeroValue 4).run Try.prog w = .ok (.bool false) w := by kernel_rfl
theorem intKey : Go.Maps.Keyed Try.prog 3 := Go.Maps.int_keyed Try.underlying3
set_option maxRecDepth 100000 in
theorem look_none {w : World} {b : Nat} (hb : w.ownsMap Try.prog 3 (plainElem (H := Unit) Try.prog 4) b 0 (.map [])) {x : Int} (hx : (Lit.int .i64 x).wf = true) :
    (Instr.lookup 129 (.map (some b)) (.int .i64 x) false).run Try.prog w = .ok (.bool false) w := by
  obtain ⟨v, ps, hrun, hv⟩ := hb.lookup intKey Try.underlying129 (zeroBool w) (plainElem_bool Try.underlying4 false) (Go.Maps.keyOf_int_mk Try.underlying3 hx)
  have e : v = .bool false := by
    unfold plainElem at hv
    rw [Try.underlying4] at hv
    cases v <;> simp at hv
    rename_i z
    have h1 := hv.1
    simp [DataW.atKey] at h1
    rw [h1]
  rw [hrun, e]

set_option maxHeartbeats 8000000 in
set_option maxRecDepth 100000 in
theorem csec_ok (W H sz : Int) (gr : List (Int × Int)) (ga : Option Addr) (gc : Nat) (B : Nat) (s : SecS) (hs : s.ok) (cell : Int) (bl cl : Nat) (w : World) (hG : GridM B w W H sz gr ga) (hB : B ≤ w.heap.size) (hc0 : 0 ≤ cell) (hc1 : cell < (gr.length : Int)) (xl : w.heap[bl]? = some (.cells (secC cell s) 71 (0, 0))) :
    Calls Try.prog 34 #[.agg #[.int .i64 W, .int .i64 H, .int .i64 sz, .slice ga gr.length gc], .slice (some ⟨bl, 0, none⟩) 1 cl] w fun e w' => e = .returned (.int .i64 0) ∧ Below w.heap.size w w' := by
  have hck := fun V (hV : Below w.heap.size w V) => gcheck_ok W H sz gr ga gc B V ((hG.below (hV.mono hB)).cells) (by have := hV.size; omega) hG.ok hG.w1 hG.w4 hG.h1 hG.h4 hG.s1 hG.s2 hG.len
  have hsec := section_any cell s.crest.1 s.crest.2 s.strength.1 s.strength.2 s.toe s.wear.1 s.wear.2 (by have := hs.c; have := hs.c0; have := hs.c1; simp [vldB]; omega) (by have := hs.s; have := hs.s0; have := hs.s1; simp [vldB]; omega) (by have := hs.t0; have := hs.t1; simp [vldB]; omega) (by have := hs.w; have := hs.w0; have := hs.w1; simp [vldB]; omega)
  have hfew := hG.few
  obtain ⟨n, hn⟩ : ∃ n, gr.length = n := ⟨_, rfl⟩
  rw [hn] at hck hc1 hfew ⊢
  obtain ⟨c0, hc0'⟩ : ∃ x, s.crest.1 = x := ⟨_, rfl⟩
  obtain ⟨c1, hc1'⟩ : ∃ x, s.crest.2 = x := ⟨_, rfl⟩
  obtain ⟨s0, hs0⟩ : ∃ x, s.strength.1 = x := ⟨_, rfl⟩
  obtain ⟨s1, hs1⟩ : ∃ x, s.strength.2 = x := ⟨_, rfl⟩
  obtain ⟨t0, ht0⟩ : ∃ x, s.toe = x := ⟨_, rfl⟩
  obtain ⟨r0, hr0⟩ : ∃ x, s.wear.1 = x := ⟨_, rfl⟩
  obtain ⟨r1, hr1⟩ : ∃ x, s.wear.2 = x := ⟨_, rfl⟩
  have xl' : w.heap[bl]? = some (.cells #[.int .i64 cell, .int .i64 s.crest.1, .int .i64 s.crest.2, .int .i64 s.strength.1, .int .i64 s.strength.2, .int .i64 s.toe, .int .i64 s.wear.1, .int .i64 s.wear.2] 71 (0, 0)) := xl
  rw [hc0', hc1', hs0, hs1, ht0, hr0, hr1] at hsec xl'
  have hlt := lt_of_heap xl'
  clear hG hn hs xl hc0' hc1' hs0 hs1 ht0 hr0 hr1
  have Hhck := Lib.hid hck; clear hck; have Hhsec := Lib.hid hsec; clear hsec; have Hxl' := Lib.hid xl'; clear xl'
  go_enter Try.func34, Try.ntmps34
  go_wp2_with fail
  refine (Hhck.out _ (by repeat (first | exact Below.refl _ _ | (refine bl_setCell ?_ _ _ ?_; rotate_left; focus (first | omega | (simp; done) | (simp; omega))) | refine bl_alloc ?_ _ | refine bl_step ?_ (by assumption) | refine bl_drew ?_ | refine bl_drewN ?_ _))).mono ?_
  rintro x w1 ⟨rfl, hb1⟩
  have y2 : w1.heap[w.heap.size]? = some (.cells #[.int .i64 W, .int .i64 H, .int .i64 sz, .slice ga n gc] 36 (0, 0)) := heap_below hb1 (by repeat (first | (refine heap_alloc_at' _ _ ?_; focus (simp; done)) | refine heap_alloc_off ?_ _))
  have hbw : Below w.heap.size w w1 := (by repeat (first | exact Below.refl _ _ | (refine bl_setCell ?_ _ _ ?_; rotate_left; focus (first | omega | (simp; done) | (simp; omega))) | refine bl_alloc ?_ _ | refine bl_step ?_ (by assumption) | refine bl_drew ?_ | refine bl_drewN ?_ _))
  clear hb1
  have Hy2 := Lib.hid y2; clear y2; have Hhbw := Lib.hid hbw; clear hbw
  have hmm := @run_makeMap Try.prog
  go_wp2_with fail
  obtain ⟨W0, hW0⟩ : ∃ x, w1.alloc (.map #[] 0) = x := ⟨_, rfl⟩
  have hmap : W0.ownsMap Try.prog 3 (plainElem (H := Unit) Try.prog 4) w1.heap.size 0 (.map []) := by rw [← hW0]; exact World.ownsMap_made _ _ _ _
  have z2 : W0.heap[w.heap.size]? = some (.cells #[.int .i64 W, .int .i64 H, .int .i64 sz, .slice ga n gc] 36 (0, 0)) := by rw [← hW0]; exact heap_alloc_off Hy2.out _
  have hbv : Below w.heap.size w W0 := by rw [← hW0]; exact bl_alloc Hhbw.out _
  have hge := Hhbw.out.size
  obtain ⟨bm, hbm⟩ : ∃ b, w1.heap.size = b := ⟨_, rfl⟩
  rw [hW0, hbm]
  rw [hbm] at hmap hge
  clear hW0 hbm Hy2 Hhbw hmm
  have Hhmap := Lib.hid hmap; clear hmap; have Hz2 := Lib.hid z2; clear z2; have Hhbv := Lib.hid hbv; clear hbv
  go_loopw [20] (fun i wr => (i = .int .i64 0 ∧ wr = W0) ∨ (i = .int .i64 1 ∧ Below w.heap.size w wr)) (fun i _ => 1 - (intOf i).toNat)
  case atStart => exact .inl ⟨rfl, rfl⟩
  case round =>
    rcases hrel with ⟨rfl, rfl⟩ | ⟨rfl, hb⟩
    · have z2c := cells_of Hz2.out
      have z2l := lt_of_heap Hz2.out
      have xl := heap_below Hhbv.out Hxl'.out
      have xlc := cells_of xl
      have xll := lt_of_heap xl
      have hwf : (Lit.int .i64 cell).wf = true := WalkArith.wf_i64 (by omega)
      have hlk := look_none (Hhmap.out.alloc (.cells #[.int .i64 cell, .int .i64 c0, .int .i64 c1, .int .i64 s0, .int .i64 s1, .int .i64 t0, .int .i64 r0, .int .i64 r1] 71)) hwf
      have Hxl := Lib.hid xl; clear xl; have Hhwf := Lib.hid hwf; clear hwf
      go_wp2_with fail
      refine (Hhsec.out _).mono ?_
      rintro x w5 ⟨rfl, hb5⟩
      have q8 := heap_below hb5 (heap_alloc_at wr (.cells #[.int .i64 cell, .int .i64 c0, .int .i64 c1, .int .i64 s0, .int .i64 s1, .int .i64 t0, .int .i64 r0, .int .i64 r1] 71))
      have hm5 := (Hhmap.out.alloc (.cells #[.int .i64 cell, .int .i64 c0, .int .i64 c1, .int .i64 s0, .int .i64 s1, .int .i64 t0, .int .i64 r0, .int .i64 r1] 71)).kept (below_grown hb5) (by simp)
      have hb6 := bl_step (bl_alloc Hhbv.out (.cells #[.int .i64 cell, .int .i64 c0, .int .i64 c1, .int .i64 s0, .int .i64 s1, .int .i64 t0, .int .i64 r0, .int .i64 r1] 71)) hb5
      have q8c := cells_of q8
      have q8l := lt_of_heap q8
      clear hb5 hlk z2c z2l xlc xll
      have Hq8 := Lib.hid q8; clear q8; have Hhb6 := Lib.hid hb6; clear hb6
      go_wp2_with (at_mapUpdate; refine wpList_mapUpdate_own _ rfl _ _ _ 129 rfl 3 4 intKey Try.underlying129 _ bm 0 _ rfl hm5 (by unfold maxLen; omega) _ _ _ rfl rfl (Go.Maps.keyOf_int_mk Try.underlying3 Hhwf.out) _ [] (plainElem_bool Try.underlying4 true) ?_; intro w6 hown6 hgrow6; have hb7 : Below w.heap.size w w6 := Hhb6.out.grown hgrow6 Hhb6.out.size (fun j hj => by cases hj; exact hge); clear hown6 hgrow6; have Hhb7 := Lib.hid hb7; clear hb7)
      exact ⟨.inr ⟨by go_num, Hhb7.out⟩, by simp [intOf]⟩
    · go_wp2_with fail
      go_ret
      exact ⟨rfl, hb⟩
end Go.Proofs.Ytfbmjecikilghaa
namespace Go.Proofs.Ytfbmjecikilghaa
open Go.RowKit

theorem news_spans {B : Nat} {w : World} {g : Nat} {gr : List (Int × Int)} (hS : Sl SpanE 2 B w (some ⟨g, 0, none⟩) gr) : ∀ (j : Nat) (u : Value), (wcells gr)[j]? = some u → w.cell? ((⟨g, 0, none⟩ : Addr).add j) = some u := by
  intro j u hj
  have had : ∀ j, (⟨g, 0, none⟩ : Addr).add j = ⟨g, j, none⟩ := fun j => by
    by_cases h : j = 0
    · subst h; rfl
    · simp [Addr.add, h]
  have hjl : j < gr.length * 2 := by rw [← wcells_length]; exact (List.getElem?_eq_some_iff.1 hj).1
  obtain ⟨k, hk⟩ : ∃ k, j / 2 = k := ⟨_, rfl⟩
  have hkl : k < gr.length := by omega
  obtain ⟨b, off, ha, _, e0, e1⟩ := hS.2 k hkl
  simp only [Option.some.injEq, Addr.mk.injEq, and_true] at ha
  obtain ⟨rfl, rfl⟩ := ha
  obtain ⟨g0, g1⟩ := wcells_get gr k hkl
  rcases (show j = k * 2 ∨ j = k * 2 + 1 by omega) with rfl | rfl
  · rw [g0] at hj
    rw [← hj, ← e0, had, Nat.zero_add]
  · rw [g1] at hj
    rw [← hj, ← e1, had, Nat.zero_add]

set_option maxHeartbeats 4000000 in
set_option maxRecDepth 100000 in
theorem clone_ok (g n cap B : Nat) (gr : List (Int × Int)) (w : World) (hS : Sl SpanE 2 B w (some ⟨g, 0, none⟩) gr) (hB : B ≤ w.heap.size) (hn : gr.length = n) (hn1 : 1 ≤ n) (hn2 : n ≤ 1000) :
    Calls Try.prog 36 #[.slice (some ⟨g, 0, none⟩) n cap] w fun e w' => ∃ v, e = .returned v ∧ w'.ownsRow w.heap.size 46 2 v n (wcells gr) ∧ Below w.heap.size w w' := by
  have hB0 : Below w.heap.size w (w.alloc (.cells #[] 46)) := bl_alloc (Below.refl _ _) _
  have hnews := news_spans (hS.below (ek_span B) (hB0.mono hB))
  have hlit : (w.alloc (.cells #[] 46)).ownsRow w.heap.size 46 2 (.slice (some ⟨w.heap.size, 0, none⟩) 0 0) 0 [] := World.ownsRow_lit (e := 46) (size := 2) w #[] 0 (Nat.le_refl _) (by unfold maxLen; omega) rfl
  have hwl : (wcells gr).length = n * 2 := by rw [wcells_length, hn]
  have hone : ∀ u ∈ wcells gr, u.oneCell' = true := by
    intro u hu
    unfold wcells at hu
    obtain ⟨p, _, hp⟩ := List.mem_flatMap.1 hu
    simp at hp
    rcases hp with rfl | rfl <;> rfl
  obtain ⟨i0, hinf, hz0, hz1, hz2⟩ := info_parts info36
  have hmax : 0 + n ≤ maxLen := by unfold maxLen; omega
  have qT : ∀ (w : World) (a : Option Addr) (n c n' c' : Nat), (binOp .eql 34 (.slice a n c) (.slice none n' c')).run Try.prog w = .ok (.bool a.isNone) w := fun w a n c n' c' => Lib.run_eql_slice_nil w _ _ a n c n' c' Try.underlying34
  clear hS hn
  go_enter Try.func36, Try.ntmps36
  have HhB0 := Lib.hid hB0; clear hB0
  go_wp2_with (at_builtin; refine wpList_append_own _ rfl _ _ 34 rfl w.heap.size 46 i0 (.agg #[.int .i64 0, .int .i64 0]) 2 16 Try.underlying34 hinf hz0 hz1 hz2 rfl (by decide) _ _ _ rfl hlit ⟨g, 0, none⟩ n cap (wcells gr) rfl hwl hnews hone hmax (by omega) (by simp) ?_; intro v' w7 hown' hgrow _; obtain ⟨a', c', rfl⟩ := row_len hown'; replace hgrow : (w.alloc (.cells #[] 46)).grownBy w7 (some w.heap.size) := hgrow; have hb8 : Below w.heap.size w w7 := HhB0.out.grown hgrow (by simp) (fun k hk => by cases hk; exact Nat.le_refl _); clear hlit hnews; have Hhb8 := Lib.hid hb8; clear hb8; have Hown := Lib.hid hown'; clear hown' hgrow)
  go_ret
  refine ⟨_, rfl, ?_, Hhb8.out⟩
  have := Hown.out
  simpa using this
end Go.Proofs.Ytfbmjecikilghaa
namespace Go.Proofs.Ytfbmjecikilghaa
open Go.RowKit

abbrev fateC (ac : Option Addr) (nc cc : Nat) (as5 : Option Addr) (ns cs5 : Nat) (may must : Int) : Array Value := #[.slice ac nc cc, .slice as5 ns cs5, .int .i64 may, .int .i64 must]

def RaiM (w : World) (W H sz : Int) (g' n cap' : Nat) (gr : List Sp) (wr : World) : Prop :=
  wr.heap[w.heap.size]? = some (.cells #[.int .i64 W, .int .i64 H, .int .i64 sz, .slice (some ⟨g', 0, none⟩) n cap'] 36 (0, 0)) ∧ wr.heap[w.heap.size + 1]? = some (.cells gridZ 36 (0, 0)) ∧
    wr.ownsRow (w.heap.size + 2) 46 2 (.slice (some ⟨g', 0, none⟩) n cap') n (wcells gr) ∧ Below w.heap.size w wr


/-- The row's one span, and what else is kept. -/
structure RaiR (w6 : World) (base g' n cap' cell : Nat) (gr : List Sp) (a b : Int) (wx : World) : Prop where
  row : wx.ownsRow base 46 2 (.slice (some ⟨g', 0, none⟩) n cap') n (wcells (gr.set cell (a, b)))
  kept : Keeps [g'] w6 wx
theorem RaiR.drew {w6 wx : World} {base g' n cap' cell : Nat} {gr : List Sp} {a b : Int} (h : RaiR w6 base g' n cap' cell gr a b wx) : RaiR w6 base g' n cap' cell gr a b wx.drew := ⟨h.row.drew, h.kept.drew⟩
theorem set_get {gr : List Sp} {cell : Nat} (h : cell < gr.length) (a b : Int) : (gr.set cell (a, b))[cell]? = some (a, b) := by simp [h]
theorem RaiR.cells {w6 wx : World} {base g' n cap' cell : Nat} {gr : List Sp} {a b : Int} (h : RaiR w6 base g' n cap' cell gr a b wx) (hn : gr.length = n) (hc : cell < n) :
    wx.cell? ⟨g', cell * 2, none⟩ = some (.int .i64 a) ∧ wx.cell? ⟨g', cell * 2 + 1, none⟩ = some (.int .i64 b) ∧ (∀ o, wx.frozen? ⟨g', o, none⟩ = false) ∧ g' < wx.heap.size := by
  have hc' : cell < (gr.set cell (a, b)).length := by rw [List.length_set, hn]; exact hc
  obtain ⟨e0, e1⟩ := wcells_get (gr.set cell (a, b)) cell hc'
  have e : (gr.set cell (a, b))[cell] = (a, b) := by simp
  rw [e] at e0 e1
  exact ⟨(h.row.cellAt _ (by omega)).trans e0, (h.row.cellAt _ (by omega)).trans e1, h.row.frozenAt, (h.row.lt g' rfl).2⟩
theorem RaiR.lo {w6 wx : World} {base g' n cap' cell : Nat} {gr : List Sp} {a b : Int} (h : RaiR w6 base g' n cap' cell gr a b wx) (hn : gr.length = n) (hc : cell < n) (x : Int) : RaiR w6 base g' n cap' cell gr x b (wx.setCell ⟨g', cell * 2, none⟩ (.int .i64 x)) := by
  refine ⟨?_, h.kept.setCell _ _ (.inl (by simp))⟩
  have hc' : cell < (gr.set cell (a, b)).length := by rw [List.length_set, hn]; exact hc
  have h1 := h.row.stored (cell * 2) (.int .i64 x)
  have e2 := wcells_set (gr.set cell (a, b)) cell x b hc'
  have e3 := (wcells_get (gr.set cell (a, b)) cell hc').2
  have e4 : (gr.set cell (a, b))[cell] = (a, b) := by simp
  rw [e4] at e3
  have e5 : ((wcells (gr.set cell (a, b))).set (cell * 2) (.int .i64 x)).set (cell * 2 + 1) (.int .i64 b) = (wcells (gr.set cell (a, b))).set (cell * 2) (.int .i64 x) := by
    apply List.ext_getElem?
    intro i
    rw [List.getElem?_set]
    split
    · rename_i hi
      subst hi
      split
      · rw [List.getElem?_set, if_neg (by omega), e3]
      · rename_i hl
        rw [List.getElem?_eq_none (by omega)]
    · rfl
  rw [e5, List.set_set] at e2
  rw [← e2]
  exact h1.1
theorem RaiR.hi {w6 wx : World} {base g' n cap' cell : Nat} {gr : List Sp} {a b : Int} (h : RaiR w6 base g' n cap' cell gr a b wx) (hn : gr.length = n) (hc : cell < n) (x : Int) : RaiR w6 base g' n cap' cell gr a x (wx.setCell ⟨g', cell * 2 + 1, none⟩ (.int .i64 x)) := by
  refine ⟨?_, h.kept.setCell _ _ (.inl (by simp))⟩
  have hc' : cell < (gr.set cell (a, b)).length := by rw [List.length_set, hn]; exact hc
  have h1 := h.row.stored (cell * 2 + 1) (.int .i64 x)
  have e2 := wcells_set (gr.set cell (a, b)) cell a x hc'
  have e3 := (wcells_get (gr.set cell (a, b)) cell hc').1
  have e4 : (gr.set cell (a, b))[cell] = (a, b) := by simp
  rw [e4] at e3
  have e5 : (wcells (gr.set cell (a, b))).set (cell * 2) (.int .i64 a) = wcells (gr.set cell (a, b)) := by
    apply List.ext_getElem?
    intro i
    rw [List.getElem?_set]
    split
    · rename_i hi
      subst hi
      split
      · rw [e3]
      · rename_i hl
        rw [List.getElem?_eq_none (by omega)]
    · rfl
  rw [e5, List.set_set] at e2
  rw [← e2]
  exact h1.1

theorem rai_end {w w7 wx : World} {W H sz : Int} {g' n cap' cell : Nat} {gr : List Sp} {a b : Int} {R : Sp} (o4 : w7.heap[w.heap.size]? = some (.cells #[.int .i64 W, .int .i64 H, .int .i64 sz, .slice (some ⟨g', 0, none⟩) n cap'] 36 (0, 0))) (o8 : w7.heap[w.heap.size + 1]? = some (.cells gridZ 36 (0, 0)))
    (ob : Below w.heap.size w w7) (h : RaiR w7 (w.heap.size + 2) g' n cap' cell gr a b wx) (hR : R = (a, b)) (osz : w.heap.size + 2 ≤ g') : RaiM w W H sz g' n cap' (gr.set cell R) wx := by
  subst hR
  exact ⟨h.kept.heap o4 (by simp; omega), h.kept.heap o8 (by simp; omega), h.row, ob.trans (h.kept.below ob.size (by simp; omega))⟩

set_option maxHeartbeats 16000000 in
set_option maxRecDepth 100000 in
theorem raised_ok (B : Nat) (w : World) (W H sz : Int) (g n cap : Nat) (gr : List (Int × Int)) (hG : GridM B w W H sz gr (some ⟨g, 0, none⟩)) (hn : gr.length = n) (s : SecS) (hs : s.ok) (cell : Nat) (hc : cell < n) (bl cl bf cf nc cc : Nat) (ac as5 : Option Addr) (ns cs5 : Nat) (may must : Int) (cr : List Sp) (k : Nat)
    (xl : w.heap[bl]? = some (.cells (secC cell s) 71 (0, 0))) (xf : w.heap[bf]? = some (.cells (fateC ac nc cc as5 ns cs5 may must) 73 (0, 0))) (hcr : Sl SpanE 2 B w ac cr) (hnc : cr.length = nc) (hk : k < nc) (_ : nc ≤ 1000) (hB : B ≤ w.heap.size)
    (c0 c1 x0 x1 : Int) (hcc : cr[k]? = some (c0, c1)) (hxx : gr[cell]? = some (x0, x1)) (hv0 : -1200000 ≤ c0) (hv1 : c0 ≤ c1) (hv2 : c1 ≤ 1200000) :
    Calls Try.prog 17 #[.agg #[.int .i64 W, .int .i64 H, .int .i64 sz, .slice (some ⟨g, 0, none⟩) n cap], .slice (some ⟨bl, 0, none⟩) 1 cl, .slice (some ⟨bf, 0, none⟩) 1 cf, .int .i64 k] w fun e w' =>
      ∃ g' cap', e = .returned (.tuple #[.agg #[.int .i64 W, .int .i64 H, .int .i64 sz, .slice (some ⟨g', 0, none⟩) n cap'], .int .i64 0]) ∧
        w'.ownsRow w.heap.size 46 2 (.slice (some ⟨g', 0, none⟩) n cap') n (wcells (gr.set cell (raiseS k may must (c0, c1) (x0, x1)))) ∧ Below w.heap.size w w' := by
  have hfew := hG.few
  rw [hn] at hfew
  have hck := fun V (hV : Below w.heap.size w V) => csec_ok W H sz gr (some ⟨g, 0, none⟩) cap B s hs cell bl cl V (hG.below (hV.mono hB)) (by have := hV.size; omega) (by omega) (by rw [hn]; omega) (heap_below hV xl)
  have hcl := fun V (hV : Below w.heap.size w V) => clone_ok g n cap B gr V ((hG.cells).below (ek_span B) (hV.mono hB)) (by have := hV.size; omega) hn (by omega) (by omega)
  rw [hn] at hck
  have hva := dvalid_any c0 c1 (-1200000) 1200000
  rw [show vldB c0 c1 (-1200000) 1200000 = true from by simp [vldB]; omega] at hva
  have hxf : w.heap[bf]? = some (.cells #[.slice ac nc cc, .slice as5 ns cs5, .int .i64 may, .int .i64 must] 73 (0, 0)) := xf
  have hxl : w.heap[bl]? = some (.cells #[.int .i64 cell, .int .i64 s.crest.1, .int .i64 s.crest.2, .int .i64 s.strength.1, .int .i64 s.strength.2, .int .i64 s.toe, .int .i64 s.wear.1, .int .i64 s.wear.2] 71 (0, 0)) := xl
  obtain ⟨q0, e0⟩ : ∃ x, s.crest.1 = x := ⟨_, rfl⟩
  obtain ⟨q1, e1⟩ : ∃ x, s.crest.2 = x := ⟨_, rfl⟩
  obtain ⟨q2, e2⟩ : ∃ x, s.strength.1 = x := ⟨_, rfl⟩
  obtain ⟨q3, e3⟩ : ∃ x, s.strength.2 = x := ⟨_, rfl⟩
  obtain ⟨q4, e4⟩ : ∃ x, s.toe = x := ⟨_, rfl⟩
  obtain ⟨q5, e5⟩ : ∃ x, s.wear.1 = x := ⟨_, rfl⟩
  obtain ⟨q6, e6⟩ : ∃ x, s.wear.2 = x := ⟨_, rfl⟩
  rw [e0, e1, e2, e3, e4, e5, e6] at hxl
  clear e0 e1 e2 e3 e4 e5 e6 xl xf hG hs
  have hkl : k < cr.length := by omega
  obtain ⟨ba, oa, rfl, hba, f0, f1⟩ := hcr.2 k hkl
  have hce : cr[k] = (c0, c1) := by rw [List.getElem?_eq_getElem hkl] at hcc; simpa using hcc
  rw [hce] at f0 f1
  simp only at f0 f1
  obtain ⟨kI, hkI⟩ : ∃ x : Int, (k : Int) = x := ⟨_, rfl⟩
  have kI0 : 0 ≤ kI := by omega
  have kI1 : kI < nc := by omega
  obtain ⟨cI, hcI⟩ : ∃ x : Int, (cell : Int) = x := ⟨_, rfl⟩
  have cI0 : 0 ≤ cI := by omega
  have cI1 : cI < n := by omega
  have hkn2 : kI.toNat = k := by omega
  have hcn2 : cI.toNat = cell := by omega
  rw [hcI] at hxl
  rw [hkI]
  obtain ⟨R, hR⟩ : ∃ R, raiseS kI may must (c0, c1) (x0, x1) = R := ⟨_, rfl⟩
  rw [hR]
  rw [show (k : Nat) = kI.toNat from hkn2.symm] at f0 f1
  have hbal : ba < w.heap.size := by omega
  have hwl : (wcells gr).length = n * 2 := by rw [wcells_length, hn]
  clear hcr hcc hce hkl
  have Hhck := Lib.hid hck; clear hck; have Hhcl := Lib.hid hcl; clear hcl; have Hhva := Lib.hid hva; clear hva; have Hhxf := Lib.hid hxf; clear hxf; have Hhxl := Lib.hid hxl; clear hxl; have Hhxx := Lib.hid hxx; clear hxx; have HhR := Lib.hid hR; clear hR; have HhkI := Lib.hid hkI; clear hkI; have HhcI := Lib.hid hcI; clear hcI; have Hhkn2 := Lib.hid hkn2; clear hkn2; have Hhcn2 := Lib.hid hcn2; clear hcn2; have Hhn := Lib.hid hn; clear hn; have Hf0 := Lib.hid f0; clear f0; have Hf1 := Lib.hid f1; clear f1
  go_enter Try.func17, Try.ntmps17
  go_wp2_with fail
  refine (Hhck.out _ (by repeat (first | exact Below.refl _ _ | (refine bl_setCell ?_ _ _ ?_; rotate_left; focus (first | omega | (simp; done) | (simp; omega))) | refine bl_alloc ?_ _ | refine bl_step ?_ (by assumption) | refine bl_drew ?_ | refine bl_drewN ?_ _))).mono ?_
  rintro x w1 ⟨rfl, hb1⟩
  have y4 : w1.heap[w.heap.size]? = some (.cells #[.int .i64 W, .int .i64 H, .int .i64 sz, .slice (some ⟨g, 0, none⟩) n cap] 36 (0, 0)) := heap_below hb1 (by repeat (first | (refine heap_alloc_at' _ _ ?_; focus (simp; done)) | refine heap_alloc_off ?_ _))
  have y8 : w1.heap[w.heap.size + 1]? = some (.cells gridZ 36 (0, 0)) := heap_below hb1 (by repeat (first | (refine heap_alloc_at' _ _ ?_; focus (simp; done)) | refine heap_alloc_off ?_ _))
  have hbw : Below w.heap.size w w1 := (by repeat (first | exact Below.refl _ _ | (refine bl_setCell ?_ _ _ ?_; rotate_left; focus (first | omega | (simp; done) | (simp; omega))) | refine bl_alloc ?_ _ | refine bl_step ?_ (by assumption) | refine bl_drew ?_ | refine bl_drewN ?_ _))
  clear hb1
  have Hy4 := Lib.hid y4; clear y4; have Hy8 := Lib.hid y8; clear y8; have Hhbw := Lib.hid hbw; clear hbw
  go_wp2_with fail
  go_loopw [39] (fun i wr => LoopB 1 w1 i wr) (fun i _ => 1 - (intOf i).toNat)
  case atStart => exact ⟨0, Nat.zero_le _, rfl, Below.refl _ _⟩
  case round =>
    obtain ⟨j, hj, rfl, hb⟩ := hrel
    by_cases hlt : j < 1
    · obtain rfl : j = 0 := by omega
      have hbx := bl_step Hhbw.out hb
      have z := heap_below hbx Hhxf.out
      have zc := cells_of z
      have zl := lt_of_heap z
      have g0 := (hbx.cell (p := ⟨ba, oa + kI.toNat * 2, none⟩) hbal).trans Hf0.out
      have g1 := (hbx.cell (p := ⟨ba, oa + kI.toNat * 2 + 1, none⟩) hbal).trans Hf1.out
      have hbl2 : ba < wr.heap.size := World.block_lt_of_cell? wr _ g0
      have Hhbx := Lib.hid hbx; clear hbx; have Hhb := Lib.hid hb; clear hb; have Hz := Lib.hid z; clear z
      go_wp2_with fail
      refine (Hhva.out _).mono ?_
      rintro x w2 ⟨rfl, hb2⟩
      have hb3 : Below w1.heap.size w1 w2 := bl_step (bl_alloc Hhb.out _) hb2
      have Hhb3 := Lib.hid hb3; clear hb3
      go_wp2_with fail
      exact ⟨⟨1, by omega, by go_num, Hhb3.out⟩, by simp [intOf]⟩
    · obtain rfl : j = 1 := by omega
      have y4' := heap_below hb Hy4.out
      have y8' := heap_below hb Hy8.out
      have hbx := bl_step Hhbw.out hb
      have yc := cells_of y4'
      have yl := lt_of_heap y4'
      have yf := frozen_of y4'
      have Hy4' := Lib.hid y4'; clear y4'; have Hy8' := Lib.hid y8'; clear y8'; have Hhbx := Lib.hid hbx; clear hbx
      go_wp2_with fail
      refine Calls.mono (Hhcl.out _ Hhbx.out) ?_
      rintro x w2 ⟨vg, rfl, hrow, hb2⟩
      obtain ⟨g', cap', rfl, hgb, hgl⟩ := row_form' hrow (by omega)
      have z4 := heap_below hb2 Hy4'.out
      have z8 := heap_below hb2 Hy8'.out
      have hbv := bl_step Hhbx.out hb2
      have hsz2 : w.heap.size + 2 ≤ wr.heap.size := by have := lt_of_heap Hy8'.out; omega
      have z4c := cells_of z4
      have z4f := frozen_of z4
      have z4l := lt_of_heap z4
      have hM : RaiM w W H sz g' n cap' gr (w2.setCell ⟨w.heap.size, 3, none⟩ (.slice (some ⟨g', 0, none⟩) n cap')) := ⟨(heap_setCell_at z4 _).trans rfl, heap_setCell_off z8 _ (by omega), ownsRow_setCell_below (row_mono hrow hsz2) (by show w.heap.size < _; omega) _, bl_setCell hbv _ _ (Nat.le_refl _)⟩
      clear yc yl yf Hy4' Hy8' Hhbx hb2 hrow z8 hbv hb
      have Hz4 := Lib.hid z4; clear z4; have HhM := Lib.hid hM; clear hM
      go_wp2_with fail
      obtain ⟨W0, hW0⟩ : ∃ x, (w2.setCell ⟨w.heap.size, 3, none⟩ (.slice (some ⟨g', 0, none⟩) n cap')) = x := ⟨_, rfl⟩
      rw [hW0] at HhM ⊢
      clear hW0 z4c z4f z4l Hz4
      go_loopw [66] (fun i wr => (i = .int .i64 0 ∧ wr = W0) ∨ (i = .int .i64 1 ∧ RaiM w W H sz g' n cap' (gr.set cell R) wr)) (fun i _ => 1 - (intOf i).toNat)
      case atStart => exact .inl ⟨rfl, rfl⟩
      case round =>
        rcases hrel with ⟨rfl, rfl⟩ | ⟨rfl, hm⟩
        · have m4 := HhM.out.1
          have hbx := HhM.out.2.2.2
          have zl := heap_below hbx Hhxl.out
          have zlc := cells_of zl
          have zll := lt_of_heap zl
          have Hm4 := Lib.hid m4; clear m4; have Hhbx := Lib.hid hbx; clear hbx; have Hzl := Lib.hid zl; clear zl
          go_upto_region 20 with fail
          obtain ⟨q, hq⟩ : ∃ q, wr.heap.size = q := ⟨_, rfl⟩
          have n4 := heap_alloc_off Hm4.out (.cells #[.int .i64 cI, .int .i64 q0, .int .i64 q1, .int .i64 q2, .int .i64 q3, .int .i64 q4, .int .i64 q5, .int .i64 q6] 71)
          have n8 := heap_alloc_off HhM.out.2.1 (.cells #[.int .i64 cI, .int .i64 q0, .int .i64 q1, .int .i64 q2, .int .i64 q3, .int .i64 q4, .int .i64 q5, .int .i64 q6] 71)
          have nrow := HhM.out.2.2.1.alloc (.cells #[.int .i64 cI, .int .i64 q0, .int .i64 q1, .int .i64 q2, .int .i64 q3, .int .i64 q4, .int .i64 q5, .int .i64 q6] 71)
          have nb := bl_alloc Hhbx.out (.cells #[.int .i64 cI, .int .i64 q0, .int .i64 q1, .int .i64 q2, .int .i64 q3, .int .i64 q4, .int .i64 q5, .int .i64 q6] 71)
          have nq := heap_alloc_at wr (.cells #[.int .i64 cI, .int .i64 q0, .int .i64 q1, .int .i64 q2, .int .i64 q3, .int .i64 q4, .int .i64 q5, .int .i64 q6] 71)
          rw [hq] at nq ⊢
          generalize wr.alloc (.cells #[.int .i64 cI, .int .i64 q0, .int .i64 q1, .int .i64 q2, .int .i64 q3, .int .i64 q4, .int .i64 q5, .int .i64 q6] 71) = w5 at n4 n8 nrow nb nq ⊢
          clear hq HhM Hm4 Hhbx zlc zll Hzl
          have nf := heap_below nb Hhxf.out
          have g0 := (nb.cell (p := ⟨ba, oa + kI.toNat * 2, none⟩) hbal).trans Hf0.out
          have g1 := (nb.cell (p := ⟨ba, oa + kI.toNat * 2 + 1, none⟩) hbal).trans Hf1.out
          have gl : ba < w5.heap.size := World.block_lt_of_cell? w5 _ g0
          have n4c := cells_of n4
          have n4l := lt_of_heap n4
          have nqc := cells_of nq
          have nql := lt_of_heap nq
          have nfc := cells_of nf
          have nfl := lt_of_heap nf
          have Hn4 := Lib.hid n4; clear n4; have Hn8 := Lib.hid n8; clear n8; have Hnrow := Lib.hid nrow; clear nrow; have Hnb := Lib.hid nb; clear nb; have Hnq := Lib.hid nq; clear nq; have Hnf := Lib.hid nf; clear nf
          go_cut [15, 16] from 71 to 83 (fun a b wx => a = .pointer (some ⟨g', cI.toNat * 2, none⟩) ∧ ∃ q2, b = .pointer (some ⟨q2, 0, none⟩) ∧ w5.heap.size ≤ q2 ∧ wx.heap[q2]? = some (.cells #[.int .i64 c0, .int .i64 c1] 46 (0, 0)) ∧ Below w5.heap.size w5 wx)
          case first =>
            have hI : Below w5.heap.size w5 w5.drew := (Below.refl _ _).drew
            refine wp_region_ord (fun W => Below w5.heap.size w5 W) [([0, 1, 2, 3, 4, 5, 6, 7, 8, 9, 10, 11, 12], 13)] [14] (some 15) (by kernel_rfl) (by kernel_rfl) hI ?_
            refine OrdI_cons ?_
            (apply StI_plain (w0 := w5.drew) hI rfl rfl rfl rfl; (focus (intro W hW K hK; obtain ⟨_, _⟩ := bk w.heap.size hW n4l; obtain ⟨_, _⟩ := bk q hW nql; obtain ⟨_, _⟩ := bk bf hW nfl; obtain ⟨_, _⟩ := bk ba hW gl; go_step; exact hK)); (focus rfl)); (apply StI_plain (w0 := w5.drew) hI rfl rfl rfl rfl; (focus (intro W hW K hK; obtain ⟨_, _⟩ := bk w.heap.size hW n4l; obtain ⟨_, _⟩ := bk q hW nql; obtain ⟨_, _⟩ := bk bf hW nfl; obtain ⟨_, _⟩ := bk ba hW gl; go_step; exact hK)); (focus rfl)); (apply StI_plain (w0 := w5.drew) hI rfl rfl rfl rfl; (focus (intro W hW K hK; obtain ⟨_, _⟩ := bk w.heap.size hW n4l; obtain ⟨_, _⟩ := bk q hW nql; obtain ⟨_, _⟩ := bk bf hW nfl; obtain ⟨_, _⟩ := bk ba hW gl; go_step; exact hK)); (focus rfl)); (apply StI_plain (w0 := w5.drew) hI rfl rfl rfl rfl; (focus (intro W hW K hK; obtain ⟨_, _⟩ := bk w.heap.size hW n4l; obtain ⟨_, _⟩ := bk q hW nql; obtain ⟨_, _⟩ := bk bf hW nfl; obtain ⟨_, _⟩ := bk ba hW gl; go_step; exact hK)); (focus rfl)); (apply StI_plain (w0 := w5.drew) hI rfl rfl rfl rfl; (focus (intro W hW K hK; obtain ⟨_, _⟩ := bk w.heap.size hW n4l; obtain ⟨_, _⟩ := bk q hW nql; obtain ⟨_, _⟩ := bk bf hW nfl; obtain ⟨_, _⟩ := bk ba hW gl; go_step; exact hK)); (focus rfl)); (apply StI_plain (w0 := w5.drew) hI rfl rfl rfl rfl; (focus (intro W hW K hK; obtain ⟨_, _⟩ := bk w.heap.size hW n4l; obtain ⟨_, _⟩ := bk q hW nql; obtain ⟨_, _⟩ := bk bf hW nfl; obtain ⟨_, _⟩ := bk ba hW gl; go_step; exact hK)); (focus rfl)); (apply StI_plain (w0 := w5.drew) hI rfl rfl rfl rfl; (focus (intro W hW K hK; obtain ⟨_, _⟩ := bk w.heap.size hW n4l; obtain ⟨_, _⟩ := bk q hW nql; obtain ⟨_, _⟩ := bk bf hW nfl; obtain ⟨_, _⟩ := bk ba hW gl; go_step; exact hK)); (focus rfl)); (apply StI_plain (w0 := w5.drew) hI rfl rfl rfl rfl; (focus (intro W hW K hK; obtain ⟨_, _⟩ := bk w.heap.size hW n4l; obtain ⟨_, _⟩ := bk q hW nql; obtain ⟨_, _⟩ := bk bf hW nfl; obtain ⟨_, _⟩ := bk ba hW gl; go_step; exact hK)); (focus rfl)); (apply StI_plain (w0 := w5.drew) hI rfl rfl rfl rfl; (focus (intro W hW K hK; obtain ⟨_, _⟩ := bk w.heap.size hW n4l; obtain ⟨_, _⟩ := bk q hW nql; obtain ⟨_, _⟩ := bk bf hW nfl; obtain ⟨_, _⟩ := bk ba hW gl; go_step; exact hK)); (focus rfl)); (apply StI_plain (w0 := w5.drew) hI rfl rfl rfl rfl; (focus (intro W hW K hK; obtain ⟨_, _⟩ := bk w.heap.size hW n4l; obtain ⟨_, _⟩ := bk q hW nql; obtain ⟨_, _⟩ := bk bf hW nfl; obtain ⟨_, _⟩ := bk ba hW gl; go_step; exact hK)); (focus rfl)); (apply StI_plain (w0 := w5.drew) hI rfl rfl rfl rfl; (focus (intro W hW K hK; obtain ⟨_, _⟩ := bk w.heap.size hW n4l; obtain ⟨_, _⟩ := bk q hW nql; obtain ⟨_, _⟩ := bk bf hW nfl; obtain ⟨_, _⟩ := bk ba hW gl; go_step; exact hK)); (focus rfl)); (apply StI_plain (w0 := w5.drew) hI rfl rfl rfl rfl; (focus (intro W hW K hK; obtain ⟨_, _⟩ := bk w.heap.size hW n4l; obtain ⟨_, _⟩ := bk q hW nql; obtain ⟨_, _⟩ := bk bf hW nfl; obtain ⟨_, _⟩ := bk ba hW gl; go_step; exact hK)); (focus rfl)); (apply StI_plain (w0 := w5.drew) hI rfl rfl rfl rfl; (focus (intro W hW K hK; obtain ⟨_, _⟩ := bk w.heap.size hW n4l; obtain ⟨_, _⟩ := bk q hW nql; obtain ⟨_, _⟩ := bk bf hW nfl; obtain ⟨_, _⟩ := bk ba hW gl; go_step; exact hK)); (focus rfl))
            (apply StI_eff rfl; go_wp2_with (first | fail))
            have hI2 : Below w5.heap.size w5 (w5.alloc (.cells #[.int .i64 0, .int .i64 0] 46)).drew := ((Below.refl _ _).alloc (Nat.le_refl _) _).drew
            have xq := heap_drew' (heap_alloc_at w5 (.cells #[.int .i64 0, .int .i64 0] 46))
            generalize (w5.alloc (.cells #[.int .i64 0, .int .i64 0] 46)).drew = w6 at hI2 xq ⊢
            refine onNormal_mk hI2 (OrdI_snk ?_)
            (apply StI_plain (w0 := w6) hI2 rfl rfl rfl rfl; (focus (intro W hW K hK; skip; go_step; exact hK)); (focus rfl))
            have xqc := cells_of xq
            have xqf := frozen_of xq
            have xql := lt_of_heap xq
            clear hI
            have Hxq := Lib.hid xq; clear xq; have HhI2 := Lib.hid hI2; clear hI2
            (apply StI_eff rfl; go_wp2_with (first | fail))
            refine onNormal_last ?_
            go_wp2_with fail
            go_meet
            exact ⟨rfl, w5.heap.size, rfl, Nat.le_refl _, (heap_setCell_at ((heap_setCell_at Hxq.out _).trans rfl) _).trans rfl, (HhI2.out.setCell (p := ⟨w5.heap.size, 0, none⟩) (Nat.le_refl _) _).setCell (p := ⟨w5.heap.size, 1, none⟩) (Nat.le_refl _) _⟩
          case rest =>
            obtain ⟨rfl, p2, rfl, hp2, hpx, hbc⟩ := hcut
            have o4 := heap_below hbc Hn4.out
            have o8 := heap_below hbc Hn8.out
            have of' := heap_below hbc Hnf.out
            have ob := bl_step Hnb.out hbc
            have orow := Hnrow.out.kept (below_grown hbc) (.inr (by simp [Value.ownBlock]))
            have ogl := (orow.lt g' rfl)
            have osz : w.heap.size + 2 ≤ g' := ogl.1
            have hpg : p2 ≠ g' := by have := (Hnrow.out.lt g' rfl).2; omega
            have hfg : bf ≠ g' := by have := lt_of_heap Hhxf.out; omega
            have hxx := Hhxx.out
            have hgset : gr.set cell (x0, x1) = gr := by
              apply List.ext_getElem?
              intro i
              rw [List.getElem?_set]
              split
              · rename_i hi; subst hi
                rw [hxx, if_pos (List.getElem?_eq_some_iff.1 hxx).1]
              · rfl
            clear n4c n4l nqc nql nfc nfl g0 g1 gl Hn4 Hn8 Hnrow Hnb Hnq Hnf
            obtain ⟨w7, hw7⟩ : ∃ x, wc = x := ⟨_, rfl⟩
            rw [hw7] at o4 o8 of' ob orow ogl hpx ⊢
            clear hbc hw7
            have hRR : RaiR w7 (w.heap.size + 2) g' n cap' cell gr x0 x1 w7 := ⟨by rw [hgset]; exact orow, Keeps.refl _ _⟩
            have ofc := cells_of of'
            have ofl := lt_of_heap of'
            have hp2l := lt_of_heap hpx
            have Ho4 := Lib.hid o4; clear o4; have Ho8 := Lib.hid o8; clear o8; have Hof' := Lib.hid of'; clear of'; have Hob := Lib.hid ob; clear ob; have Horow := Lib.hid orow; clear orow; have Hhpx := Lib.hid hpx; clear hpx; have HhRR := Lib.hid hRR; clear hRR; have Hhxx := Lib.hid hxx; clear hxx; have Hhgset := Lib.hid hgset; clear hgset
            go_upto_region 21 with fail
            go_cut [17] from 84 to 98 (fun v wx => v = .bool (decide (may = -1 ∨ kI ≤ may)) ∧ wx = w7)
            case first =>
              by_cases hm : may = -1
              · have hmb : (may == -1) = true := by simpa using hm
                go_wp2_with fail
                go_meet
                exact ⟨by simp [hm], rfl⟩
              · have hmb : (may == -1) = false := by simpa using hm
                go_wp2_with fail
                go_meet
                exact ⟨by simp [hm], rfl⟩
            case rest =>
            obtain ⟨rfl, hwx⟩ := hcut
            rw [hwx]
            clear hwx
            obtain ⟨st, hst⟩ : ∃ z, decide (may = -1 ∨ kI ≤ may) = z := ⟨_, rfl⟩
            rw [hst]
            obtain ⟨a0, ha0⟩ : ∃ z : Int, (if st = true then max x0 c0 else x0) = z := ⟨_, rfl⟩
            have Hhst := Lib.hid hst; clear hst; have Hha0 := Lib.hid ha0; clear ha0
            clear ofc ofl
            go_upto_if 99 with fail
            go_cut [100] from 100 to 109 (fun _ wx => RaiR w7 (w.heap.size + 2) g' n cap' cell gr (a0) (x1) wx)
            case first =>
              cases st with
              | true =>
                have e : max x0 c0 = a0 := by rw [← Hha0.out, if_pos rfl]
                clear Hha0
                have He := Lib.hid e; clear e
                obtain ⟨r0, r1, rf, rl⟩ := HhRR.out.cells Hhn.out hc
                rw [← Hhcn2.out] at r0 r1
                have hpy := HhRR.out.kept.heap Hhpx.out (by simpa using hpg)
                have hpc := cells_of hpy
                have hpl := lt_of_heap hpy
                have Hhpy := Lib.hid hpy; clear hpy
                go_upto_region 23 with fail
                have hI : Below w7.heap.size w7 w7.drew := (Below.refl _ _).drew
                refine wp_region_ord (fun W => Below w7.heap.size w7 W) [] [0, 1, 2, 3, 4, 5, 6, 7, 8, 9] (some 10) (by kernel_rfl) (by kernel_rfl) hI ?_
                refine OrdI_snk ?_
                (apply StI_plain (w0 := w7.drew) hI rfl rfl rfl rfl; (focus (intro W hW K hK; obtain ⟨_, _⟩ := bk g' hW rl; obtain ⟨_, _⟩ := bk p2 hW hpl; go_step; exact hK)); (focus rfl)); (apply StI_plain (w0 := w7.drew) hI rfl rfl rfl rfl; (focus (intro W hW K hK; obtain ⟨_, _⟩ := bk g' hW rl; obtain ⟨_, _⟩ := bk p2 hW hpl; go_step; exact hK)); (focus rfl)); (apply StI_plain (w0 := w7.drew) hI rfl rfl rfl rfl; (focus (intro W hW K hK; obtain ⟨_, _⟩ := bk g' hW rl; obtain ⟨_, _⟩ := bk p2 hW hpl; go_step; exact hK)); (focus rfl)); (apply StI_plain (w0 := w7.drew) hI rfl rfl rfl rfl; (focus (intro W hW K hK; obtain ⟨_, _⟩ := bk g' hW rl; obtain ⟨_, _⟩ := bk p2 hW hpl; go_step; exact hK)); (focus rfl)); (apply StI_plain (w0 := w7.drew) hI rfl rfl rfl rfl; (focus (intro W hW K hK; obtain ⟨_, _⟩ := bk g' hW rl; obtain ⟨_, _⟩ := bk p2 hW hpl; go_step; exact hK)); (focus rfl)); (apply StI_plain (w0 := w7.drew) hI rfl rfl rfl rfl; (focus (intro W hW K hK; obtain ⟨_, _⟩ := bk g' hW rl; obtain ⟨_, _⟩ := bk p2 hW hpl; go_step; exact hK)); (focus rfl)); (apply StI_plain (w0 := w7.drew) hI rfl rfl rfl rfl; (focus (intro W hW K hK; obtain ⟨_, _⟩ := bk g' hW rl; obtain ⟨_, _⟩ := bk p2 hW hpl; go_step; exact hK)); (focus rfl)); (apply StI_plain (w0 := w7.drew) hI rfl rfl rfl rfl; (focus (intro W hW K hK; obtain ⟨_, _⟩ := bk g' hW rl; obtain ⟨_, _⟩ := bk p2 hW hpl; go_step; exact hK)); (focus rfl)); (apply StI_plain (w0 := w7.drew) hI rfl rfl rfl rfl; (focus (intro W hW K hK; obtain ⟨_, _⟩ := bk g' hW rl; obtain ⟨_, _⟩ := bk p2 hW hpl; go_step; exact hK)); (focus rfl)); (apply StI_plain (w0 := w7.drew) hI rfl rfl rfl rfl; (focus (intro W hW K hK; obtain ⟨_, _⟩ := bk g' hW rl; obtain ⟨_, _⟩ := bk p2 hW hpl; go_step; exact hK)); (focus rfl))
                (apply StI_eff rfl; go_wp2_with (first | fail))
                refine onNormal_last ?_
                go_wp2_with fail
                go_meet
                have h := (HhRR.out.lo Hhn.out hc a0).drew
                rw [He.out, Hhcn2.out]
                exact h
              | false =>
                have e : x0 = a0 := by rw [← Hha0.out, if_neg (by simp)]
                clear Hha0
                go_wp2_with fail
                go_meet
                rw [← e]
                exact HhRR.out
            case rest =>
            obtain ⟨w8, hw8⟩ : ∃ x, wc = x := ⟨_, rfl⟩
            rw [hw8] at hcut ⊢
            clear hw8 HhRR
            have ofz := hcut.kept.heap Hof'.out (by simpa using hfg)
            have ofc := cells_of ofz
            have ofl := lt_of_heap ofz
            have hRR := hcut
            clear hcut ofz
            have HhRR := Lib.hid hRR; clear hRR
            go_upto_region 24 with fail
            go_cut [18] from 110 to 124 (fun v wx => v = .bool (decide (0 ≤ must ∧ must < kI)) ∧ wx = w8)
            case first =>
              by_cases hm : 0 ≤ must
              · go_wp2_with fail
                go_meet
                exact ⟨by simp [hm], rfl⟩
              · go_wp2_with fail
                go_meet
                exact ⟨by rw [decide_eq_false (fun h => by omega)], rfl⟩
            case rest =>
            obtain ⟨rfl, hwx⟩ := hcut
            rw [hwx]
            clear hwx ofc ofl
            obtain ⟨gn, hgn⟩ : ∃ z, decide (0 ≤ must ∧ must < kI) = z := ⟨_, rfl⟩
            rw [hgn]
            have Hhgn := Lib.hid hgn; clear hgn
            go_upto_region 25 with fail
            go_cut [129] from 125 to 128 (fun v wx => v = .bool (st || !gn) ∧ wx = w8)
            case first =>
              cases st <;> cases gn <;> (go_wp2_with fail; go_meet; exact ⟨rfl, rfl⟩)
            case rest =>
            obtain ⟨rfl, hwx⟩ := hcut
            rw [hwx]
            clear hwx
            obtain ⟨b5, hb5⟩ : ∃ z, (st || !gn) = z := ⟨_, rfl⟩
            rw [hb5]
            obtain ⟨b0, hb0⟩ : ∃ z : Int, (if b5 = true then max x1 c1 else x1) = z := ⟨_, rfl⟩
            have hRe : R = (a0, b0) := by
              rw [← HhR.out, ← Hha0.out, ← hb0, ← hb5, ← Hhst.out, ← Hhgn.out]
              refine Prod.ext ?_ ?_
              · simp only [raiseS, decide_eq_true_eq]
              · simp only [raiseS, Bool.or_eq_true, Bool.not_eq_true', decide_eq_true_eq, decide_eq_false_iff_not]
            have Hhb5 := Lib.hid hb5; clear hb5; have Hhb0 := Lib.hid hb0; clear hb0; have HhRe := Lib.hid hRe; clear hRe
            go_upto_if 129 with fail
            cases b5 with
            | true =>
              as_aux_lemma =>
              have e : max x1 c1 = b0 := by rw [← Hhb0.out, if_pos rfl]
              clear Hhb0
              have He := Lib.hid e; clear e
              obtain ⟨r0, r1, rf, rl⟩ := HhRR.out.cells Hhn.out hc
              rw [← Hhcn2.out] at r0 r1
              have hpy := HhRR.out.kept.heap Hhpx.out (by simpa using hpg)
              have hpc := cells_of hpy
              have hpl := lt_of_heap hpy
              have Hhpy := Lib.hid hpy; clear hpy
              go_upto_region 26 with fail
              have hI : Below w8.heap.size w8 w8.drew := (Below.refl _ _).drew
              refine wp_region_ord (fun W => Below w8.heap.size w8 W) [] [0, 1, 2, 3, 4, 5, 6, 7, 8, 9] (some 10) (by kernel_rfl) (by kernel_rfl) hI ?_
              refine OrdI_snk ?_
              (apply StI_plain (w0 := w8.drew) hI rfl rfl rfl rfl; (focus (intro W hW K hK; obtain ⟨_, _⟩ := bk g' hW rl; obtain ⟨_, _⟩ := bk p2 hW hpl; go_step; exact hK)); (focus rfl)); (apply StI_plain (w0 := w8.drew) hI rfl rfl rfl rfl; (focus (intro W hW K hK; obtain ⟨_, _⟩ := bk g' hW rl; obtain ⟨_, _⟩ := bk p2 hW hpl; go_step; exact hK)); (focus rfl)); (apply StI_plain (w0 := w8.drew) hI rfl rfl rfl rfl; (focus (intro W hW K hK; obtain ⟨_, _⟩ := bk g' hW rl; obtain ⟨_, _⟩ := bk p2 hW hpl; go_step; exact hK)); (focus rfl)); (apply StI_plain (w0 := w8.drew) hI rfl rfl rfl rfl; (focus (intro W hW K hK; obtain ⟨_, _⟩ := bk g' hW rl; obtain ⟨_, _⟩ := bk p2 hW hpl; go_step; exact hK)); (focus rfl)); (apply StI_plain (w0 := w8.drew) hI rfl rfl rfl rfl; (focus (intro W hW K hK; obtain ⟨_, _⟩ := bk g' hW rl; obtain ⟨_, _⟩ := bk p2 hW hpl; go_step; exact hK)); (focus rfl)); (apply StI_plain (w0 := w8.drew) hI rfl rfl rfl rfl; (focus (intro W hW K hK; obtain ⟨_, _⟩ := bk g' hW rl; obtain ⟨_, _⟩ := bk p2 hW hpl; go_step; exact hK)); (focus rfl)); (apply StI_plain (w0 := w8.drew) hI rfl rfl rfl rfl; (focus (intro W hW K hK; obtain ⟨_, _⟩ := bk g' hW rl; obtain ⟨_, _⟩ := bk p2 hW hpl; go_step; exact hK)); (focus rfl)); (apply StI_plain (w0 := w8.drew) hI rfl rfl rfl rfl; (focus (intro W hW K hK; obtain ⟨_, _⟩ := bk g' hW rl; obtain ⟨_, _⟩ := bk p2 hW hpl; go_step; exact hK)); (focus rfl)); (apply StI_plain (w0 := w8.drew) hI rfl rfl rfl rfl; (focus (intro W hW K hK; obtain ⟨_, _⟩ := bk g' hW rl; obtain ⟨_, _⟩ := bk p2 hW hpl; go_step; exact hK)); (focus rfl)); (apply StI_plain (w0 := w8.drew) hI rfl rfl rfl rfl; (focus (intro W hW K hK; obtain ⟨_, _⟩ := bk g' hW rl; obtain ⟨_, _⟩ := bk p2 hW hpl; go_step; exact hK)); (focus rfl))
              (apply StI_eff rfl; go_wp2_with (first | fail))
              refine onNormal_last ?_
              go_wp2_with fail
              have h := (HhRR.out.hi Hhn.out hc b0).drew
              refine ⟨.inr ⟨by go_num, rai_end Ho4.out Ho8.out Hob.out ?_ HhRe.out osz⟩, by simp [intOf]⟩
              rw [He.out, Hhcn2.out]
              exact h
            | false =>
              as_aux_lemma =>
              have e : x1 = b0 := by rw [← Hhb0.out, if_neg (by simp)]
              clear Hhb0
              go_wp2_with fail
              refine ⟨.inr ⟨by go_num, rai_end Ho4.out Ho8.out Hob.out ?_ HhRe.out osz⟩, by simp [intOf]⟩
              rw [← e]
              exact HhRR.out
        · obtain ⟨m4, m8, mrow, mb⟩ := hm
          have m4c := cells_of m4
          have m4l := lt_of_heap m4
          have m8c := cells_of m8
          have m8f := frozen_of m8
          have m8l := lt_of_heap m8
          have Hm4 := Lib.hid m4; clear m4; have Hm8 := Lib.hid m8; clear m8; have Hmrow := Lib.hid mrow; clear mrow; have Hmb := Lib.hid mb; clear mb
          go_wp2_with fail
          ((try simp only [Exit.inBlock, Exit.then]); refine bodyPost_ret (v := .tuple #[.agg #[.int .i64 W, .int .i64 H, .int .i64 sz, .slice (some ⟨g', 0, none⟩) n cap'], .int .i64 0]) (by simp [results, Try.results17, go_sem, *]) rfl ?_)
          refine ⟨g', cap', rfl, ?_, ?_⟩
          · refine row_mono (base := w.heap.size + 2) ?_ (by omega)
            repeat (first | exact Hmrow.out | refine ownsRow_setCell_below ?_ (by show w.heap.size + 1 < _; omega) _)
          · repeat (first | exact Hmb.out | refine bl_setCell ?_ _ _ (by show _ ≤ w.heap.size + 1; omega))
end Go.Proofs.Ytfbmjecikilghaa
