/- grid: Sills and Flood. -/
import Derived.Test.YtfbmjecikilghaaSillsT
namespace Go.Proofs.Ytfbmjecikilghaa
open Go.RowKit

/-- A grid that is well and a sea in it. -/
structure SeaM (B : Nat) (w : World) (wd ht : Nat) (sz : Int) (gr : List (Int × Int)) (ga : Option Addr) (sea : List Int) (sa : Option Addr) : Prop where
  grid : GridM B w wd ht sz gr ga
  cells : Sl IntE 1 B w sa sea
  dry : ∀ c ∈ sea, 0 ≤ c ∧ c < (gr.length : Int)
  some : 1 ≤ sea.length
theorem SeaM.below {B : Nat} {w w' : World} {wd ht : Nat} {sz : Int} {gr : List (Int × Int)} {ga : Option Addr} {sea : List Int} {sa : Option Addr} (h : SeaM B w wd ht sz gr ga sea sa) (hb : Below B w w') : SeaM B w' wd ht sz gr ga sea sa :=
  ⟨h.grid.below hb, h.cells.below (ek_int B) hb, h.dry, h.some⟩

set_option maxHeartbeats 4000000 in
set_option maxRecDepth 100000 in
theorem Sills_ok (B : Nat) (w : World) (wd ht : Nat) (sz : Int) (gr : List (Int × Int)) (ga : Option Addr) (gcap : Nat) (sea : List Int) (sa : Option Addr) (scap : Nat) (hM : SeaM B w wd ht sz gr ga sea sa) (hB : B ≤ w.heap.size) :
    Calls Try.prog 21 #[.agg #[.int .i64 wd, .int .i64 ht, .int .i64 sz, .slice ga gr.length gcap], .slice sa sea.length scap] w fun e w' => ∃ v lo hi, e = .returned (.tuple #[v, .int .i64 0]) ∧ SillOk wd ht (sea.map Int.toNat) (loOf gr) lo ∧ SillOk wd ht (sea.map Int.toNat) (hiOf gr) hi ∧
      w'.ownsRow w.heap.size 46 2 v (pairs lo hi).length (wcells (pairs lo hi)) ∧ Below w.heap.size w w' := by
  have hc := fun W (hW : Below w.heap.size w W) => checkSea_ok wd ht sz gr ga sa gcap scap B sea W ((hM.below (hW.mono hB)).grid) (by have := hW.size; omega) ((hM.below (hW.mono hB)).cells) hM.dry hM.some
  have hb := fun W (hW : Below w.heap.size w W) (qg qs : Nat) (h1 : W.heap[qg]? = some (.cells #[.int .i64 wd, .int .i64 ht, .int .i64 sz, .slice ga gr.length gcap] 36 (0, 0))) (h2 : Boxed W qs 44 (.slice sa sea.length scap)) =>
    both_ok W.heap.size qg qs W wd ht sz gr ga gcap sea sa scap ⟨(by
      have hm := (hM.below (hW.mono hB)).grid
      exact ⟨⟨hm.cells.1, fun k hk => by obtain ⟨b, off, e1, e2, e3⟩ := hm.cells.2 k hk; exact ⟨b, off, e1, by have := hW.size; omega, e3⟩⟩, hm.ok, hm.w1, hm.w4, hm.h1, hm.h4, hm.s1, hm.s2, hm.len⟩), h1,
      (by
      have hm := (hM.below (hW.mono hB)).cells
      exact ⟨hm.1, fun k hk => by obtain ⟨b, off, e1, e2, e3⟩ := hm.2 k hk; exact ⟨b, off, e1, by have := hW.size; omega, e3⟩⟩), h2, hM.dry, hM.some, lt_of_heap h1, h2.lt⟩ (Nat.le_refl _)
  have HC := Lib.hid hc
  have HB := Lib.hid hb
  clear hc hb hM
  go_enter Try.func21, Try.ntmps21
  go_wp2_with fail
  refine (HC.out _ (by repeat (first | exact Below.refl _ _ | (refine bl_setCell ?_ _ _ ?_; rotate_left; focus (first | omega | (simp; done) | (simp; omega))) | refine bl_alloc ?_ _ | refine bl_step ?_ (by assumption) | refine bl_drew ?_ | refine bl_drewN ?_ _))).mono ?_
  rintro e w1 ⟨rfl, hb1⟩
  have y0 : w1.heap[w.heap.size]? = some (.cells #[.int .i64 wd, .int .i64 ht, .int .i64 sz, .slice ga gr.length gcap] 36 (0, 0)) := heap_below hb1 (by repeat (first | (refine heap_alloc_at' _ _ ?_; focus (simp; done)) | refine heap_alloc_off ?_ _))
  have y1 : w1.heap[w.heap.size + 1]? = some (.cells #[.slice sa sea.length scap] 44 (0, 0)) := heap_below hb1 (by repeat (first | (refine heap_alloc_at' _ _ ?_; focus (simp; done)) | refine heap_alloc_off ?_ _))
  have hbw : Below w.heap.size w w1 := (by repeat (first | exact Below.refl _ _ | (refine bl_setCell ?_ _ _ ?_; rotate_left; focus (first | omega | (simp; done) | (simp; omega))) | refine bl_alloc ?_ _ | refine bl_step ?_ (by assumption) | refine bl_drew ?_ | refine bl_drewN ?_ _))
  clear hb1
  have Hy0 := Lib.hid y0; clear y0; have Hy1 := Lib.hid y1; clear y1; have Hhbw := Lib.hid hbw; clear hbw
  go_wp2_with fail
  refine (HB.out w1 Hhbw.out w.heap.size (w.heap.size + 1) Hy0.out Hy1.out).mono ?_
  rintro e w2 ⟨v, lo, hi, rfl, hS1, hS2, hrow, hb2⟩
  have HhS1 := Lib.hid hS1; clear hS1; have HhS2 := Lib.hid hS2; clear hS2; have Hhrow := Lib.hid hrow; clear hrow; have Hhb2 := Lib.hid hb2; clear hb2
  go_wp2_with fail
  go_ret2
  exact ⟨_, lo, hi, rfl, HhS1.out, HhS2.out, row_mono Hhrow.out Hhbw.out.size, bl_step Hhbw.out Hhb2.out⟩

/-! Flood. -/
def bools (l : List Bool) : List Value := l.map Value.bool
def sureOf (lv : Int) (hi : List Int) : List Bool := hi.map fun h => decide (h < lv)

def FloodI (w0 : World) (l0 l1 : Int) (lo hi : List Int) (n : Nat) (i s m : Value) (wr : World) : Prop :=
  ∃ k : Nat, k ≤ n ∧ i = .int .i64 k ∧ wr.ownsRow w0.heap.size 4 1 s k (bools (sureOf l0 (hi.take k))) ∧ wr.ownsRow w0.heap.size 4 1 m k (bools (sureOf l1 (lo.take k))) ∧ (∀ g, s.ownBlock = some g → m.ownBlock ≠ some g) ∧ Below w0.heap.size w0 wr

theorem infoBool : (Try.prog.info? 4).map (fun i => (i.zero, i.size, i.bytes)) = some (some (.bool false), 1, 1) := by kernel_rfl
theorem news1 (w : World) (q : Nat) (x : Value) (t : TypeId) (hq : w.heap[q]? = some (.cells #[x] t (0, 0))) : ∀ j u, [x][j]? = some u → w.cell? ((⟨q, 0, none⟩ : Addr).add j) = some u := by
  intro j u hj
  rcases j with _ | j
  · simp at hj; subst hj; exact (cells_of hq 0).trans rfl
  · simp at hj
/-- Two rows of bools beside each other. -/
structure TwoM (w0 : World) (s m : Value) (k j : Nat) (xs ys : List Value) (q5 q11 : Nat) (c5 c11 : Array Value) (w : World) : Prop where
  rs : w.ownsRow w0.heap.size 4 1 s k xs
  rm : w.ownsRow w0.heap.size 4 1 m j ys
  sep : ∀ g, s.ownBlock = some g → m.ownBlock ≠ some g
  b5 : w.heap[q5]? = some (.cells c5 46 (0, 0))
  b11 : w.heap[q11]? = some (.cells c11 46 (0, 0))
  below : Below w0.heap.size w0 w
theorem TwoM.swap {w0 : World} {s m : Value} {k j : Nat} {xs ys : List Value} {q5 q11 : Nat} {c5 c11 : Array Value} {w : World} (h : TwoM w0 s m k j xs ys q5 q11 c5 c11 w) : TwoM w0 m s j k ys xs q5 q11 c5 c11 w :=
  ⟨h.rm, h.rs, fun g hg hm => h.sep g hm hg, h.b5, h.b11, h.below⟩
theorem TwoM.alloc {w0 : World} {s m : Value} {k j : Nat} {xs ys : List Value} {q5 q11 : Nat} {c5 c11 : Array Value} {w : World} (h : TwoM w0 s m k j xs ys q5 q11 c5 c11 w) (o : Obj) : TwoM w0 s m k j xs ys q5 q11 c5 c11 (w.alloc o) :=
  ⟨h.rs.alloc o, h.rm.alloc o, h.sep, heap_alloc_off h.b5 o, heap_alloc_off h.b11 o, bl_alloc h.below o⟩
theorem TwoM.drew {w0 : World} {s m : Value} {k j : Nat} {xs ys : List Value} {q5 q11 : Nat} {c5 c11 : Array Value} {w : World} (h : TwoM w0 s m k j xs ys q5 q11 c5 c11 w) : TwoM w0 s m k j xs ys q5 q11 c5 c11 w.drew :=
  ⟨h.rs.drew, h.rm.drew, h.sep, h.b5, h.b11, bl_drew h.below⟩
theorem append_bool {ops : Array Oper} {rest : List Oper} {o : Oper} {a : Act} {Q : Exit → Act → World → Prop} {w w0 : World} (hgd : o.guard = none) (so xo : Operand) (ho : o.op = .call { callee := .builtin .append, args := #[so, xo], argTypes := #[51, 51] })
    (s m : Value) (k j : Nat) (xs ys : List Value) (q5 q11 : Nat) (c5 c11 : Array Value) (x : Bool) (q : Nat) (hs : a.eval so = s) (hx : a.eval xo = .slice (some ⟨q, 0, none⟩) 1 1) (hT : TwoM w0 s m k j xs ys q5 q11 c5 c11 w)
    (hq : w.heap[q]? = some (.cells #[.bool x] 4 (0, 0))) (hk : k ≤ 1000)
    (hK : ∀ g cap w', TwoM w0 (.slice (some ⟨g, 0, none⟩) (k + 1) cap) m (k + 1) j (xs ++ [.bool x]) ys q5 q11 c5 c11 w' → (∀ q' y, w.heap[q']? = some (.cells #[.bool y] 4 (0, 0)) → s.ownBlock ≠ some q' → w'.heap[q']? = some (.cells #[.bool y] 4 (0, 0))) → (s.ownBlock = some g ∨ g = w.heap.size) → wpList Try.prog ops Q rest (a.put o.dst (.slice (some ⟨g, 0, none⟩) (k + 1) cap)) w') :
    wpList Try.prog ops Q (o :: rest) a w := by
  obtain ⟨i0, hinf, hz0, hz1, hz2⟩ := info_parts infoBool
  have hsz := hT.below.size
  refine wpList_append_lies _ hgd so xo 51 ho w0.heap.size 4 i0 (.bool false) 1 1 Try.underlying51 hinf hz0 hz1 hz2 rfl (by decide) s k xs hs hT.rs ⟨q, 0, none⟩ 1 1 [.bool x] hx rfl (news1 w q _ 4 hq) (by simp [Value.oneCell']) (by omega) (by unfold maxLen; omega) (by omega) hsz w.heap.size rfl ?_
  intro g cap w' hown hgrow hlie hg
  refine hK g cap w' ⟨hown, ?_, ?_, ?_, ?_, ?_⟩ (fun q' y hq' hne => (hgrow.block q' (lt_of_heap hq') (Ne.symm hne)).trans hq') hlie
  · exact row_same hT.rm fun g' hg' => hgrow.block g' (hT.rm.lt g' hg').2 (fun e => hT.sep g' e.symm hg')
  · intro g' hg' hm
    obtain rfl : g = g' := by simpa [Value.ownBlock] using hg'
    rcases hlie with h | h
    · exact hT.sep g h hm
    · have := (hT.rm.lt g hm).2; omega
  · exact (hgrow.block q5 (lt_of_heap hT.b5) (Ne.symm (cells_not_row hT.b5 (by decide) hT.rs))).trans hT.b5
  · exact (hgrow.block q11 (lt_of_heap hT.b11) (Ne.symm (cells_not_row hT.b11 (by decide) hT.rs))).trans hT.b11
  · exact hT.below.grown hgrow hsz (fun i hi => (hT.rs.lt i hi).1)
theorem bools_snoc (l : List Bool) (x : Bool) : bools (l ++ [x]) = bools l ++ [.bool x] := by simp [bools]
theorem sureOf_snoc (lv : Int) (l : List Int) (k : Nat) (h : k < l.length) : sureOf lv (l.take (k + 1)) = sureOf lv (l.take k) ++ [decide (l[k] < lv)] := by
  unfold sureOf
  rw [List.take_succ_eq_append_getElem h, List.map_append]; rfl

set_option maxHeartbeats 4000000 in
set_option maxRecDepth 100000 in
theorem Flood_ok (B : Nat) (w : World) (wd ht : Nat) (sz : Int) (gr : List (Int × Int)) (ga : Option Addr) (gcap : Nat) (sea : List Int) (sa : Option Addr) (scap : Nat) (l0 l1 : Int) (hM : SeaM B w wd ht sz gr ga sea sa) (hB : B ≤ w.heap.size) (h01 : l0 ≤ l1) (hl0 : -20000 ≤ l0) (hl1 : l1 ≤ 20000) :
    Calls Try.prog 10 #[.agg #[.int .i64 wd, .int .i64 ht, .int .i64 sz, .slice ga gr.length gcap], .slice sa sea.length scap, .agg #[.int .i64 l0, .int .i64 l1]] w fun e w' => ∃ s m lo hi, e = .returned (.tuple #[s, m, .int .i64 0]) ∧ SillOk wd ht (sea.map Int.toNat) (loOf gr) lo ∧ SillOk wd ht (sea.map Int.toNat) (hiOf gr) hi ∧
      w'.ownsRow w.heap.size 4 1 s gr.length (bools (sureOf l0 hi)) ∧ w'.ownsRow w.heap.size 4 1 m gr.length (bools (sureOf l1 lo)) ∧ Below w.heap.size w w' := by
  have hs := fun W (hW : Below w.heap.size w W) => Sills_ok B W wd ht sz gr ga gcap sea sa scap (hM.below (hW.mono hB)) (by have := hW.size; omega)
  have hlen : gr.length = wd * ht := by have := hM.grid.len; exact_mod_cast this
  have hn16 := hM.grid.few
  have hv := gvalid_any l0 l1 20000 (by omega) (by omega)
  have e : vldB l0 l1 (-20000) 20000 = true := by simp [vldB]; omega
  rw [e] at hv
  have HS := Lib.hid hs
  have HL := Lib.hid hlen
  clear hs hM hlen e
  go_enter Try.func10, Try.ntmps10
  go_wp2_with fail
  refine (HS.out _ (by repeat (first | exact Below.refl _ _ | (refine bl_setCell ?_ _ _ ?_; rotate_left; focus (first | omega | (simp; done) | (simp; omega))) | refine bl_alloc ?_ _ | refine bl_step ?_ (by assumption) | refine bl_drew ?_ | refine bl_drewN ?_ _))).mono ?_
  rintro e w1 ⟨v, lo, hi, rfl, hS1, hS2, hrow, hb1⟩
  have y5 : w1.heap[w.heap.size + 1]? = some (.cells #[.int .i64 l0, .int .i64 l1] 46 (0, 0)) := heap_below hb1 (by repeat (first | (refine heap_alloc_at' _ _ ?_; focus (simp; done)) | refine heap_alloc_off ?_ _))
  have y5c := cells_of y5
  have y5l := lt_of_heap y5
  have hbw : Below w.heap.size w w1 := (by repeat (first | exact Below.refl _ _ | (refine bl_setCell ?_ _ _ ?_; rotate_left; focus (first | omega | (simp; done) | (simp; omega))) | refine bl_alloc ?_ _ | refine bl_step ?_ (by assumption) | refine bl_drew ?_ | refine bl_drewN ?_ _))
  clear hb1
  have Hy5 := Lib.hid y5; clear y5; have Hhbw := Lib.hid hbw; clear hbw; have HhS1 := Lib.hid hS1; clear hS1; have HhS2 := Lib.hid hS2; clear hS2; have Hhrow := Lib.hid hrow; clear hrow
  go_wp2_with fail
  refine (hv _).mono ?_
  rintro e w2 ⟨rfl, hb2⟩
  have hlo : lo.length = gr.length := by rw [HhS1.out.len, HL.out]
  have hhi : hi.length = gr.length := by rw [HhS2.out.len, HL.out]
  have hpl : (pairs lo hi).length = gr.length := by unfold pairs; rw [List.length_zip]; omega
  obtain ⟨av, cv, rfl, hsp⟩ := sl_spans Hhrow.out (by omega)
  rw [hpl]
  have hsp2 := hsp.below (ek_span _) hb2
  have z5 := heap_below hb2 Hy5.out
  have hbw2 := bl_step Hhbw.out hb2
  have hsz := hb2.size
  clear y5c Hhrow hv hb2 hsp
  have Hhlo := Lib.hid hlo; clear hlo; have Hhhi := Lib.hid hhi; clear hhi; have Hhpl := Lib.hid hpl; clear hpl; have Hhsp2 := Lib.hid hsp2; clear hsp2; have Hz5 := Lib.hid z5; clear z5; have Hhbw2 := Lib.hid hbw2; clear hbw2
  go_wp2_with fail
  go_loopw [28, 6, 7] (fun i s m wr => FloodI w2 l0 l1 lo hi gr.length i s m wr) (fun i _ _ _ => gr.length - (intOf i).toNat)
  case atStart => exact ⟨0, Nat.zero_le _, rfl, World.ownsRow_nil _ _ _ _, World.ownsRow_nil _ _ _ _, (fun g hg => by cases hg), Below.refl _ _⟩
  case round =>
    obtain ⟨k, hk, rfl, hs, hm, hsep, hb⟩ := hrel
    by_cases hlt : k < gr.length
    · have k1 : k < lo.length := by have := Hhlo.out; omega
      have k2 : k < hi.length := by have := Hhhi.out; omega
      have kp : k < (pairs lo hi).length := by have := Hhpl.out; omega
      obtain ⟨b, off, rfl, hbb, he⟩ := (Hhsp2.out.below (ek_span _) (hb.mono hsz)).2 k kp
      have hpk : (pairs lo hi)[k] = (lo[k], hi[k]) := by simp [pairs]
      have e1 := sureOf_snoc l0 hi k k2
      have e2 := sureOf_snoc l1 lo k k1
      obtain ⟨x, hx⟩ : ∃ x, lo[k] = x := ⟨_, rfl⟩
      obtain ⟨y, hy⟩ : ∃ y, hi[k] = y := ⟨_, rfl⟩
      rw [hpk, hx, hy] at he
      rw [hy] at e1
      rw [hx] at e2
      obtain ⟨f1, f2⟩ := he
      simp only at f1 f2
      have q1 : b < wr.heap.size := World.block_lt_of_cell? wr _ f1
      have z5r := heap_below (hb.mono (Nat.le_refl _) |> fun h => (⟨h.os, h.tape, h.output, h.size, h.block⟩ : Below w2.heap.size w2 wr)) Hz5.out
      clear hpk
      clear hx hy
      have Hhs := Lib.hid hs; clear hs; have Hhm := Lib.hid hm; clear hm; have Hhsep := Lib.hid hsep; clear hsep; have Hhb := Lib.hid hb; clear hb; have He1 := Lib.hid e1; clear e1; have He2 := Lib.hid e2; clear e2; have Hz5r := Lib.hid z5r; clear z5r
      go_upto_region 9 with fail
      have hT0 : TwoM w2 u6 u7 k k (bools (sureOf l0 (hi.take k))) (bools (sureOf l1 (lo.take k))) (w.heap.size + 1) wr.heap.size #[.int .i64 l0, .int .i64 l1] #[.int .i64 x, .int .i64 y] (wr.alloc (.cells #[.int .i64 x, .int .i64 y] 46)) :=
        (⟨Hhs.out.alloc _, Hhm.out.alloc _, Hhsep.out, heap_alloc_off Hz5r.out _, heap_alloc_at _ _, bl_alloc Hhb.out _⟩)
      generalize (wr.alloc (.cells #[.int .i64 x, .int .i64 y] 46)) = W0 at hT0 ⊢
      have hI : W0.drew.heap[w.heap.size + 1]? = some (.cells #[.int .i64 l0, .int .i64 l1] 46 (0, 0)) ∧ W0.drew.heap[wr.heap.size]? = some (.cells #[.int .i64 x, .int .i64 y] 46 (0, 0)) := ⟨hT0.b5, hT0.b11⟩
      clear f1 f2
      refine wp_region_ordT (fun W => W.heap[w.heap.size + 1]? = some (.cells #[.int .i64 l0, .int .i64 l1] 46 (0, 0)) ∧ W.heap[wr.heap.size]? = some (.cells #[.int .i64 x, .int .i64 y] 46 (0, 0))) (.two [0, 1, 2, 3, 4, 5, 8, 9, 10, 11, 12, 13] 6 (.two [] 7 (.one [] 14 (.one [] 15 (.fin [16, 17] none))) 14 (.one [] 7 (.one [] 15 (.fin [16, 17] none)))) 14 (.one [] 6 (.one [] 7 (.one [] 15 (.fin [16, 17] none))))) (by kernel_rfl) (by kernel_rfl) hI ?_
      refine otTwo ?_
      (apply StI_plain (w0 := W0.drew) hI rfl rfl rfl rfl; (focus (intro W hW K hK; have := cells_of hW.1; have := cells_of hW.2; go_step; exact hK)); (focus rfl)); (apply StI_plain (w0 := W0.drew) hI rfl rfl rfl rfl; (focus (intro W hW K hK; have := cells_of hW.1; have := cells_of hW.2; go_step; exact hK)); (focus rfl)); (apply StI_plain (w0 := W0.drew) hI rfl rfl rfl rfl; (focus (intro W hW K hK; have := cells_of hW.1; have := cells_of hW.2; go_step; exact hK)); (focus rfl)); (apply StI_plain (w0 := W0.drew) hI rfl rfl rfl rfl; (focus (intro W hW K hK; have := cells_of hW.1; have := cells_of hW.2; go_step; exact hK)); (focus rfl)); (apply StI_plain (w0 := W0.drew) hI rfl rfl rfl rfl; (focus (intro W hW K hK; have := cells_of hW.1; have := cells_of hW.2; go_step; exact hK)); (focus rfl)); (apply StI_plain (w0 := W0.drew) hI rfl rfl rfl rfl; (focus (intro W hW K hK; have := cells_of hW.1; have := cells_of hW.2; go_step; exact hK)); (focus rfl)); (apply StI_plain (w0 := W0.drew) hI rfl rfl rfl rfl; (focus (intro W hW K hK; have := cells_of hW.1; have := cells_of hW.2; go_step; exact hK)); (focus rfl)); (apply StI_plain (w0 := W0.drew) hI rfl rfl rfl rfl; (focus (intro W hW K hK; have := cells_of hW.1; have := cells_of hW.2; go_step; exact hK)); (focus rfl)); (apply StI_plain (w0 := W0.drew) hI rfl rfl rfl rfl; (focus (intro W hW K hK; have := cells_of hW.1; have := cells_of hW.2; go_step; exact hK)); (focus rfl)); (apply StI_plain (w0 := W0.drew) hI rfl rfl rfl rfl; (focus (intro W hW K hK; have := cells_of hW.1; have := cells_of hW.2; go_step; exact hK)); (focus rfl)); (apply StI_plain (w0 := W0.drew) hI rfl rfl rfl rfl; (focus (intro W hW K hK; have := cells_of hW.1; have := cells_of hW.2; go_step; exact hK)); (focus rfl)); (apply StI_plain (w0 := W0.drew) hI rfl rfl rfl rfl; (focus (intro W hW K hK; have := cells_of hW.1; have := cells_of hW.2; go_step; exact hK)); (focus rfl))
      refine StI_nil ⟨?_, ?_⟩
      · apply wpOp_eff rfl
        go_wp2_with fail
        have hT1 := (hT0.alloc (.cells #[.bool (decide (y < l0))] 4)).drew
        have hq6_1 := heap_drew' (heap_alloc_at W0 (.cells #[.bool (decide (y < l0))] 4))
        have n6_1 := fun g hg => (hT0.rm.lt g hg).2
        generalize (W0.alloc (.cells #[.bool (decide (y < l0))] 4)).drew = W1 at hT1 hq6_1 ⊢
        refine otN ⟨hT1.b5, hT1.b11⟩ ?_
        refine otTwo (StI_nil ⟨?_, ?_⟩)
        · apply wpOp_eff rfl
          refine append_bool ?_ (.tmp 32) (.tmp 38) ?_ u6 u7 k k (bools (sureOf l0 (hi.take k))) (bools (sureOf l1 (lo.take k))) _ _ _ _ (decide (y < l0)) (W0.heap.size) ?_ ?_ hT1 hq6_1 (by omega) ?_
          · rfl
          · rfl
          · rfl
          · rfl
          intro g2 cap2 W2 hT2 hk2 hl2
          go_wp2_with fail
          refine otN ⟨hT2.b5, hT2.b11⟩ ?_
          refine otOne ?_
          apply StI_eff rfl
          go_wp2_with fail
          have hT3 := hT2.alloc (.cells #[.bool (decide (x < l1))] 4)
          have hq14_3 := heap_alloc_at W2 (.cells #[.bool (decide (x < l1))] 4)
          have n14_3 := fun g hg => (hT2.rs.lt g hg).2
          have hq6_3 := heap_alloc_off hq6_1 (.cells #[.bool (decide (x < l1))] 4)
          generalize (W2.alloc (.cells #[.bool (decide (x < l1))] 4)) = W3 at hT3 hq6_3 hq14_3 ⊢
          refine otN ⟨hT3.b5, hT3.b11⟩ ?_
          refine otOne ?_
          apply StI_eff rfl
          refine append_bool ?_ (.tmp 40) (.tmp 46) ?_ u7 (.slice (some ⟨g2, 0, none⟩) (k + 1) cap2) k (k + 1) (bools (sureOf l1 (lo.take k))) ((bools (sureOf l0 (hi.take k))) ++ [.bool (decide (y < l0))]) _ _ _ _ (decide (x < l1)) (W2.heap.size) ?_ ?_ hT3.swap hq14_3 (by omega) ?_
          · rfl
          · rfl
          · rfl
          · rfl
          intro g4 cap4 W4 hT4 hk4 hl4
          replace hT4 := hT4.swap
          go_wp2_with fail
          refine otN ⟨hT4.b5, hT4.b11⟩ ?_
          refine otFin ?_
          (apply StI_plain (w0 := W4) (show W4.heap[w.heap.size + 1]? = _ ∧ W4.heap[wr.heap.size]? = _ from ⟨hT4.b5, hT4.b11⟩) rfl rfl rfl rfl; (focus (intro W hW K hK; skip; go_step; exact hK)); (focus rfl)); (apply StI_plain (w0 := W4) (show W4.heap[w.heap.size + 1]? = _ ∧ W4.heap[wr.heap.size]? = _ from ⟨hT4.b5, hT4.b11⟩) rfl rfl rfl rfl; (focus (intro W hW K hK; skip; go_step; exact hK)); (focus rfl))
          refine StI_nil ?_
          have hTf := Lib.hid hT4
          clear hI hT0 hT1 hq6_1 hT2 hk2 hl2 hT3 hq6_3 hq14_3 hT4 hk4 hl4
          go_wp2_with fail
          exact ⟨⟨k + 1, by omega, by go_num, by rw [He1.out, bools_snoc]; exact hTf.out.rs, by rw [He2.out, bools_snoc]; exact hTf.out.rm, hTf.out.sep, hTf.out.below⟩, by simp only [intOf]; omega⟩
        · apply wpOp_eff rfl
          go_wp2_with fail
          have hT5 := hT1.alloc (.cells #[.bool (decide (x < l1))] 4)
          have hq14_5 := heap_alloc_at W1 (.cells #[.bool (decide (x < l1))] 4)
          have n14_5 := fun g hg => (hT1.rs.lt g hg).2
          have hq6_5 := heap_alloc_off hq6_1 (.cells #[.bool (decide (x < l1))] 4)
          generalize (W1.alloc (.cells #[.bool (decide (x < l1))] 4)) = W5 at hT5 hq6_5 hq14_5 ⊢
          refine otN ⟨hT5.b5, hT5.b11⟩ ?_
          refine otOne ?_
          apply StI_eff rfl
          refine append_bool ?_ (.tmp 32) (.tmp 38) ?_ u6 u7 k k (bools (sureOf l0 (hi.take k))) (bools (sureOf l1 (lo.take k))) _ _ _ _ (decide (y < l0)) (W0.heap.size) ?_ ?_ hT5 hq6_5 (by omega) ?_
          · rfl
          · rfl
          · rfl
          · rfl
          intro g6 cap6 W6 hT6 hk6 hl6
          have hq14_6 := hk6 _ _ hq14_5 (fun e => by have := n14_5 _ e; omega)
          go_wp2_with fail
          refine otN ⟨hT6.b5, hT6.b11⟩ ?_
          refine otOne ?_
          apply StI_eff rfl
          refine append_bool ?_ (.tmp 40) (.tmp 46) ?_ u7 (.slice (some ⟨g6, 0, none⟩) (k + 1) cap6) k (k + 1) (bools (sureOf l1 (lo.take k))) ((bools (sureOf l0 (hi.take k))) ++ [.bool (decide (y < l0))]) _ _ _ _ (decide (x < l1)) (W1.heap.size) ?_ ?_ hT6.swap hq14_6 (by omega) ?_
          · rfl
          · rfl
          · rfl
          · rfl
          intro g7 cap7 W7 hT7 hk7 hl7
          replace hT7 := hT7.swap
          go_wp2_with fail
          refine otN ⟨hT7.b5, hT7.b11⟩ ?_
          refine otFin ?_
          (apply StI_plain (w0 := W7) (show W7.heap[w.heap.size + 1]? = _ ∧ W7.heap[wr.heap.size]? = _ from ⟨hT7.b5, hT7.b11⟩) rfl rfl rfl rfl; (focus (intro W hW K hK; skip; go_step; exact hK)); (focus rfl)); (apply StI_plain (w0 := W7) (show W7.heap[w.heap.size + 1]? = _ ∧ W7.heap[wr.heap.size]? = _ from ⟨hT7.b5, hT7.b11⟩) rfl rfl rfl rfl; (focus (intro W hW K hK; skip; go_step; exact hK)); (focus rfl))
          refine StI_nil ?_
          have hTf := Lib.hid hT7
          clear hI hT0 hT1 hq6_1 hT5 hq6_5 hq14_5 hT6 hk6 hl6 hq14_6 hT7 hk7 hl7
          go_wp2_with fail
          exact ⟨⟨k + 1, by omega, by go_num, by rw [He1.out, bools_snoc]; exact hTf.out.rs, by rw [He2.out, bools_snoc]; exact hTf.out.rm, hTf.out.sep, hTf.out.below⟩, by simp only [intOf]; omega⟩
      · apply wpOp_eff rfl
        go_wp2_with fail
        have hT8 := (hT0.alloc (.cells #[.bool (decide (x < l1))] 4)).drew
        have hq14_8 := heap_drew' (heap_alloc_at W0 (.cells #[.bool (decide (x < l1))] 4))
        have n14_8 := fun g hg => (hT0.rs.lt g hg).2
        generalize (W0.alloc (.cells #[.bool (decide (x < l1))] 4)).drew = W8 at hT8 hq14_8 ⊢
        refine otN ⟨hT8.b5, hT8.b11⟩ ?_
        refine otOne ?_
        apply StI_eff rfl
        go_wp2_with fail
        have hT9 := hT8.alloc (.cells #[.bool (decide (y < l0))] 4)
        have hq6_9 := heap_alloc_at W8 (.cells #[.bool (decide (y < l0))] 4)
        have n6_9 := fun g hg => (hT8.rm.lt g hg).2
        have hq14_9 := heap_alloc_off hq14_8 (.cells #[.bool (decide (y < l0))] 4)
        generalize (W8.alloc (.cells #[.bool (decide (y < l0))] 4)) = W9 at hT9 hq6_9 hq14_9 ⊢
        refine otN ⟨hT9.b5, hT9.b11⟩ ?_
        refine otOne ?_
        apply StI_eff rfl
        refine append_bool ?_ (.tmp 32) (.tmp 38) ?_ u6 u7 k k (bools (sureOf l0 (hi.take k))) (bools (sureOf l1 (lo.take k))) _ _ _ _ (decide (y < l0)) (W8.heap.size) ?_ ?_ hT9 hq6_9 (by omega) ?_
        · rfl
        · rfl
        · rfl
        · rfl
        intro g10 cap10 W10 hT10 hk10 hl10
        have hq14_10 := hk10 _ _ hq14_9 (fun e => by have := n14_8 _ e; omega)
        go_wp2_with fail
        refine otN ⟨hT10.b5, hT10.b11⟩ ?_
        refine otOne ?_
        apply StI_eff rfl
        refine append_bool ?_ (.tmp 40) (.tmp 46) ?_ u7 (.slice (some ⟨g10, 0, none⟩) (k + 1) cap10) k (k + 1) (bools (sureOf l1 (lo.take k))) ((bools (sureOf l0 (hi.take k))) ++ [.bool (decide (y < l0))]) _ _ _ _ (decide (x < l1)) (W0.heap.size) ?_ ?_ hT10.swap hq14_10 (by omega) ?_
        · rfl
        · rfl
        · rfl
        · rfl
        intro g11 cap11 W11 hT11 hk11 hl11
        replace hT11 := hT11.swap
        go_wp2_with fail
        refine otN ⟨hT11.b5, hT11.b11⟩ ?_
        refine otFin ?_
        (apply StI_plain (w0 := W11) (show W11.heap[w.heap.size + 1]? = _ ∧ W11.heap[wr.heap.size]? = _ from ⟨hT11.b5, hT11.b11⟩) rfl rfl rfl rfl; (focus (intro W hW K hK; skip; go_step; exact hK)); (focus rfl)); (apply StI_plain (w0 := W11) (show W11.heap[w.heap.size + 1]? = _ ∧ W11.heap[wr.heap.size]? = _ from ⟨hT11.b5, hT11.b11⟩) rfl rfl rfl rfl; (focus (intro W hW K hK; skip; go_step; exact hK)); (focus rfl))
        refine StI_nil ?_
        have hTf := Lib.hid hT11
        clear hI hT0 hT8 hq14_8 hT9 hq6_9 hq14_9 hT10 hk10 hl10 hq14_10 hT11 hk11 hl11
        go_wp2_with fail
        exact ⟨⟨k + 1, by omega, by go_num, by rw [He1.out, bools_snoc]; exact hTf.out.rs, by rw [He2.out, bools_snoc]; exact hTf.out.rm, hTf.out.sep, hTf.out.below⟩, by simp only [intOf]; omega⟩
    · obtain rfl : k = gr.length := by omega
      have e1 : hi.take gr.length = hi := List.take_of_length_le (by have := Hhhi.out; omega)
      have e2 : lo.take gr.length = lo := List.take_of_length_le (by have := Hhlo.out; omega)
      rw [e1] at hs
      rw [e2] at hm
      obtain ⟨as1, cs1, rfl⟩ := row_len hs
      obtain ⟨am, cm, rfl⟩ := row_len hm
      clear e1 e2
      have Hhs := Lib.hid hs; clear hs; have Hhm := Lib.hid hm; clear hm; have Hhsep := Lib.hid hsep; clear hsep; have Hhb := Lib.hid hb; clear hb
      go_wp2_with fail
      go_ret3
      exact ⟨_, _, lo, hi, rfl, HhS1.out, HhS2.out, row_mono Hhs.out Hhbw2.out.size, row_mono Hhm.out Hhbw2.out.size, bl_step Hhbw2.out Hhb.out⟩
end Go.Proofs.Ytfbmjecikilghaa
