/- The heap: the first element is taken. -/
import Derived.Test.YtfbmjecikilghaaSpan
import Derived.WalkSmall
namespace Go.Proofs.Ytfbmjecikilghaa
open Go.RowKit

/-- The result's cell and the taken element, beside the heap. -/
structure TakeM (base q g cap : Nat) (S : List Nat) (w : World) (x1 x2 : Int) (l : List (Int × Int)) (wr : World) : Prop where
  heap : HeapM base q wr (.slice (some ⟨g, 0, none⟩) l.length cap) l
  res : wr.heap[w.heap.size]? = some (.cells #[.int .i64 0, .int .i64 0] 137 (0, 0))
  elem : wr.heap[w.heap.size + 1]? = some (.cells #[.int .i64 x1, .int .i64 x2] 137 (0, 0))
  keeps : Keeps S w wr
theorem TakeM.below {base q g cap : Nat} {S : List Nat} {w : World} {x1 x2 : Int} {l : List (Int × Int)} {wr W : World} (h : TakeM base q g cap S w x1 x2 l wr) (hb : Below wr.heap.size wr W) : TakeM base q g cap S w x1 x2 l W :=
  ⟨h.heap.below hb, heap_below hb h.res, heap_below hb h.elem, h.keeps.stepB hb⟩

def TakeI (base q g cap : Nat) (S : List Nat) (w : World) (x1 x2 : Int) (t : List (Int × Int)) (i : Value) (wr : World) : Prop :=
  ∃ (k : Nat) (l' : List (Int × Int)), i = .int .i64 k ∧ (k = 0 ∨ k < l'.length) ∧ l'.Perm t ∧ TakeM base q g cap S w x1 x2 l' wr

theorem takeI_mk {base q g cap : Nat} {S : List Nat} {w : World} {x1 x2 : Int} {t l2 : List (Int × Int)} {c : Int} {W : World} (c0 : 0 ≤ c) (hk : c.toNat < l2.length) (hp : l2.Perm t) (hT : TakeM base q g cap S w x1 x2 l2 W) : TakeI base q g cap S w x1 x2 t (.int .i64 c) W :=
  ⟨c.toNat, l2, by rw [Int.toNat_of_nonneg c0], .inr hk, hp, hT⟩
/-- Between the two below. -/
def DownI (ii n : Int) (wo : World) (j kk : Value) (wr : World) : Prop :=
  ∃ (m : Nat) (c : Int), m ≤ 2 ∧ j = .int .i64 m ∧ kk = .int .i64 c ∧ (c = ii ∨ (ii < c ∧ c < n)) ∧ Below wo.heap.size wo wr

theorem grownBy_setAt (W : World) (b o : Nat) (v : Value) : W.grownBy (W.setCell ⟨b, o, none⟩ v) (some b) :=
  ⟨rfl, rfl, rfl, (KeepsWalks.setCell W _ v).size, fun k _ hk => Below.heap_setCell _ _ _ k (fun e => hk (by rw [e]))⟩
theorem row_cap {w : World} {base size n g cap : Nat} {e : TypeId} {xs : List Value} (h : w.ownsRow base e size (.slice (some ⟨g, 0, none⟩) n cap) n xs) : n ≤ cap := by
  rcases h.2 with ⟨h1, _⟩ | ⟨g', cap', cur, h1, _, _, h2, _⟩
  · cases h1
  · cases h1; exact h2

theorem pop_row {w : World} {base g cap : Nat} {l : List (Int × Int)} {z : Int × Int} (h : w.ownsRow base 137 2 (.slice (some ⟨g, 0, none⟩) (l ++ [z]).length cap) (l ++ [z]).length (wcells (l ++ [z]))) :
    w.ownsRow base 137 2 (.slice (some ⟨g, 0, none⟩) l.length cap) l.length (wcells l) := by
  have e : (l ++ [z]).length = l.length + 1 := by simp
  rw [e, show z = (z.1, z.2) from rfl, wcells_snoc] at h
  exact ownsRow_pop (wcells_length l) h

set_option maxHeartbeats 4000000 in
set_option maxRecDepth 100000 in
theorem take_ok (base q : Nat) (v : Value) (x : Int × Int) (t : List (Int × Int)) (w : World) (hH : HeapM base q w v (x :: t)) (hf : t.length < 68719476736) :
    Calls Try.prog 74 #[.pointer (some ⟨q, 0, none⟩)] w fun e w' => e = .returned (.agg #[.int .i64 (x.1), .int .i64 (x.2)]) ∧
      ∃ v' l', l'.Perm t ∧ HeapM base q w' v' l' ∧ Keeps (q :: v.ownBlock.toList) w w' ∧ v'.ownBlock = v.ownBlock := by
  obtain ⟨g, cap, rfl, hbg, hgl, hgq, hel⟩ := hH.at (by simp)
  obtain ⟨x1, x2⟩ := x
  have hbx := hH.box
  have hbxc := cells_of hbx
  have hbxf := frozen_of hbx
  have hbxl := lt_of_heap hbx
  have hrf := hH.row.frozenAt
  have hcap := row_cap hH.row
  rw [List.length_cons] at hcap
  obtain ⟨hx1, hx2⟩ := hel 0 (by simp)
  simp only [List.getElem_cons_zero, Nat.zero_mul, Nat.zero_add] at hx1 hx2
  obtain ⟨z1, hz1⟩ : ∃ z, ((x1, x2) :: t)[t.length].1 = z := ⟨_, rfl⟩
  obtain ⟨z2, hz2⟩ : ∃ z, ((x1, x2) :: t)[t.length].2 = z := ⟨_, rfl⟩
  obtain ⟨hl1, hl2⟩ := hel t.length (by simp)
  rw [hz1] at hl1
  rw [hz2] at hl2
  have hz : ((x1, x2) :: t)[t.length] = (z1, z2) := by rw [← hz1, ← hz2]
  have hperm := head_perm (x1, x2) t
  rw [hz] at hperm
  obtain ⟨n, hn⟩ : ∃ n : Int, (t.length : Int) = n := ⟨_, rfl⟩
  have hnt : t.length = n.toNat := by omega
  rw [hnt] at hl1 hl2
  have hlen : ((x1, x2) :: t).length = t.length + 1 := rfl
  have n0 : 0 ≤ n := by omega
  have n1 : n < 68719476736 := by omega
  have hw1 : ((((x1, x2) :: t).length : Nat) : Int) = n + 1 := by rw [hlen]; omega
  rw [List.length_cons] at hbxc hbx
  have hcap1 : n.toNat ≤ cap := by omega
  have hcap2 : n ≤ (cap : Int) := by omega
  have hcl : ((t.length + 1 : Nat) : Int) = n + 1 := by omega
  clear hel hz1 hz2
  clear hcl
  have HhH := Lib.hid hH; clear hH; have Hhbx := Lib.hid hbx; clear hbx; have Hhnt := Lib.hid hnt; clear hnt; have Hhlen := Lib.hid hlen; clear hlen; have Hhw1 := Lib.hid hw1; clear hw1; have Hhperm := Lib.hid hperm; clear hperm; have Hhz := Lib.hid hz; clear hz
  go_enter Try.func74, Try.ntmps74
  go_upto_region 1 with fail
  go_region
  go_wp2_with fail
  go_region
  go_wp2_with fail
  obtain ⟨l0, hl0⟩ : ∃ l0, (((x1, x2) :: t).set 0 (z1, z2)).dropLast = l0 := ⟨_, rfl⟩
  have hl0n : l0.length = n.toNat := by rw [← hl0]; simp; omega
  have hTM : TakeM base q g cap [q, g] w x1 x2 l0 ((((((w.setCell ⟨g, 0, none⟩ (.int .i64 z1)).setCell ⟨g, 1, none⟩ (.int .i64 z2)).setCell ⟨q, 0, none⟩ (.slice (some ⟨g, 0, none⟩) n.toNat cap)).alloc (.cells #[.int .i64 0, .int .i64 0] 137)).alloc (.cells #[.int .i64 x1, .int .i64 x2] 137)).drew.drew) := by
    have a1 := HhH.out.write hgq (k := 0) (by simp) z1 z2
    have a2 : ((x1, x2) :: t).set 0 (z1, z2) = l0 ++ [(((x1, x2) :: t).set 0 (z1, z2)).getLast (by simp)] := by rw [← hl0]; exact (List.dropLast_concat_getLast _).symm
    have a3 := a1.row
    rw [a2] at a3
    have a4 := pop_row a3
    have a5 := HeapM.setBox (W := ((w.setCell ⟨g, 0, none⟩ (.int .i64 z1)).setCell ⟨g, 1, none⟩ (.int .i64 z2))) a1.box a4
    rw [← hl0n]
    refine ⟨a5.below (by repeat (first | exact Below.refl _ _ | (refine bl_setCell ?_ _ _ ?_; rotate_left; focus (first | omega | (simp; done) | (simp; omega))) | refine bl_alloc ?_ _ | refine bl_step ?_ (by assumption) | refine bl_drew ?_ | refine bl_drewN ?_ _)), ?_, ?_, ?_⟩
    · exact heap_drew' (heap_drew' (heap_alloc_off (heap_alloc_at' _ _ (by simp)) _))
    · exact heap_drew' (heap_drew' (heap_alloc_at' _ _ (by simp)))
    · exact ((((((Keeps.refl _ w).toSet _ _ (.inl (by simp))).toSet _ _ (.inl (by simp))).toSet _ _ (.inl (by simp))).alloc _).alloc _).drew.drew
  generalize (((((w.setCell ⟨g, 0, none⟩ (.int .i64 z1)).setCell ⟨g, 1, none⟩ (.int .i64 z2)).setCell ⟨q, 0, none⟩ (.slice (some ⟨g, 0, none⟩) n.toNat cap)).alloc (.cells #[.int .i64 0, .int .i64 0] 137)).alloc (.cells #[.int .i64 x1, .int .i64 x2] 137)).drew.drew = ws at hTM ⊢
  have hp0 : l0.Perm t := by rw [← hl0]; exact Hhperm.out
  clear hbxc hbxf hrf hx1 hx2 hl1 hl2 hl0
  have HhTM := Lib.hid hTM; clear hTM; have Hhp0 := Lib.hid hp0; clear hp0; have Hhl0n := Lib.hid hl0n; clear hl0n
  go_loopw [5] (fun i wr => TakeI base q g cap [q, g] w x1 x2 t i wr) (fun i _ => t.length - (intOf i).toNat)
  case atStart => exact ⟨0, l0, rfl, .inl rfl, Hhp0.out, HhTM.out⟩
  case round =>
    obtain ⟨k, l', rfl, hk, hp, hT⟩ := hrel
    have hlen' := hp.length_eq
    have hbx := hT.heap.box
    have hbxc := cells_of hbx
    have hbl := lt_of_heap hbx
    obtain ⟨ii, hii⟩ : ∃ i : Int, (k : Int) = i := ⟨_, rfl⟩
    have i0 : 0 ≤ ii := by omega
    have i1 : ii ≤ 68719476736 := by omega
    have i2 : ii ≤ n := by omega
    rw [hii]
    clear hbxc
    have Hhk := Lib.hid hk; clear hk; have Hhp := Lib.hid hp; clear hp; have HhT := Lib.hid hT; clear hT; have Hhbx := Lib.hid hbx; clear hbx; have Hhii := Lib.hid hii; clear hii; have Hhlen' := Lib.hid hlen'; clear hlen'
    go_wp2_with fail
    have hTo := HhT.out.below (show Below wr.heap.size wr (wr.alloc (.cells #[.int .i64 (2 * ii + 1), .int .i64 (2 * ii + 2)] 3)) from (by repeat (first | exact Below.refl _ _ | (refine bl_setCell ?_ _ _ ?_; rotate_left; focus (first | omega | (simp; done) | (simp; omega))) | refine bl_alloc ?_ _ | refine bl_step ?_ (by assumption) | refine bl_drew ?_ | refine bl_drewN ?_ _)))
    have hbo : (wr.alloc (.cells #[.int .i64 (2 * ii + 1), .int .i64 (2 * ii + 2)] 3)).heap[wr.heap.size]? = some (.cells #[.int .i64 (2 * ii + 1), .int .i64 (2 * ii + 2)] 3 (0, 0)) := heap_alloc_at _ _
    generalize (wr.alloc (.cells #[.int .i64 (2 * ii + 1), .int .i64 (2 * ii + 2)] 3)) = wo at hTo hbo ⊢
    generalize wr.heap.size = q49 at hbo ⊢
    have hbol := lt_of_heap hbo
    obtain ⟨d1, hd1⟩ : ∃ d, 2 * ii + 1 = d := ⟨_, rfl⟩
    obtain ⟨d2, hd2⟩ : ∃ d, 2 * ii + 2 = d := ⟨_, rfl⟩
    rw [hd1, hd2] at hbo
    have d10 : 0 ≤ d1 := by omega
    have d20 : 0 ≤ d2 := by omega
    have d11 : ii < d1 := by omega
    have d21 : ii < d2 := by omega
    have d12 : d1 ≤ 200000000000 := by omega
    have d22 : d2 ≤ 200000000000 := by omega
    have HhTo := Lib.hid hTo; clear hTo; have Hhbo := Lib.hid hbo; clear hbo; have Hhd1 := Lib.hid hd1; clear hd1; have Hhd2 := Lib.hid hd2; clear hd2
    go_loopw [51, 6] (fun j kk wx => DownI ii n wo j kk wx) (fun j _ _ => 2 - (intOf j).toNat)
    case atStart => exact ⟨0, ii, by omega, rfl, rfl, .inl rfl, Below.refl _ _⟩
    case round =>
      obtain ⟨m, c, hm, rfl, rfl, hc, hB⟩ := hrel
      have hT2 := HhTo.out.below hB
      have hb2 := heap_below hB Hhbo.out
      have hb2c := cells_of hb2
      have hbx2 := hT2.heap.box
      have hbx2c := cells_of hbx2
      have hl2 := lt_of_heap hbx2
      have c0 : 0 ≤ c := by omega
      have c1 : c ≤ 68719476736 := by omega
      have hm3 : m = 0 ∨ m = 1 ∨ m = 2 := by omega
      rcases hm3 with rfl | rfl | rfl
      · as_aux_lemma =>
        by_cases hcn : d1 < n
        · have hd0 : decide (d1 < n) = true := by simpa using hcn
          obtain ⟨g', cap', hv', _, hgl2, _, hel⟩ := hT2.heap.at (by have := Hhlen'.out; omega)
          obtain ⟨rfl, rfl⟩ : g = g' ∧ cap = cap' := by simpa using hv'
          clear hv'
          have hL := Hhlen'.out
          have ka : d1.toNat < l'.length := by omega
          have kb : c.toNat < l'.length := by omega
          obtain ⟨u1, hu1⟩ : ∃ u, l'[d1.toNat].1 = u := ⟨_, rfl⟩
          obtain ⟨u2, hu2⟩ : ∃ u, l'[d1.toNat].2 = u := ⟨_, rfl⟩
          obtain ⟨y1, hy1⟩ : ∃ u, l'[c.toNat].1 = u := ⟨_, rfl⟩
          obtain ⟨y2, hy2⟩ : ∃ u, l'[c.toNat].2 = u := ⟨_, rfl⟩
          obtain ⟨fa, fb⟩ := hel d1.toNat ka
          obtain ⟨fc, fd⟩ := hel c.toNat kb
          rw [hu1] at fa
          rw [hu2] at fb
          rw [hy1] at fc
          rw [hy2] at fd
          have ll : (l'.length : Int) = n := by omega
          have hln : l'.length = n.toNat := by omega
          have hI : Below wr.heap.size wr wr.drew := (Below.refl _ _).drew
          clear hel hu1 hu2 hy1 hy2 ka kb hL
          rw [hln] at hbx2c
          have nn : ((n.toNat : Nat) : Int) = n := by omega
          have cn : c < n := by omega
          have HhT2 := Lib.hid hT2; clear hT2; have Hhb2 := Lib.hid hb2; clear hb2; have Hhbx2 := Lib.hid hbx2; clear hbx2; have HhB := Lib.hid hB; clear hB; have Hhc := Lib.hid hc; clear hc; have Hll := Lib.hid ll; clear ll; have Hhln := Lib.hid hln; clear hln
          go_upto_region 9 with fail
          refine wp_region_ord (fun W => Below wr.heap.size wr W) [([0, 1, 2, 3, 4, 5, 6, 7, 8, 9, 10, 11, 12, 13, 14, 15, 16, 17, 18, 19, 20, 21], 22)] [23] none (by kernel_rfl) (by kernel_rfl) hI ?_
          refine OrdI_cons ?_
          (apply StI_plain (w0 := wr.drew) hI rfl rfl rfl rfl; (focus (intro W hW K hK; obtain ⟨_, _⟩ := bk q hW hl2; obtain ⟨_, _⟩ := bk g hW hgl2; go_step; exact hK)); (focus rfl)); (apply StI_plain (w0 := wr.drew) hI rfl rfl rfl rfl; (focus (intro W hW K hK; obtain ⟨_, _⟩ := bk q hW hl2; obtain ⟨_, _⟩ := bk g hW hgl2; go_step; exact hK)); (focus rfl)); (apply StI_plain (w0 := wr.drew) hI rfl rfl rfl rfl; (focus (intro W hW K hK; obtain ⟨_, _⟩ := bk q hW hl2; obtain ⟨_, _⟩ := bk g hW hgl2; go_step; exact hK)); (focus rfl)); (apply StI_plain (w0 := wr.drew) hI rfl rfl rfl rfl; (focus (intro W hW K hK; obtain ⟨_, _⟩ := bk q hW hl2; obtain ⟨_, _⟩ := bk g hW hgl2; go_step; exact hK)); (focus rfl)); (apply StI_yes (w0 := wr.drew) hI; (focus rfl); (focus rfl); (focus rfl); (focus rfl); (focus rfl); (focus rfl); (focus rfl); (focus (intro W hW K hK; obtain ⟨_, _⟩ := bk q hW hl2; obtain ⟨_, _⟩ := bk g hW hgl2; go_step; exact hK)); (focus rfl)); (apply StI_yes (w0 := wr.drew) hI; (focus rfl); (focus rfl); (focus rfl); (focus rfl); (focus rfl); (focus rfl); (focus rfl); (focus (intro W hW K hK; obtain ⟨_, _⟩ := bk q hW hl2; obtain ⟨_, _⟩ := bk g hW hgl2; go_step; exact hK)); (focus rfl)); (apply StI_yes (w0 := wr.drew) hI; (focus rfl); (focus rfl); (focus rfl); (focus rfl); (focus rfl); (focus rfl); (focus rfl); (focus (intro W hW K hK; obtain ⟨_, _⟩ := bk q hW hl2; obtain ⟨_, _⟩ := bk g hW hgl2; go_step; exact hK)); (focus rfl)); (apply StI_yes (w0 := wr.drew) hI; (focus rfl); (focus rfl); (focus rfl); (focus rfl); (focus rfl); (focus rfl); (focus rfl); (focus (intro W hW K hK; obtain ⟨_, _⟩ := bk q hW hl2; obtain ⟨_, _⟩ := bk g hW hgl2; go_step; exact hK)); (focus rfl)); (apply StI_yes (w0 := wr.drew) hI; (focus rfl); (focus rfl); (focus rfl); (focus rfl); (focus rfl); (focus rfl); (focus rfl); (focus (intro W hW K hK; obtain ⟨_, _⟩ := bk q hW hl2; obtain ⟨_, _⟩ := bk g hW hgl2; go_step; exact hK)); (focus rfl)); (apply StI_yes (w0 := wr.drew) hI; (focus rfl); (focus rfl); (focus rfl); (focus rfl); (focus rfl); (focus rfl); (focus rfl); (focus (intro W hW K hK; obtain ⟨_, _⟩ := bk q hW hl2; obtain ⟨_, _⟩ := bk g hW hgl2; go_step; exact hK)); (focus rfl)); (apply StI_yes (w0 := wr.drew) hI; (focus rfl); (focus rfl); (focus rfl); (focus rfl); (focus rfl); (focus rfl); (focus rfl); (focus (intro W hW K hK; obtain ⟨_, _⟩ := bk q hW hl2; obtain ⟨_, _⟩ := bk g hW hgl2; go_step; exact hK)); (focus rfl)); (apply StI_yes (w0 := wr.drew) hI; (focus rfl); (focus rfl); (focus rfl); (focus rfl); (focus rfl); (focus rfl); (focus rfl); (focus (intro W hW K hK; obtain ⟨_, _⟩ := bk q hW hl2; obtain ⟨_, _⟩ := bk g hW hgl2; go_step; exact hK)); (focus rfl)); (apply StI_yes (w0 := wr.drew) hI; (focus rfl); (focus rfl); (focus rfl); (focus rfl); (focus rfl); (focus rfl); (focus rfl); (focus (intro W hW K hK; obtain ⟨_, _⟩ := bk q hW hl2; obtain ⟨_, _⟩ := bk g hW hgl2; go_step; exact hK)); (focus rfl)); (apply StI_yes (w0 := wr.drew) hI; (focus rfl); (focus rfl); (focus rfl); (focus rfl); (focus rfl); (focus rfl); (focus rfl); (focus (intro W hW K hK; obtain ⟨_, _⟩ := bk q hW hl2; obtain ⟨_, _⟩ := bk g hW hgl2; go_step; exact hK)); (focus rfl)); (apply StI_yes (w0 := wr.drew) hI; (focus rfl); (focus rfl); (focus rfl); (focus rfl); (focus rfl); (focus rfl); (focus rfl); (focus (intro W hW K hK; obtain ⟨_, _⟩ := bk q hW hl2; obtain ⟨_, _⟩ := bk g hW hgl2; go_step; exact hK)); (focus rfl)); (apply StI_yes (w0 := wr.drew) hI; (focus rfl); (focus rfl); (focus rfl); (focus rfl); (focus rfl); (focus rfl); (focus rfl); (focus (intro W hW K hK; obtain ⟨_, _⟩ := bk q hW hl2; obtain ⟨_, _⟩ := bk g hW hgl2; go_step; exact hK)); (focus rfl)); (apply StI_yes (w0 := wr.drew) hI; (focus rfl); (focus rfl); (focus rfl); (focus rfl); (focus rfl); (focus rfl); (focus rfl); (focus (intro W hW K hK; obtain ⟨_, _⟩ := bk q hW hl2; obtain ⟨_, _⟩ := bk g hW hgl2; go_step; exact hK)); (focus rfl)); (apply StI_yes (w0 := wr.drew) hI; (focus rfl); (focus rfl); (focus rfl); (focus rfl); (focus rfl); (focus rfl); (focus rfl); (focus (intro W hW K hK; obtain ⟨_, _⟩ := bk q hW hl2; obtain ⟨_, _⟩ := bk g hW hgl2; go_step; exact hK)); (focus rfl)); (apply StI_yes (w0 := wr.drew) hI; (focus rfl); (focus rfl); (focus rfl); (focus rfl); (focus rfl); (focus rfl); (focus rfl); (focus (intro W hW K hK; obtain ⟨_, _⟩ := bk q hW hl2; obtain ⟨_, _⟩ := bk g hW hgl2; go_step; exact hK)); (focus rfl)); (apply StI_yes (w0 := wr.drew) hI; (focus rfl); (focus rfl); (focus rfl); (focus rfl); (focus rfl); (focus rfl); (focus rfl); (focus (intro W hW K hK; obtain ⟨_, _⟩ := bk q hW hl2; obtain ⟨_, _⟩ := bk g hW hgl2; go_step; exact hK)); (focus rfl)); (apply StI_yes (w0 := wr.drew) hI; (focus rfl); (focus rfl); (focus rfl); (focus rfl); (focus rfl); (focus rfl); (focus rfl); (focus (intro W hW K hK; obtain ⟨_, _⟩ := bk q hW hl2; obtain ⟨_, _⟩ := bk g hW hgl2; go_step; exact hK)); (focus rfl)); (apply StI_yes (w0 := wr.drew) hI; (focus rfl); (focus rfl); (focus rfl); (focus rfl); (focus rfl); (focus rfl); (focus rfl); (focus (intro W hW K hK; obtain ⟨_, _⟩ := bk q hW hl2; obtain ⟨_, _⟩ := bk g hW hgl2; go_step; exact hK)); (focus rfl))
          (apply StI_eff rfl; go_wp2_with (first | (go_at_call 71; refine (before_any u1 u2 y1 y2 _).mono ?_; rintro e w1 ⟨rfl, hb1⟩)))
          have hI1 : Below wr.heap.size wr w1 := below_mid hI (Nat.le_refl _) hb1
          refine onNormal_mk hI1 (OrdI_fin ?_)
          (apply StI_plain (w0 := w1) hI1 rfl rfl rfl rfl; (focus (intro W hW K hK; skip; go_step; exact hK)); (focus rfl))
          refine StI_nil ?_
          have hB1 := bl_step HhB.out hI1
          clear hb2c hbx2c fa fb fc fd hI hb1
          by_cases hlt : u2 < y2
          · have hd : decide (u2 < y2) = true := by simpa using hlt
            rw [hd]
            have HhI1 := Lib.hid hI1; clear hI1; have HhB1 := Lib.hid hB1; clear hB1
            go_wp2_with fail
            exact ⟨⟨0 + 1, d1, by omega, by go_num, rfl, .inr ⟨by omega, by omega⟩, HhB1.out⟩, by simp [intOf]⟩
          · have hd : decide (u2 < y2) = false := by simpa using hlt
            rw [hd]
            have HhI1 := Lib.hid hI1; clear hI1; have HhB1 := Lib.hid hB1; clear hB1
            go_wp2_with fail
            exact ⟨⟨0 + 1, c, by omega, by go_num, rfl, Hhc.out, HhB1.out⟩, by simp [intOf]⟩
        · have hd0 : decide (d1 < n) = false := by simpa using hcn
          have hln : l'.length = n.toNat := by have := Hhlen'.out; omega
          rw [hln] at hbx2c
          have HhT2 := Lib.hid hT2; clear hT2; have Hhb2 := Lib.hid hb2; clear hb2; have Hhbx2 := Lib.hid hbx2; clear hbx2; have HhB := Lib.hid hB; clear hB; have Hhc := Lib.hid hc; clear hc; have Hhln := Lib.hid hln; clear hln
          go_upto_region 9 with fail
          go_quiet (fail)
          go_wp2_with fail
          exact ⟨⟨0 + 1, c, by omega, by go_num, rfl, Hhc.out, bl_drewN HhB.out nq⟩, by simp [intOf]⟩
      · as_aux_lemma =>
        by_cases hcn : d2 < n
        · have hd0 : decide (d2 < n) = true := by simpa using hcn
          obtain ⟨g', cap', hv', _, hgl2, _, hel⟩ := hT2.heap.at (by have := Hhlen'.out; omega)
          obtain ⟨rfl, rfl⟩ : g = g' ∧ cap = cap' := by simpa using hv'
          clear hv'
          have hL := Hhlen'.out
          have ka : d2.toNat < l'.length := by omega
          have kb : c.toNat < l'.length := by omega
          obtain ⟨u1, hu1⟩ : ∃ u, l'[d2.toNat].1 = u := ⟨_, rfl⟩
          obtain ⟨u2, hu2⟩ : ∃ u, l'[d2.toNat].2 = u := ⟨_, rfl⟩
          obtain ⟨y1, hy1⟩ : ∃ u, l'[c.toNat].1 = u := ⟨_, rfl⟩
          obtain ⟨y2, hy2⟩ : ∃ u, l'[c.toNat].2 = u := ⟨_, rfl⟩
          obtain ⟨fa, fb⟩ := hel d2.toNat ka
          obtain ⟨fc, fd⟩ := hel c.toNat kb
          rw [hu1] at fa
          rw [hu2] at fb
          rw [hy1] at fc
          rw [hy2] at fd
          have ll : (l'.length : Int) = n := by omega
          have hln : l'.length = n.toNat := by omega
          have hI : Below wr.heap.size wr wr.drew := (Below.refl _ _).drew
          clear hel hu1 hu2 hy1 hy2 ka kb hL
          rw [hln] at hbx2c
          have nn : ((n.toNat : Nat) : Int) = n := by omega
          have cn : c < n := by omega
          have HhT2 := Lib.hid hT2; clear hT2; have Hhb2 := Lib.hid hb2; clear hb2; have Hhbx2 := Lib.hid hbx2; clear hbx2; have HhB := Lib.hid hB; clear hB; have Hhc := Lib.hid hc; clear hc; have Hll := Lib.hid ll; clear ll; have Hhln := Lib.hid hln; clear hln
          go_upto_region 9 with fail
          refine wp_region_ord (fun W => Below wr.heap.size wr W) [([0, 1, 2, 3, 4, 5, 6, 7, 8, 9, 10, 11, 12, 13, 14, 15, 16, 17, 18, 19, 20, 21], 22)] [23] none (by kernel_rfl) (by kernel_rfl) hI ?_
          refine OrdI_cons ?_
          (apply StI_plain (w0 := wr.drew) hI rfl rfl rfl rfl; (focus (intro W hW K hK; obtain ⟨_, _⟩ := bk q hW hl2; obtain ⟨_, _⟩ := bk g hW hgl2; go_step; exact hK)); (focus rfl)); (apply StI_plain (w0 := wr.drew) hI rfl rfl rfl rfl; (focus (intro W hW K hK; obtain ⟨_, _⟩ := bk q hW hl2; obtain ⟨_, _⟩ := bk g hW hgl2; go_step; exact hK)); (focus rfl)); (apply StI_plain (w0 := wr.drew) hI rfl rfl rfl rfl; (focus (intro W hW K hK; obtain ⟨_, _⟩ := bk q hW hl2; obtain ⟨_, _⟩ := bk g hW hgl2; go_step; exact hK)); (focus rfl)); (apply StI_plain (w0 := wr.drew) hI rfl rfl rfl rfl; (focus (intro W hW K hK; obtain ⟨_, _⟩ := bk q hW hl2; obtain ⟨_, _⟩ := bk g hW hgl2; go_step; exact hK)); (focus rfl)); (apply StI_yes (w0 := wr.drew) hI; (focus rfl); (focus rfl); (focus rfl); (focus rfl); (focus rfl); (focus rfl); (focus rfl); (focus (intro W hW K hK; obtain ⟨_, _⟩ := bk q hW hl2; obtain ⟨_, _⟩ := bk g hW hgl2; go_step; exact hK)); (focus rfl)); (apply StI_yes (w0 := wr.drew) hI; (focus rfl); (focus rfl); (focus rfl); (focus rfl); (focus rfl); (focus rfl); (focus rfl); (focus (intro W hW K hK; obtain ⟨_, _⟩ := bk q hW hl2; obtain ⟨_, _⟩ := bk g hW hgl2; go_step; exact hK)); (focus rfl)); (apply StI_yes (w0 := wr.drew) hI; (focus rfl); (focus rfl); (focus rfl); (focus rfl); (focus rfl); (focus rfl); (focus rfl); (focus (intro W hW K hK; obtain ⟨_, _⟩ := bk q hW hl2; obtain ⟨_, _⟩ := bk g hW hgl2; go_step; exact hK)); (focus rfl)); (apply StI_yes (w0 := wr.drew) hI; (focus rfl); (focus rfl); (focus rfl); (focus rfl); (focus rfl); (focus rfl); (focus rfl); (focus (intro W hW K hK; obtain ⟨_, _⟩ := bk q hW hl2; obtain ⟨_, _⟩ := bk g hW hgl2; go_step; exact hK)); (focus rfl)); (apply StI_yes (w0 := wr.drew) hI; (focus rfl); (focus rfl); (focus rfl); (focus rfl); (focus rfl); (focus rfl); (focus rfl); (focus (intro W hW K hK; obtain ⟨_, _⟩ := bk q hW hl2; obtain ⟨_, _⟩ := bk g hW hgl2; go_step; exact hK)); (focus rfl)); (apply StI_yes (w0 := wr.drew) hI; (focus rfl); (focus rfl); (focus rfl); (focus rfl); (focus rfl); (focus rfl); (focus rfl); (focus (intro W hW K hK; obtain ⟨_, _⟩ := bk q hW hl2; obtain ⟨_, _⟩ := bk g hW hgl2; go_step; exact hK)); (focus rfl)); (apply StI_yes (w0 := wr.drew) hI; (focus rfl); (focus rfl); (focus rfl); (focus rfl); (focus rfl); (focus rfl); (focus rfl); (focus (intro W hW K hK; obtain ⟨_, _⟩ := bk q hW hl2; obtain ⟨_, _⟩ := bk g hW hgl2; go_step; exact hK)); (focus rfl)); (apply StI_yes (w0 := wr.drew) hI; (focus rfl); (focus rfl); (focus rfl); (focus rfl); (focus rfl); (focus rfl); (focus rfl); (focus (intro W hW K hK; obtain ⟨_, _⟩ := bk q hW hl2; obtain ⟨_, _⟩ := bk g hW hgl2; go_step; exact hK)); (focus rfl)); (apply StI_yes (w0 := wr.drew) hI; (focus rfl); (focus rfl); (focus rfl); (focus rfl); (focus rfl); (focus rfl); (focus rfl); (focus (intro W hW K hK; obtain ⟨_, _⟩ := bk q hW hl2; obtain ⟨_, _⟩ := bk g hW hgl2; go_step; exact hK)); (focus rfl)); (apply StI_yes (w0 := wr.drew) hI; (focus rfl); (focus rfl); (focus rfl); (focus rfl); (focus rfl); (focus rfl); (focus rfl); (focus (intro W hW K hK; obtain ⟨_, _⟩ := bk q hW hl2; obtain ⟨_, _⟩ := bk g hW hgl2; go_step; exact hK)); (focus rfl)); (apply StI_yes (w0 := wr.drew) hI; (focus rfl); (focus rfl); (focus rfl); (focus rfl); (focus rfl); (focus rfl); (focus rfl); (focus (intro W hW K hK; obtain ⟨_, _⟩ := bk q hW hl2; obtain ⟨_, _⟩ := bk g hW hgl2; go_step; exact hK)); (focus rfl)); (apply StI_yes (w0 := wr.drew) hI; (focus rfl); (focus rfl); (focus rfl); (focus rfl); (focus rfl); (focus rfl); (focus rfl); (focus (intro W hW K hK; obtain ⟨_, _⟩ := bk q hW hl2; obtain ⟨_, _⟩ := bk g hW hgl2; go_step; exact hK)); (focus rfl)); (apply StI_yes (w0 := wr.drew) hI; (focus rfl); (focus rfl); (focus rfl); (focus rfl); (focus rfl); (focus rfl); (focus rfl); (focus (intro W hW K hK; obtain ⟨_, _⟩ := bk q hW hl2; obtain ⟨_, _⟩ := bk g hW hgl2; go_step; exact hK)); (focus rfl)); (apply StI_yes (w0 := wr.drew) hI; (focus rfl); (focus rfl); (focus rfl); (focus rfl); (focus rfl); (focus rfl); (focus rfl); (focus (intro W hW K hK; obtain ⟨_, _⟩ := bk q hW hl2; obtain ⟨_, _⟩ := bk g hW hgl2; go_step; exact hK)); (focus rfl)); (apply StI_yes (w0 := wr.drew) hI; (focus rfl); (focus rfl); (focus rfl); (focus rfl); (focus rfl); (focus rfl); (focus rfl); (focus (intro W hW K hK; obtain ⟨_, _⟩ := bk q hW hl2; obtain ⟨_, _⟩ := bk g hW hgl2; go_step; exact hK)); (focus rfl)); (apply StI_yes (w0 := wr.drew) hI; (focus rfl); (focus rfl); (focus rfl); (focus rfl); (focus rfl); (focus rfl); (focus rfl); (focus (intro W hW K hK; obtain ⟨_, _⟩ := bk q hW hl2; obtain ⟨_, _⟩ := bk g hW hgl2; go_step; exact hK)); (focus rfl)); (apply StI_yes (w0 := wr.drew) hI; (focus rfl); (focus rfl); (focus rfl); (focus rfl); (focus rfl); (focus rfl); (focus rfl); (focus (intro W hW K hK; obtain ⟨_, _⟩ := bk q hW hl2; obtain ⟨_, _⟩ := bk g hW hgl2; go_step; exact hK)); (focus rfl)); (apply StI_yes (w0 := wr.drew) hI; (focus rfl); (focus rfl); (focus rfl); (focus rfl); (focus rfl); (focus rfl); (focus rfl); (focus (intro W hW K hK; obtain ⟨_, _⟩ := bk q hW hl2; obtain ⟨_, _⟩ := bk g hW hgl2; go_step; exact hK)); (focus rfl))
          (apply StI_eff rfl; go_wp2_with (first | (go_at_call 71; refine (before_any u1 u2 y1 y2 _).mono ?_; rintro e w1 ⟨rfl, hb1⟩)))
          have hI1 : Below wr.heap.size wr w1 := below_mid hI (Nat.le_refl _) hb1
          refine onNormal_mk hI1 (OrdI_fin ?_)
          (apply StI_plain (w0 := w1) hI1 rfl rfl rfl rfl; (focus (intro W hW K hK; skip; go_step; exact hK)); (focus rfl))
          refine StI_nil ?_
          have hB1 := bl_step HhB.out hI1
          clear hb2c hbx2c fa fb fc fd hI hb1
          by_cases hlt : u2 < y2
          · have hd : decide (u2 < y2) = true := by simpa using hlt
            rw [hd]
            have HhI1 := Lib.hid hI1; clear hI1; have HhB1 := Lib.hid hB1; clear hB1
            go_wp2_with fail
            exact ⟨⟨1 + 1, d2, by omega, by go_num, rfl, .inr ⟨by omega, by omega⟩, HhB1.out⟩, by simp [intOf]⟩
          · have hd : decide (u2 < y2) = false := by simpa using hlt
            rw [hd]
            have HhI1 := Lib.hid hI1; clear hI1; have HhB1 := Lib.hid hB1; clear hB1
            go_wp2_with fail
            exact ⟨⟨1 + 1, c, by omega, by go_num, rfl, Hhc.out, HhB1.out⟩, by simp [intOf]⟩
        · have hd0 : decide (d2 < n) = false := by simpa using hcn
          have hln : l'.length = n.toNat := by have := Hhlen'.out; omega
          rw [hln] at hbx2c
          have HhT2 := Lib.hid hT2; clear hT2; have Hhb2 := Lib.hid hb2; clear hb2; have Hhbx2 := Lib.hid hbx2; clear hbx2; have HhB := Lib.hid hB; clear hB; have Hhc := Lib.hid hc; clear hc; have Hhln := Lib.hid hln; clear hln
          go_upto_region 9 with fail
          go_quiet (fail)
          go_wp2_with fail
          exact ⟨⟨1 + 1, c, by omega, by go_num, rfl, Hhc.out, bl_drewN HhB.out nq⟩, by simp [intOf]⟩
      · as_aux_lemma =>
        have hTx := HhTo.out.below hB
        have hK2 := hTx.keeps
        have re := hTx.res
        have el := hTx.elem
        have rec' := cells_of re
        have ref' := frozen_of re
        have rel' := lt_of_heap re
        have elc := cells_of el
        have ell := lt_of_heap el
        by_cases hci : c = ii
        · subst hci
          have hp2 := Hhp.out
          clear hb2c hbx2c
          have HhT2 := Lib.hid hT2; clear hT2; have Hhb2 := Lib.hid hb2; clear hb2; have Hhbx2 := Lib.hid hbx2; clear hbx2; have HhB := Lib.hid hB; clear hB; have Hhc := Lib.hid hc; clear hc; have HhTx := Lib.hid hTx; clear hTx; have HhK2 := Lib.hid hK2; clear hK2; have Hre := Lib.hid re; clear re; have Hel := Lib.hid el; clear el; have Hhp2 := Lib.hid hp2; clear hp2
          go_wp2_with fail
          ((try simp only [Exit.inBlock, Exit.then]); refine bodyPost_ret (v := .agg #[.int .i64 x1, .int .i64 x2]) (by simp [results, Try.results74, go_sem, *]) rfl ?_)
          have h1 := HhTx.out.heap
          have hne : w.heap.size ≠ q := by omega
          have hnr : g ≠ w.heap.size := by omega
          refine ⟨rfl, _, l', Hhp2.out, ⟨heap_setCell_off (heap_setCell_off h1.box _ hne) _ hne, (h1.row.kept (grownBy_setAt _ _ _ _) (.inr (by simpa [Value.ownBlock] using hnr))).kept (grownBy_setAt _ _ _ _) (.inr (by simpa [Value.ownBlock] using hnr))⟩, ?_, rfl⟩
          exact (HhK2.out.toSet _ _ (.inr (Nat.le_refl _))).toSet _ _ (.inr (Nat.le_refl _))
        · as_aux_lemma =>
          have hc2 : ii < c ∧ c < n := by omega
          obtain ⟨hc3, hc4⟩ := hc2
          obtain ⟨g', cap', hv', _, hgl2, _, hel⟩ := hT2.heap.at (by have := Hhlen'.out; omega)
          obtain ⟨rfl, rfl⟩ : g = g' ∧ cap = cap' := by simpa using hv'
          clear hv'
          have hL := Hhlen'.out
          have ka : ii.toNat < l'.length := by omega
          have kb : c.toNat < l'.length := by omega
          have hsw := swap_perm l' ii.toNat c.toNat ka kb
          obtain ⟨u1, hu1⟩ : ∃ u, l'[ii.toNat].1 = u := ⟨_, rfl⟩
          obtain ⟨u2, hu2⟩ : ∃ u, l'[ii.toNat].2 = u := ⟨_, rfl⟩
          obtain ⟨y1, hy1⟩ : ∃ u, l'[c.toNat].1 = u := ⟨_, rfl⟩
          obtain ⟨y2, hy2⟩ : ∃ u, l'[c.toNat].2 = u := ⟨_, rfl⟩
          rw [show l'[c.toNat] = (y1, y2) by rw [← hy1, ← hy2], show l'[ii.toNat] = (u1, u2) by rw [← hu1, ← hu2]] at hsw
          obtain ⟨fa, fb⟩ := hel ii.toNat ka
          obtain ⟨fc, fd⟩ := hel c.toNat kb
          rw [hu1] at fa
          rw [hu2] at fb
          rw [hy1] at fc
          rw [hy2] at fd
          have hln : l'.length = n.toNat := by omega
          have gf := hT2.heap.row.frozenAt
          clear hel hu1 hu2 hy1 hy2 hL hb2c rec' ref' elc
          rw [hln] at hbx2c
          have nn : ((n.toNat : Nat) : Int) = n := by omega
          have HhT2 := Lib.hid hT2; clear hT2; have Hhb2 := Lib.hid hb2; clear hb2; have Hhbx2 := Lib.hid hbx2; clear hbx2; have HhB := Lib.hid hB; clear hB; have Hhc := Lib.hid hc; clear hc; have Hhln := Lib.hid hln; clear hln; have HhTx := Lib.hid hTx; clear hTx; have HhK2 := Lib.hid hK2; clear hK2; have Hre := Lib.hid re; clear re; have Hel := Lib.hid el; clear el; have Hka := Lib.hid ka; clear ka; have Hkb := Lib.hid kb; clear kb; have Hhsw := Lib.hid hsw; clear hsw
          go_upto_region 14 with fail
          go_region
          go_wp2_with fail
          have hrq : ∀ (o : Nat) (b : Nat), b ≠ g → b ≠ g := fun _ _ h => h
          have q1 := HhT2.out.heap.write hgq (k := ii.toNat) Hka.out y1 y2
          have q2 := (q1.write hgq (k := c.toNat) (by rw [List.length_set]; exact Hkb.out) u1 u2).below (bl_drew (Below.refl _ _))
          have hne1 : g ≠ w.heap.size := by omega
          have hne2 : g ≠ w.heap.size + 1 := by omega
          have r1 : ∀ (b : Nat) (o : Obj), g ≠ b → wr.heap[b]? = some o → ((((wr.setCell ⟨g, ii.toNat * 2, none⟩ (.int .i64 y1)).setCell ⟨g, ii.toNat * 2 + 1, none⟩ (.int .i64 y2)).setCell ⟨g, c.toNat * 2, none⟩ (.int .i64 u1)).setCell ⟨g, c.toNat * 2 + 1, none⟩ (.int .i64 u2)).drew.heap[b]? = some o :=
            fun b o hb h => heap_drew' (heap_setCell_off (heap_setCell_off (heap_setCell_off (heap_setCell_off h _ hb) _ hb) _ hb) _ hb)
          have hT9 : TakeM base q g cap [q, g] w x1 x2 ((l'.set ii.toNat (y1, y2)).set c.toNat (u1, u2)) _ := ⟨q2, r1 _ _ hne1 Hre.out, r1 _ _ hne2 Hel.out, ((((HhK2.out.toSet _ _ (.inl (by simp))).toSet _ _ (.inl (by simp))).toSet _ _ (.inl (by simp))).toSet _ _ (.inl (by simp))).drew⟩
          have hk9 : c.toNat < ((l'.set ii.toNat (y1, y2)).set c.toNat (u1, u2)).length := by simp only [List.length_set]; exact Hkb.out
          have hp9 := Hhsw.out.trans Hhp.out
          have hm9 : t.length - (intOf (Value.int .i64 c)).toNat < t.length - (intOf (Value.int .i64 ii)).toNat := by simp only [intOf]; omega
          exact ⟨takeI_mk c0 hk9 hp9 hT9, hm9⟩
end Go.Proofs.Ytfbmjecikilghaa
