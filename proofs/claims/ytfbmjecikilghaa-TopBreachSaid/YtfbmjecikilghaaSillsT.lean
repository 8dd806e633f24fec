/- grid: Sills. -/
import Derived.Test.YtfbmjecikilghaaBoth
namespace Go.Proofs.Ytfbmjecikilghaa
open Go.RowKit

/-- Pairs of sills. -/
def pairs (a b : List Int) : List (Int × Int) := a.zip b
theorem pairs_snoc (a b : List Int) (k : Nat) (ha : k < a.length) (hb : k < b.length) : pairs (a.take (k + 1)) (b.take (k + 1)) = pairs (a.take k) (b.take k) ++ [(a[k], b[k])] := by
  unfold pairs
  rw [List.take_succ_eq_append_getElem ha, List.take_succ_eq_append_getElem hb, List.zip_append (by simp; omega)]
  rfl

abbrev compF (qg qs : Nat) : Value := .func (.func 47) #[] #[.pointer (some ⟨qg, 0, none⟩), .pointer (some ⟨qs, 0, none⟩)]
abbrev pairF : Value := .func (.func 50) #[] #[]

def BothI (w0 : World) (lo hi : List Int) (i out : Value) (wr : World) : Prop :=
  ∃ k : Nat, k ≤ lo.length ∧ i = .int .i64 k ∧ wr.ownsRow w0.heap.size 46 2 out k (wcells (pairs (lo.take k) (hi.take k))) ∧ Below w0.heap.size w0 wr

set_option maxHeartbeats 4000000 in
set_option maxRecDepth 100000 in
theorem both_ok (B qg qs : Nat) (w : World) (wd ht : Nat) (sz : Int) (gr : List (Int × Int)) (ga : Option Addr) (gcap : Nat) (sea : List Int) (sa : Option Addr) (scap : Nat) (hM : ShoreM B qg qs w wd ht sz gr ga gcap sea sa scap) (hB : B ≤ w.heap.size) :
    Calls Try.prog 46 #[compF qg qs, pairF] w fun e w' => ∃ v lo hi, e = .returned v ∧ SillOk wd ht (sea.map Int.toNat) (loOf gr) lo ∧ SillOk wd ht (sea.map Int.toNat) (hiOf gr) hi ∧
      w'.ownsRow w.heap.size 46 2 v (pairs lo hi).length (wcells (pairs lo hi)) ∧ Below w.heap.size w w' := by
  have c1 := computeLo_ok B qg qs w wd ht sz gr ga gcap sea sa scap hM hB
  have c2 := fun W (hW : Below w.heap.size w W) => computeHi_ok B qg qs W wd ht sz gr ga gcap sea sa scap (hM.below (hW.mono hB)) (by have := hW.size; omega)
  have hn16 := hM.grid.few
  have hlen : gr.length = wd * ht := by have := hM.grid.len; exact_mod_cast this
  have HC2 := Lib.hid c2
  have HL := Lib.hid hlen
  clear hM c2 hlen
  go_enter Try.func46, Try.ntmps46
  go_wp2_with fail
  refine c1.mono ?_
  rintro e w1 ⟨v1, lo, rfl, hS1, hr1, hb1⟩
  have l1 : lo.length ≤ 16 := by rw [hS1.len, ← HL.out]; exact hn16
  obtain ⟨a1, p1, rfl, hs1⟩ := sl_ints hr1 (by omega)
  clear c1 hr1
  have HhS1 := Lib.hid hS1; clear hS1; have Hhs1 := Lib.hid hs1; clear hs1; have Hhb1 := Lib.hid hb1; clear hb1
  go_wp2_with fail
  refine (HC2.out w1 Hhb1.out).mono ?_
  rintro e w2 ⟨v2, hi, rfl, hS2, hr2, hb2⟩
  have l2 : hi.length = lo.length := by rw [hS2.len, HhS1.out.len]
  obtain ⟨a2, p2, rfl, hs2⟩ := sl_ints hr2 (by omega)
  have hs1' := Hhs1.out.below (ek_int _) hb2
  have hbw2 : Below w.heap.size w w2 := bl_step Hhb1.out hb2
  have hsz12 := hb2.size
  clear hr2 hb2
  have HhS2 := Lib.hid hS2; clear hS2; have Hhs2 := Lib.hid hs2; clear hs2; have Hhs1' := Lib.hid hs1'; clear hs1'; have Hhbw2 := Lib.hid hbw2; clear hbw2; have Hl2 := Lib.hid l2; clear l2
  go_wp2_with fail
  go_loopw [15, 5] (fun i out wr => BothI w2 lo hi i out wr) (fun i _ _ => lo.length - (intOf i).toNat)
  case atStart => exact ⟨0, Nat.zero_le _, rfl, World.ownsRow_nil _ _ _ _, Below.refl _ _⟩
  case round =>
    obtain ⟨k, hk, rfl, hrow, hb⟩ := hrel
    by_cases hlt : k < lo.length
    · have hlt2 : k < hi.length := by have := Hl2.out; omega
      obtain ⟨b1, o1, ha1, hbb1, he1⟩ := Hhs1'.out.2 k hlt
      obtain ⟨b2, o2, ha2, hbb2, he2⟩ := Hhs2.out.2 k hlt2
      subst ha1 ha2
      have hsn := pairs_snoc lo hi k hlt hlt2
      obtain ⟨x, hx⟩ : ∃ x, lo[k] = x := ⟨_, rfl⟩
      obtain ⟨y, hy⟩ : ∃ y, hi[k] = y := ⟨_, rfl⟩
      rw [hx] at he1 hsn
      rw [hy] at he2 hsn
      have f1 : w2.cell? ⟨b1, o1 + k, none⟩ = some (.int .i64 x) := by have := he1; unfold IntE at this; rwa [Nat.mul_one] at this
      have f2 : w2.cell? ⟨b2, o2 + k, none⟩ = some (.int .i64 y) := by have := he2; unfold IntE at this; rwa [Nat.mul_one] at this
      have k2 : (k : Int) < hi.length := by omega
      have q1 : b1 < w2.heap.size := by omega
      have q2 : b2 < w2.heap.size := hbb2
      obtain ⟨i0, hinf, hz0, hz1, hz2⟩ := info_parts info36
      have hI : Below w2.heap.size w2 wr.drew := bl_drew hb
      clear he1 he2
      obtain ⟨uo, hrow0⟩ : ∃ u, u = u5 := ⟨_, rfl⟩
      have Hhrow := Lib.hid hrow; clear hrow; have Hhb := Lib.hid hb; clear hb; have Hhx := Lib.hid hx; clear hx; have Hhy := Lib.hid hy; clear hy; have Hhsn := Lib.hid hsn; clear hsn; have Hhrow0 := Lib.hid hrow0; clear hrow0
      go_upto_region 6 with fail
      refine wp_region_ord (fun W => Below w2.heap.size w2 W) [([0, 1, 2, 3, 4, 5, 6, 7, 8, 9], 10), ([], 11), ([], 12)] [13] none (by kernel_rfl) (by kernel_rfl) hI ?_
      refine OrdI_cons ?_
      (apply StI_plain (w0 := wr.drew) hI rfl rfl rfl rfl; (focus (intro W hW K hK; obtain ⟨_, _⟩ := bk b1 hW q1; obtain ⟨_, _⟩ := bk b2 hW q2; go_step; exact hK)); (focus rfl)); (apply StI_plain (w0 := wr.drew) hI rfl rfl rfl rfl; (focus (intro W hW K hK; obtain ⟨_, _⟩ := bk b1 hW q1; obtain ⟨_, _⟩ := bk b2 hW q2; go_step; exact hK)); (focus rfl)); (apply StI_plain (w0 := wr.drew) hI rfl rfl rfl rfl; (focus (intro W hW K hK; obtain ⟨_, _⟩ := bk b1 hW q1; obtain ⟨_, _⟩ := bk b2 hW q2; go_step; exact hK)); (focus rfl)); (apply StI_plain (w0 := wr.drew) hI rfl rfl rfl rfl; (focus (intro W hW K hK; obtain ⟨_, _⟩ := bk b1 hW q1; obtain ⟨_, _⟩ := bk b2 hW q2; go_step; exact hK)); (focus rfl)); (apply StI_plain (w0 := wr.drew) hI rfl rfl rfl rfl; (focus (intro W hW K hK; obtain ⟨_, _⟩ := bk b1 hW q1; obtain ⟨_, _⟩ := bk b2 hW q2; go_step; exact hK)); (focus rfl)); (apply StI_plain (w0 := wr.drew) hI rfl rfl rfl rfl; (focus (intro W hW K hK; obtain ⟨_, _⟩ := bk b1 hW q1; obtain ⟨_, _⟩ := bk b2 hW q2; go_step; exact hK)); (focus rfl)); (apply StI_plain (w0 := wr.drew) hI rfl rfl rfl rfl; (focus (intro W hW K hK; obtain ⟨_, _⟩ := bk b1 hW q1; obtain ⟨_, _⟩ := bk b2 hW q2; go_step; exact hK)); (focus rfl)); (apply StI_plain (w0 := wr.drew) hI rfl rfl rfl rfl; (focus (intro W hW K hK; obtain ⟨_, _⟩ := bk b1 hW q1; obtain ⟨_, _⟩ := bk b2 hW q2; go_step; exact hK)); (focus rfl)); (apply StI_plain (w0 := wr.drew) hI rfl rfl rfl rfl; (focus (intro W hW K hK; obtain ⟨_, _⟩ := bk b1 hW q1; obtain ⟨_, _⟩ := bk b2 hW q2; go_step; exact hK)); (focus rfl)); (apply StI_plain (w0 := wr.drew) hI rfl rfl rfl rfl; (focus (intro W hW K hK; obtain ⟨_, _⟩ := bk b1 hW q1; obtain ⟨_, _⟩ := bk b2 hW q2; go_step; exact hK)); (focus rfl))
      (apply StI_eff rfl; go_wp2_with (first | (go_at_call 50; refine (sspan_any x y _).mono ?_; rintro e w3 ⟨rfl, hb3⟩)))
      have hI3 : Below w2.heap.size w2 w3 := bl_step hI hb3
      refine onNormal_mk hI3 (OrdI_cons ?_)
      (apply StI_eff rfl; go_wp2_with (first | fail))
      have hI4 : Below w2.heap.size w2 (w3.alloc (.cells #[.int .i64 x, .int .i64 y] 46)) := bl_alloc hI3 _
      refine onNormal_mk hI4 (OrdI_cons ?_)
      have hnews := news2 w3 (.int .i64 x) (.int .i64 y) 46
      have hrow3 : w3.ownsRow w2.heap.size 46 2 u5 k (wcells (pairs (lo.take k) (hi.take k))) := (World.ownsRow.drew Hhrow.out).kept (below_grown hb3) (by cases u5.ownBlock <;> simp)
      have hszw : w2.heap.size ≤ w3.heap.size := hI3.size
      have hmax : k + 1 ≤ maxLen := by unfold maxLen; omega
      apply StI_eff rfl
      refine wpList_append_own _ rfl _ _ 34 rfl w2.heap.size 46 i0 (.agg #[.int .i64 0, .int .i64 0]) 2 16 Try.underlying34 hinf hz0 hz1 hz2 rfl (by decide) _ _ _ rfl (hrow3.alloc _) ⟨w3.heap.size, 0, none⟩ 1 1 [.int .i64 x, .int .i64 y] rfl rfl hnews (by simp [Value.oneCell']) (by omega) (by omega) (by simp; omega) ?_
      intro v' w4 hown' hgrow _
      have hlt0 := fun g (hg : u5.ownBlock = some g) => (hrow3.lt g hg).1
      have hb4 : Below w2.heap.size w2 w4 := (bl_alloc hI3 _).grown hgrow (by simp; omega) (fun j hj => hlt0 j hj)
      obtain ⟨g', cap', rfl⟩ := ownsRow_succ hown'
      rw [← wcells_snoc, ← Hhsn.out] at hown'
      clear hnews hrow3 hlt0 hgrow hinf hz0 hz1 hz2 hI hI3 hI4 hb3
      have Hhown' := Lib.hid hown'; clear hown'; have Hhb4 := Lib.hid hb4; clear hb4
      go_wp2_with fail
      refine onNormal_mk Hhb4.out (OrdI_fin ?_)
      (apply StI_plain (w0 := w4) Hhb4.out rfl rfl rfl rfl; (focus (intro W hW K hK; skip; go_step; exact hK)); (focus rfl))
      refine StI_nil ?_
      go_wp2_with fail
      exact ⟨⟨k + 1, by omega, by go_num, Hhown'.out, Hhb4.out⟩, by simp only [intOf]; omega⟩
    · obtain rfl : k = lo.length := by omega
      have hp : pairs (lo.take lo.length) (hi.take lo.length) = pairs lo hi := by rw [List.take_length, List.take_of_length_le (by have := Hl2.out; omega)]
      rw [hp] at hrow
      have hpl : (pairs lo hi).length = lo.length := by unfold pairs; rw [List.length_zip, Hl2.out]; omega
      rw [← hpl] at hrow
      clear hp
      have Hhrow := Lib.hid hrow; clear hrow; have Hhb := Lib.hid hb; clear hb; have Hhpl := Lib.hid hpl; clear hpl
      go_wp2_with fail
      go_ret
      exact ⟨_, lo, hi, rfl, HhS1.out, HhS2.out, row_mono Hhrow.out Hhbw2.out.size, bl_step Hhbw2.out Hhb.out⟩
end Go.Proofs.Ytfbmjecikilghaa
