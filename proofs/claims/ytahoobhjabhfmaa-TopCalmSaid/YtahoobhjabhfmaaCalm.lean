/- TopCalm. -/
import Derived.Test.YtahoobhjabhfmaaCalmH
import Derived.Test.YtahoobhjabhfmaaCalmE
namespace Go.Proofs.Ytahoobhjabhfmaa
open Go.RowKit

set_option maxHeartbeats 8000000 in
set_option maxRecDepth 100000 in
theorem topCalm_ok (m f g lv b0 b1 : Int) (ps ss : List U3) (a1 a5 : Option Addr) (c1 c5 B : Nat) (w : World) (hB : B ≤ w.heap.size) (hP : Sl U32E 3 B w a1 ps) (hQ : Sl U16E 3 B w a5 ss) (h4 : ps.length ≤ 4) (h8 : ss.length ≤ 8)
    (hp : ∀ x ∈ ps, x.ok 4294967296) (hq : ∀ x ∈ ss, x.ok 65536) (hm : -128 ≤ m ∧ m ≤ 127) (hf : 0 ≤ f ∧ f < 4294967296) (hg : 0 ≤ g ∧ g < 4294967296) (hlv : -32768 ≤ lv ∧ lv ≤ 32767) (hb0 : 0 ≤ b0 ∧ b0 < 4294967296) (hb1 : 0 ≤ b1 ∧ b1 < 4294967296) :
    Calls Try.prog 3 #[.agg #[.int .i8 m, .slice a1 ps.length c1, .int .u32 f, .int .u32 g, .int .i16 lv, .slice a5 ss.length c5, .int .u32 b0, .int .u32 b1]] w fun e w' => e = .returned (.bool true) ∧ Below w.heap.size w w' := by
  obtain ⟨m0, m1⟩ := hm
  obtain ⟨f0, f1⟩ := hf
  obtain ⟨g0, g1⟩ := hg
  obtain ⟨lv0, lv1⟩ := hlv
  obtain ⟨b00, b01⟩ := hb0
  obtain ⟨b10, b11⟩ := hb1
  have hst := fun W (hW : Below w.heap.size w W) => slackTide_ok m ps a1 c1 B W (hP.below (ek_u32 B) (hW.mono hB)) (by have := hW.size; omega) hp h4 m0 m1
  have HQ := Lib.hid hQ
  have HP := Lib.hid hp
  have HS := Lib.hid hq
  clear hQ hp hq hP
  obtain ⟨lo, hlo⟩ : ∃ x, f % 400000000 = x := ⟨_, rfl⟩
  obtain ⟨ln, hln⟩ : ∃ x, g % 200000000 = x := ⟨_, rfl⟩
  obtain ⟨lev, hlev⟩ : ∃ x, lv.tmod 2000 = x := ⟨_, rfl⟩
  have lo0 : 0 ≤ lo := by omega
  have lo1 : lo < 400000000 := by omega
  have ln0 : 0 ≤ ln := by omega
  have ln1 : ln < 200000000 := by omega
  have lev0 : -2000 < lev := by have := Int.lt_tmod_of_pos lv (show (0 : Int) < 2000 by omega); omega
  have lev1 : lev < 2000 := by have := Int.tmod_lt_of_pos lv (show (0 : Int) < 2000 by omega); omega
  go_enter Try.func3, Try.ntmps3
  go_wp2_with fail
  refine (hst _ (by repeat (first | exact Below.refl _ _ | (refine bl_setCell ?_ _ _ ?_; rotate_left; focus (first | omega | (simp; done) | (simp; omega))) | refine bl_alloc ?_ _ | refine bl_step ?_ (by assumption) | refine bl_drew ?_ | refine bl_drewN ?_ _))).mono ?_
  rintro e w1 ⟨v1, rfl, hrow1, hb1⟩
  have hpl : (ps.map partOf).length = ps.length := by simp
  rw [← hpl] at hrow1
  obtain ⟨ap, cp, hv1, hSp⟩ := sl_parts hrow1 (by omega)
  subst hv1
  have hgood : ∀ p ∈ ps.map partOf, p.good := fun p hp => by
    obtain ⟨x, hx, rfl⟩ := List.mem_map.1 hp
    exact partOf_good (HP.out x hx)
  have hM1 : ModelM w1.heap.size w1 m (ps.map partOf) ap := ⟨hSp, hgood, by omega, by omega, by omega⟩
  obtain ⟨pp, hpp⟩ : ∃ pp, ps.map partOf = pp := ⟨_, rfl⟩
  rw [hpp] at hM1 hpl hgood
  rw [hpp]
  have xb : w1.heap[w.heap.size]? = some (.cells #[.int .i8 m, .slice a1 ps.length c1, .int .u32 f, .int .u32 g, .int .i16 lv, .slice a5 ss.length c5, .int .u32 b0, .int .u32 b1] 29 (0, 0)) := heap_below hb1 (by repeat (first | (refine heap_alloc_at' _ _ ?_; focus (simp; done)) | refine heap_alloc_off ?_ _))
  have hbw1 : Below w.heap.size w w1 := (by repeat (first | exact Below.refl _ _ | (refine bl_setCell ?_ _ _ ?_; rotate_left; focus (first | omega | (simp; done) | (simp; omega))) | refine bl_alloc ?_ _ | refine bl_step ?_ (by assumption) | refine bl_drew ?_ | refine bl_drewN ?_ _))
  have xbc := cells_of xb
  have xbl := lt_of_heap xb
  obtain ⟨hi, hhi⟩ : ∃ x, lo + ln = x := ⟨_, rfl⟩
  have hd : hi - lo = ln := by omega
  obtain ⟨st, hst60⟩ : ∃ x, ln / 60 = x := ⟨_, rfl⟩
  have st0 : 0 ≤ st := by omega
  have st1 : st < 4000000 := by omega
  have hqst : ((hi : Int) - lo - 1).tdiv (st + 1) < 10000 := by
    rw [hd]
    by_cases hz : 0 ≤ ln - 1
    · rw [Int.tdiv_eq_ediv_of_nonneg hz]
      refine Int.ediv_lt_of_lt_mul (by omega) ?_
      omega
    · have : ln = 0 := by omega
      subst this
      have : st = 0 := by omega
      subst this
      decide
  have hNst : hi - lo ≤ 90 * (st + 1) := by omega
  have HQ0 := Lib.hid hqst
  have hwin := fun W (hW : Below w1.heap.size w1 W) => windows_ok m pp ap cp w1.heap.size lo hi (st + 1) lev W (hM1.below hW) hW.size (by omega) (by omega) (by omega) (by omega) (by omega) HQ0.out hNst (by omega) (by omega)
  have HM1 := Lib.hid hM1
  have HG := Lib.hid hgood
  clear hst hrow1 hSp hM1 hgood hqst hNst hb1
  have Hhpl := Lib.hid hpl; clear hpl; have Hhpp := Lib.hid hpp; clear hpp; have Hxb := Lib.hid xb; clear xb; have Hhbw1 := Lib.hid hbw1; clear hbw1
  go_wp2_with fail
  refine (tspan_any _ _ _).mono ?_
  rintro e w2 ⟨rfl, hb2⟩
  have y3 : w2.heap[w1.heap.size]? = some (.cells #[.int .i64 m, .slice ap pp.length cp] 33 (0, 0)) := heap_below hb2 (by repeat (first | (refine heap_alloc_at' _ _ ?_; focus (simp; done)) | refine heap_alloc_off ?_ _))
  have yb := heap_below hb2 (heap_alloc_off Hxb.out (.cells #[.int .i64 m, .slice ap pp.length cp] 33))
  have hb12 : Below w1.heap.size w1 w2 := (by repeat (first | exact Below.refl _ _ | (refine bl_setCell ?_ _ _ ?_; rotate_left; focus (first | omega | (simp; done) | (simp; omega))) | refine bl_alloc ?_ _ | refine bl_step ?_ (by assumption) | refine bl_drew ?_ | refine bl_drewN ?_ _))
  have y3c := cells_of y3
  have ybc := cells_of yb
  have ybl := lt_of_heap yb
  have y3l := lt_of_heap y3
  clear xbc xbl hb2
  have Hy3 := Lib.hid y3; clear y3; have Hyb := Lib.hid yb; clear yb; have Hhb12 := Lib.hid hb12; clear hb12
  obtain ⟨_, _, _, _, _, _, _⟩ := lts y3l
  obtain ⟨_, _, _, _, _, _, _⟩ := lts ybl
  go_wp2_with fail
  have hb12b : Below w1.heap.size w1 (w2.alloc (.cells #[.int .i64 lo, .int .i64 hi] 36)) := bl_alloc Hhb12.out _
  refine (hwin _ hb12b).mono ?_
  rintro e w3 ⟨xs, v3, rfl, hcut, hrow3, hb3⟩
  have z3 := heap_below hb3 (heap_alloc_off Hy3.out (.cells #[.int .i64 lo, .int .i64 hi] 36))
  have zb := heap_below hb3 (heap_alloc_off Hyb.out (.cells #[.int .i64 lo, .int .i64 hi] 36))
  have hb13 := bl_step hb12b hb3
  have hwok := win_ok (mean := m) (l := pp) (level := lev) (fun p hp => ⟨(HG.out p hp).1, by have := (HG.out p hp).2.2.1; omega⟩) (show 1 ≤ st + 1 by omega) xs hcut
  have hwn : (win m pp lev xs).out.length ≤ 1000 := Nat.le_trans (win_length m pp lev xs) (few_pieces st0 (by omega) (cutR_few (show 1 ≤ st + 1 by omega) xs lo hcut))
  obtain ⟨aw, cw, hv3, hSw⟩ := sl_spans hrow3 hwn
  subst hv3
  obtain ⟨ws, hws⟩ : ∃ x, (win m pp lev xs).out = x := ⟨_, rfl⟩
  rw [hws] at hwok hwn hSw
  rw [hws]
  have z3c := cells_of z3
  have zbc := cells_of zb
  have zbl := lt_of_heap zb
  have z3l := lt_of_heap z3
  have HM3 := Lib.hid (HM1.out.below hb13)
  have HSW := Lib.hid hSw
  have HWK := Lib.hid hwok
  clear y3c ybc ybl y3l hb3 hrow3 hcut hwin hSw hwok hb12b
  have Hz3 := Lib.hid z3; clear z3; have Hzb := Lib.hid zb; clear zb; have Hhb13 := Lib.hid hb13; clear hb13; have Hhws := Lib.hid hws; clear hws
  go_wp2_with fail
  go_loopw [8, 80] (fun e i wr => StepsI w3 ss e i wr) (fun _ i _ => ss.length - (intOf i).toNat)
  case atStart => exact ⟨0, [], Nat.zero_le _, rfl, rfl, World.ownsRow_nil _ _ _ _, by simp, Below.refl _ _⟩
  case round =>
    obtain ⟨k, l, hk, rfl, hl, hrow, haf, hb⟩ := hrel
    by_cases hlt : k < ss.length
    --S{
    · have hb3r : Below w.heap.size w wr := bl_step (bl_step Hhbw1.out Hhb13.out) hb
      obtain ⟨bs, off, rfl, hbB, he⟩ := (HQ.out.below (ek_u16 B) (hb3r.mono hB)).2 k hlt
      have hx := HS.out ss[k] (List.getElem_mem hlt)
      have hsa : stpAt ss k = stpOf ss[k].a ss[k].b ss[k].c k := by unfold stpAt; rw [← getD_eq hlt u3z]
      obtain ⟨x, hxx⟩ : ∃ x, ss[k] = x := ⟨_, rfl⟩
      rw [hxx] at he hx hsa
      obtain ⟨e0, e1, e2⟩ := he
      obtain ⟨xa, xb, xc⟩ := x
      obtain ⟨xa0, xa1, xb0, xb1, xc0, xc1⟩ := hx
      simp only at e0 e1 e2 xa0 xa1 xb0 xb1 xc0 xc1 hsa
      have hbsw : bs < wr.heap.size := by have := hb3r.size; omega
      have hk8 : k < 8 := by omega
      have hnb := name_eq k hk8
      have hcb : (bits .and .u16 (xc / 256) 1 == 1) = (xc / 256 % 2 == 1) := by rw [and_u16_one _ (by omega) (by omega)]
      have zbr := heap_below hb Hzb.out
      have z3r := heap_below hb Hz3.out
      have HROW := Lib.hid hrow
      have HAF := Lib.hid haf
      clear hrow haf
      have Hhxx := Lib.hid hxx; clear hxx; have Hhsa := Lib.hid hsa; clear hsa; have Hhb := Lib.hid hb; clear hb; have Hhl := Lib.hid hl; clear hl; have Hzbr := Lib.hid zbr; clear zbr; have Hz3r := Lib.hid z3r; clear z3r; have Hhb3r := Lib.hid hb3r; clear hb3r; have Hhnb := Lib.hid hnb; clear hnb; have Hhcb := Lib.hid hcb; clear hcb
      go_upto_region 14 with fail
      have x10 : (wr.alloc (.cells #[.int .u16 xa, .int .u16 xb, .int .u16 xc] 44)).heap[wr.heap.size]? = some (.cells #[.int .u16 xa, .int .u16 xb, .int .u16 xc] 44 (0, 0)) := heap_alloc_at _ _
      have hbd : Below wr.heap.size wr (wr.alloc (.cells #[.int .u16 xa, .int .u16 xb, .int .u16 xc] 44)) := (by repeat (first | exact Below.refl _ _ | (refine bl_setCell ?_ _ _ ?_; rotate_left; focus (first | omega | (simp; done) | (simp; omega))) | refine bl_alloc ?_ _ | refine bl_step ?_ (by assumption) | refine bl_drew ?_ | refine bl_drewN ?_ _))
      have hszd : (wr.alloc (.cells #[.int .u16 xa, .int .u16 xb, .int .u16 xc] 44)).heap.size = wr.heap.size + 1 := by simp
      generalize (wr.alloc (.cells #[.int .u16 xa, .int .u16 xb, .int .u16 xc] 44)) = wd at x10 hbd hszd ⊢
      have x10c := cells_of x10
      have x10l := lt_of_heap x10
      clear e0 e1 e2
      have Hx10 := Lib.hid x10; clear x10; have Hhbd := Lib.hid hbd; clear hbd; have Hhszd := Lib.hid hszd; clear hszd
      go_cut [11] from 85 to 110 (fun v wx => StpB k xa xb xc wd v wx)
      case first =>
        have hI : Below wd.heap.size wd wd.drew := (Below.refl _ _).drew
        refine wp_region_ordT3 (fun W => Below wd.heap.size wd W) (.three [0, 1, 2, 6, 7, 8, 9, 10, 11, 12, 13, 14, 15, 16, 17, 18, 20, 21, 22, 23, 24] 3 (.two [4, 5] 19 (.one [25] 26 (.fin [] (some 27))) 26 (.one [] 19 (.fin [25] (some 27)))) 19 (.two [] 3 (.one [4, 5, 25] 26 (.fin [] (some 27))) 26 (.one [] 3 (.fin [4, 5, 25] (some 27)))) 26 (.two [] 3 (.one [4, 5] 19 (.fin [25] (some 27))) 19 (.one [] 3 (.fin [4, 5, 25] (some 27))))) (by kernel_rfl) (by kernel_rfl) hI ?_
        refine ot3Three ?_
        (apply StI_plain (w0 := wd.drew) hI rfl rfl rfl rfl; (focus (intro W hW K hK; obtain ⟨_, _⟩ := bk wr.heap.size hW x10l; go_step; exact hK)); (focus rfl)); (apply StI_plain (w0 := wd.drew) hI rfl rfl rfl rfl; (focus (intro W hW K hK; obtain ⟨_, _⟩ := bk wr.heap.size hW x10l; go_step; exact hK)); (focus rfl)); (apply StI_plain (w0 := wd.drew) hI rfl rfl rfl rfl; (focus (intro W hW K hK; obtain ⟨_, _⟩ := bk wr.heap.size hW x10l; go_step; exact hK)); (focus rfl)); (apply StI_plain (w0 := wd.drew) hI rfl rfl rfl rfl; (focus (intro W hW K hK; obtain ⟨_, _⟩ := bk wr.heap.size hW x10l; go_step; exact hK)); (focus rfl)); (apply StI_plain (w0 := wd.drew) hI rfl rfl rfl rfl; (focus (intro W hW K hK; obtain ⟨_, _⟩ := bk wr.heap.size hW x10l; go_step; exact hK)); (focus rfl)); (apply StI_plain (w0 := wd.drew) hI rfl rfl rfl rfl; (focus (intro W hW K hK; obtain ⟨_, _⟩ := bk wr.heap.size hW x10l; go_step; exact hK)); (focus rfl)); (apply StI_plain (w0 := wd.drew) hI rfl rfl rfl rfl; (focus (intro W hW K hK; obtain ⟨_, _⟩ := bk wr.heap.size hW x10l; go_step; exact hK)); (focus rfl)); (apply StI_plain (w0 := wd.drew) hI rfl rfl rfl rfl; (focus (intro W hW K hK; obtain ⟨_, _⟩ := bk wr.heap.size hW x10l; go_step; exact hK)); (focus rfl)); (apply StI_plain (w0 := wd.drew) hI rfl rfl rfl rfl; (focus (intro W hW K hK; obtain ⟨_, _⟩ := bk wr.heap.size hW x10l; go_step; exact hK)); (focus rfl)); (apply StI_plain (w0 := wd.drew) hI rfl rfl rfl rfl; (focus (intro W hW K hK; obtain ⟨_, _⟩ := bk wr.heap.size hW x10l; go_step; exact hK)); (focus rfl)); (apply StI_plain (w0 := wd.drew) hI rfl rfl rfl rfl; (focus (intro W hW K hK; obtain ⟨_, _⟩ := bk wr.heap.size hW x10l; go_step; exact hK)); (focus rfl)); (apply StI_plain (w0 := wd.drew) hI rfl rfl rfl rfl; (focus (intro W hW K hK; obtain ⟨_, _⟩ := bk wr.heap.size hW x10l; go_step; exact hK)); (focus rfl)); (apply StI_plain (w0 := wd.drew) hI rfl rfl rfl rfl; (focus (intro W hW K hK; obtain ⟨_, _⟩ := bk wr.heap.size hW x10l; go_step; exact hK)); (focus rfl)); (apply StI_plain (w0 := wd.drew) hI rfl rfl rfl rfl; (focus (intro W hW K hK; obtain ⟨_, _⟩ := bk wr.heap.size hW x10l; go_step; exact hK)); (focus rfl)); (apply StI_plain (w0 := wd.drew) hI rfl rfl rfl rfl; (focus (intro W hW K hK; obtain ⟨_, _⟩ := bk wr.heap.size hW x10l; go_step; exact hK)); (focus rfl)); (apply StI_plain (w0 := wd.drew) hI rfl rfl rfl rfl; (focus (intro W hW K hK; obtain ⟨_, _⟩ := bk wr.heap.size hW x10l; go_step; exact hK)); (focus rfl)); (apply StI_plain (w0 := wd.drew) hI rfl rfl rfl rfl; (focus (intro W hW K hK; obtain ⟨_, _⟩ := bk wr.heap.size hW x10l; go_step; exact hK)); (focus rfl)); (apply StI_plain (w0 := wd.drew) hI rfl rfl rfl rfl; (focus (intro W hW K hK; obtain ⟨_, _⟩ := bk wr.heap.size hW x10l; go_step; exact hK)); (focus rfl)); (apply StI_plain (w0 := wd.drew) hI rfl rfl rfl rfl; (focus (intro W hW K hK; obtain ⟨_, _⟩ := bk wr.heap.size hW x10l; go_step; exact hK)); (focus rfl)); (apply StI_plain (w0 := wd.drew) hI rfl rfl rfl rfl; (focus (intro W hW K hK; obtain ⟨_, _⟩ := bk wr.heap.size hW x10l; go_step; exact hK)); (focus rfl)); (apply StI_plain (w0 := wd.drew) hI rfl rfl rfl rfl; (focus (intro W hW K hK; obtain ⟨_, _⟩ := bk wr.heap.size hW x10l; go_step; exact hK)); (focus rfl))
--R14
        refine StI_nil ⟨?_, ?_, ?_⟩
        · (apply wpOp_eff rfl; go_wp2_with (first | fail))
          have hDv1 : Below wd.heap.size wd (wd.alloc (.cells #[.int .u8 (97 + (k : Int))] 5)).drew := ((Below.refl _ _).alloc (Nat.le_refl _) _).drew
          have hBv1 := hDv1
          have x8v1 : (wd.alloc (.cells #[.int .u8 (97 + (k : Int))] 5)).drew.heap[wd.heap.size]? = some (.cells #[.int .u8 (97 + (k : Int))] 5 (0, 0)) := heap_alloc_at _ _
          generalize (wd.alloc (.cells #[.int .u8 (97 + (k : Int))] 5)).drew = v1 at hDv1 hBv1 x8v1 ⊢
          refine ot3To (fun W => Below v1.heap.size v1 W) (fun W h => below_mid hBv1 (Nat.le_refl _) h) (Below.refl _ _) (ot3Two ?_)
          (apply StI_plain (w0 := v1) (Below.refl v1.heap.size v1) rfl rfl rfl rfl; (focus (intro W hW K hK; have := conv1 W (wd.heap.size) (97 + (k : Int)) ((cells_of (heap_below hW x8v1)) 0); go_step; exact hK)); (focus rfl)); (apply StI_plain (w0 := v1) (Below.refl v1.heap.size v1) rfl rfl rfl rfl; (focus (intro W hW K hK; have := conv1 W (wd.heap.size) (97 + (k : Int)) ((cells_of (heap_below hW x8v1)) 0); go_step; exact hK)); (focus rfl))
          refine StI_nil ⟨?_, ?_⟩
          · (apply wpOp_eff rfl; go_wp2_with (first | (go_at_call 6; refine (tspan_any _ _ _).mono ?_; rintro e v2 ⟨rfl, hBv2⟩)))
            have hDv2 : Below wd.heap.size wd v2 := below_mid hDv1 (Nat.le_refl _) hBv2
            have x8v2 := heap_below hBv2 x8v1
            refine ot3To (fun W => Below v2.heap.size v2 W) (fun W h => below_mid hBv2 (Nat.le_refl _) h) (Below.refl _ _) (ot3One ?_)
            (apply StI_plain (w0 := v2) (Below.refl v2.heap.size v2) rfl rfl rfl rfl; (focus (intro W hW K hK; skip; go_step; exact hK)); (focus rfl))
            (apply StI_eff rfl; go_wp2_with (first | fail))
            have hBv3 : Below v2.heap.size v2 (v2.alloc (.cells #[.string ⟨#[]⟩, .slice none 0 0, .int .i64 0, .int .i64 0, .bool false, .bool false, .int .i64 0] 49)) := (Below.refl _ _).alloc (Nat.le_refl _) _
            have hDv3 : Below wd.heap.size wd (v2.alloc (.cells #[.string ⟨#[]⟩, .slice none 0 0, .int .i64 0, .int .i64 0, .bool false, .bool false, .int .i64 0] 49)) := below_mid hDv2 (Nat.le_refl _) hBv3
            have x11v3 : (v2.alloc (.cells #[.string ⟨#[]⟩, .slice none 0 0, .int .i64 0, .int .i64 0, .bool false, .bool false, .int .i64 0] 49)).heap[v2.heap.size]? = some (.cells #[.string ⟨#[]⟩, .slice none 0 0, .int .i64 0, .int .i64 0, .bool false, .bool false, .int .i64 0] 49 (0, 0)) := heap_alloc_at _ _
            have x8v3 := heap_below hBv3 x8v2
            generalize (v2.alloc (.cells #[.string ⟨#[]⟩, .slice none 0 0, .int .i64 0, .int .i64 0, .bool false, .bool false, .int .i64 0] 49)) = v3 at hDv3 hBv3 x8v3 x11v3 ⊢
            refine ot3To (fun W => Below v3.heap.size v3 W) (fun W h => below_mid hBv3 (Nat.le_refl _) h) (Below.refl _ _) (ot3SnkI ?_)
            have xc' := cells_of x11v3
            have xf' := frozen_of x11v3
            have xl' := lt_of_heap x11v3
            (apply StI_eff rfl; go_wp2_with (first | fail))
            refine onNormal_last ?_
            go_wp2_with fail
            go_meet
            exact stpB_end hDv3 (show wd.heap.size ≤ v2.heap.size from (hDv2).size) x11v3 Hhnb.out Hhcb.out
          · (apply wpOp_eff rfl; go_wp2_with (first | fail))
            have hBv4 : Below v1.heap.size v1 (v1.alloc (.cells #[.string ⟨#[]⟩, .slice none 0 0, .int .i64 0, .int .i64 0, .bool false, .bool false, .int .i64 0] 49)) := (Below.refl _ _).alloc (Nat.le_refl _) _
            have hDv4 : Below wd.heap.size wd (v1.alloc (.cells #[.string ⟨#[]⟩, .slice none 0 0, .int .i64 0, .int .i64 0, .bool false, .bool false, .int .i64 0] 49)) := below_mid hDv1 (Nat.le_refl _) hBv4
            have x11v4 : (v1.alloc (.cells #[.string ⟨#[]⟩, .slice none 0 0, .int .i64 0, .int .i64 0, .bool false, .bool false, .int .i64 0] 49)).heap[v1.heap.size]? = some (.cells #[.string ⟨#[]⟩, .slice none 0 0, .int .i64 0, .int .i64 0, .bool false, .bool false, .int .i64 0] 49 (0, 0)) := heap_alloc_at _ _
            have x8v4 := heap_below hBv4 x8v1
            generalize (v1.alloc (.cells #[.string ⟨#[]⟩, .slice none 0 0, .int .i64 0, .int .i64 0, .bool false, .bool false, .int .i64 0] 49)) = v4 at hDv4 hBv4 x8v4 x11v4 ⊢
            refine ot3To (fun W => Below v4.heap.size v4 W) (fun W h => below_mid hBv4 (Nat.le_refl _) h) (Below.refl _ _) (ot3One ?_)
            (apply StI_eff rfl; go_wp2_with (first | (go_at_call 6; refine (tspan_any _ _ _).mono ?_; rintro e v5 ⟨rfl, hBv5⟩)))
            have hDv5 : Below wd.heap.size wd v5 := below_mid hDv4 (Nat.le_refl _) hBv5
            have x8v5 := heap_below hBv5 x8v4
            have x11v5 := heap_below hBv5 x11v4
            refine ot3To (fun W => Below v5.heap.size v5 W) (fun W h => below_mid hBv5 (Nat.le_refl _) h) (Below.refl _ _) (ot3SnkI ?_)
            (apply StI_plain (w0 := v5) (Below.refl v5.heap.size v5) rfl rfl rfl rfl; (focus (intro W hW K hK; skip; go_step; exact hK)); (focus rfl))
            have xc' := cells_of x11v5
            have xf' := frozen_of x11v5
            have xl' := lt_of_heap x11v5
            (apply StI_eff rfl; go_wp2_with (first | fail))
            refine onNormal_last ?_
            go_wp2_with fail
            go_meet
            exact stpB_end hDv5 (show wd.heap.size ≤ v1.heap.size from (hDv1).size) x11v5 Hhnb.out Hhcb.out
        · (apply wpOp_eff rfl; go_wp2_with (first | (go_at_call 6; refine (tspan_any _ _ _).mono ?_; rintro e v6 ⟨rfl, hBv6⟩)))
          have hDv6 : Below wd.heap.size wd v6 := hI.trans hBv6
          replace hBv6 : Below wd.heap.size wd v6 := hDv6
          refine ot3To (fun W => Below v6.heap.size v6 W) (fun W h => below_mid hBv6 (Nat.le_refl _) h) (Below.refl _ _) (ot3Two ?_)
          refine StI_nil ⟨?_, ?_⟩
          · (apply wpOp_eff rfl; go_wp2_with (first | fail))
            have hBv7 : Below v6.heap.size v6 (v6.alloc (.cells #[.int .u8 (97 + (k : Int))] 5)) := (Below.refl _ _).alloc (Nat.le_refl _) _
            have hDv7 : Below wd.heap.size wd (v6.alloc (.cells #[.int .u8 (97 + (k : Int))] 5)) := below_mid hDv6 (Nat.le_refl _) hBv7
            have x8v7 : (v6.alloc (.cells #[.int .u8 (97 + (k : Int))] 5)).heap[v6.heap.size]? = some (.cells #[.int .u8 (97 + (k : Int))] 5 (0, 0)) := heap_alloc_at _ _
            generalize (v6.alloc (.cells #[.int .u8 (97 + (k : Int))] 5)) = v7 at hDv7 hBv7 x8v7 ⊢
            refine ot3To (fun W => Below v7.heap.size v7 W) (fun W h => below_mid hBv7 (Nat.le_refl _) h) (Below.refl _ _) (ot3One ?_)
            (apply StI_plain (w0 := v7) (Below.refl v7.heap.size v7) rfl rfl rfl rfl; (focus (intro W hW K hK; have := conv1 W (v6.heap.size) (97 + (k : Int)) ((cells_of (heap_below hW x8v7)) 0); go_step; exact hK)); (focus rfl)); (apply StI_plain (w0 := v7) (Below.refl v7.heap.size v7) rfl rfl rfl rfl; (focus (intro W hW K hK; have := conv1 W (v6.heap.size) (97 + (k : Int)) ((cells_of (heap_below hW x8v7)) 0); go_step; exact hK)); (focus rfl)); (apply StI_plain (w0 := v7) (Below.refl v7.heap.size v7) rfl rfl rfl rfl; (focus (intro W hW K hK; have := conv1 W (v6.heap.size) (97 + (k : Int)) ((cells_of (heap_below hW x8v7)) 0); go_step; exact hK)); (focus rfl))
            (apply StI_eff rfl; go_wp2_with (first | fail))
            have hBv8 : Below v7.heap.size v7 (v7.alloc (.cells #[.string ⟨#[]⟩, .slice none 0 0, .int .i64 0, .int .i64 0, .bool false, .bool false, .int .i64 0] 49)) := (Below.refl _ _).alloc (Nat.le_refl _) _
            have hDv8 : Below wd.heap.size wd (v7.alloc (.cells #[.string ⟨#[]⟩, .slice none 0 0, .int .i64 0, .int .i64 0, .bool false, .bool false, .int .i64 0] 49)) := below_mid hDv7 (Nat.le_refl _) hBv8
            have x11v8 : (v7.alloc (.cells #[.string ⟨#[]⟩, .slice none 0 0, .int .i64 0, .int .i64 0, .bool false, .bool false, .int .i64 0] 49)).heap[v7.heap.size]? = some (.cells #[.string ⟨#[]⟩, .slice none 0 0, .int .i64 0, .int .i64 0, .bool false, .bool false, .int .i64 0] 49 (0, 0)) := heap_alloc_at _ _
            have x8v8 := heap_below hBv8 x8v7
            generalize (v7.alloc (.cells #[.string ⟨#[]⟩, .slice none 0 0, .int .i64 0, .int .i64 0, .bool false, .bool false, .int .i64 0] 49)) = v8 at hDv8 hBv8 x8v8 x11v8 ⊢
            refine ot3To (fun W => Below v8.heap.size v8 W) (fun W h => below_mid hBv8 (Nat.le_refl _) h) (Below.refl _ _) (ot3SnkI ?_)
            have xc' := cells_of x11v8
            have xf' := frozen_of x11v8
            have xl' := lt_of_heap x11v8
            (apply StI_eff rfl; go_wp2_with (first | fail))
            refine onNormal_last ?_
            go_wp2_with fail
            go_meet
            exact stpB_end hDv8 (show wd.heap.size ≤ v7.heap.size from (hDv7).size) x11v8 Hhnb.out Hhcb.out
          · (apply wpOp_eff rfl; go_wp2_with (first | fail))
            have hBv9 : Below v6.heap.size v6 (v6.alloc (.cells #[.string ⟨#[]⟩, .slice none 0 0, .int .i64 0, .int .i64 0, .bool false, .bool false, .int .i64 0] 49)) := (Below.refl _ _).alloc (Nat.le_refl _) _
            have hDv9 : Below wd.heap.size wd (v6.alloc (.cells #[.string ⟨#[]⟩, .slice none 0 0, .int .i64 0, .int .i64 0, .bool false, .bool false, .int .i64 0] 49)) := below_mid hDv6 (Nat.le_refl _) hBv9
            have x11v9 : (v6.alloc (.cells #[.string ⟨#[]⟩, .slice none 0 0, .int .i64 0, .int .i64 0, .bool false, .bool false, .int .i64 0] 49)).heap[v6.heap.size]? = some (.cells #[.string ⟨#[]⟩, .slice none 0 0, .int .i64 0, .int .i64 0, .bool false, .bool false, .int .i64 0] 49 (0, 0)) := heap_alloc_at _ _
            generalize (v6.alloc (.cells #[.string ⟨#[]⟩, .slice none 0 0, .int .i64 0, .int .i64 0, .bool false, .bool false, .int .i64 0] 49)) = v9 at hDv9 hBv9 x11v9 ⊢
            refine ot3To (fun W => Below v9.heap.size v9 W) (fun W h => below_mid hBv9 (Nat.le_refl _) h) (Below.refl _ _) (ot3One ?_)
            (apply StI_eff rfl; go_wp2_with (first | fail))
            have hBv10 : Below v9.heap.size v9 (v9.alloc (.cells #[.int .u8 (97 + (k : Int))] 5)) := (Below.refl _ _).alloc (Nat.le_refl _) _
            have hDv10 : Below wd.heap.size wd (v9.alloc (.cells #[.int .u8 (97 + (k : Int))] 5)) := below_mid hDv9 (Nat.le_refl _) hBv10
            have x8v10 : (v9.alloc (.cells #[.int .u8 (97 + (k : Int))] 5)).heap[v9.heap.size]? = some (.cells #[.int .u8 (97 + (k : Int))] 5 (0, 0)) := heap_alloc_at _ _
            have x11v10 := heap_below hBv10 x11v9
            generalize (v9.alloc (.cells #[.int .u8 (97 + (k : Int))] 5)) = v10 at hDv10 hBv10 x8v10 x11v10 ⊢
            refine ot3To (fun W => Below v10.heap.size v10 W) (fun W h => below_mid hBv10 (Nat.le_refl _) h) (Below.refl _ _) (ot3SnkI ?_)
            (apply StI_plain (w0 := v10) (Below.refl v10.heap.size v10) rfl rfl rfl rfl; (focus (intro W hW K hK; have := conv1 W (v9.heap.size) (97 + (k : Int)) ((cells_of (heap_below hW x8v10)) 0); go_step; exact hK)); (focus rfl)); (apply StI_plain (w0 := v10) (Below.refl v10.heap.size v10) rfl rfl rfl rfl; (focus (intro W hW K hK; have := conv1 W (v9.heap.size) (97 + (k : Int)) ((cells_of (heap_below hW x8v10)) 0); go_step; exact hK)); (focus rfl)); (apply StI_plain (w0 := v10) (Below.refl v10.heap.size v10) rfl rfl rfl rfl; (focus (intro W hW K hK; have := conv1 W (v9.heap.size) (97 + (k : Int)) ((cells_of (heap_below hW x8v10)) 0); go_step; exact hK)); (focus rfl))
            have xc' := cells_of x11v10
            have xf' := frozen_of x11v10
            have xl' := lt_of_heap x11v10
            (apply StI_eff rfl; go_wp2_with (first | fail))
            refine onNormal_last ?_
            go_wp2_with fail
            go_meet
            exact stpB_end hDv10 (show wd.heap.size ≤ v6.heap.size from (hDv6).size) x11v10 Hhnb.out Hhcb.out
        · (apply wpOp_eff rfl; go_wp2_with (first | fail))
          have hDv11 : Below wd.heap.size wd (wd.alloc (.cells #[.string ⟨#[]⟩, .slice none 0 0, .int .i64 0, .int .i64 0, .bool false, .bool false, .int .i64 0] 49)).drew := ((Below.refl _ _).alloc (Nat.le_refl _) _).drew
          have hBv11 := hDv11
          have x11v11 : (wd.alloc (.cells #[.string ⟨#[]⟩, .slice none 0 0, .int .i64 0, .int .i64 0, .bool false, .bool false, .int .i64 0] 49)).drew.heap[wd.heap.size]? = some (.cells #[.string ⟨#[]⟩, .slice none 0 0, .int .i64 0, .int .i64 0, .bool false, .bool false, .int .i64 0] 49 (0, 0)) := heap_alloc_at _ _
          generalize (wd.alloc (.cells #[.string ⟨#[]⟩, .slice none 0 0, .int .i64 0, .int .i64 0, .bool false, .bool false, .int .i64 0] 49)).drew = v11 at hDv11 hBv11 x11v11 ⊢
          refine ot3To (fun W => Below v11.heap.size v11 W) (fun W h => below_mid hBv11 (Nat.le_refl _) h) (Below.refl _ _) (ot3Two ?_)
          refine StI_nil ⟨?_, ?_⟩
          · (apply wpOp_eff rfl; go_wp2_with (first | fail))
            have hBv12 : Below v11.heap.size v11 (v11.alloc (.cells #[.int .u8 (97 + (k : Int))] 5)) := (Below.refl _ _).alloc (Nat.le_refl _) _
            have hDv12 : Below wd.heap.size wd (v11.alloc (.cells #[.int .u8 (97 + (k : Int))] 5)) := below_mid hDv11 (Nat.le_refl _) hBv12
            have x8v12 : (v11.alloc (.cells #[.int .u8 (97 + (k : Int))] 5)).heap[v11.heap.size]? = some (.cells #[.int .u8 (97 + (k : Int))] 5 (0, 0)) := heap_alloc_at _ _
            have x11v12 := heap_below hBv12 x11v11
            generalize (v11.alloc (.cells #[.int .u8 (97 + (k : Int))] 5)) = v12 at hDv12 hBv12 x8v12 x11v12 ⊢
            refine ot3To (fun W => Below v12.heap.size v12 W) (fun W h => below_mid hBv12 (Nat.le_refl _) h) (Below.refl _ _) (ot3One ?_)
            (apply StI_plain (w0 := v12) (Below.refl v12.heap.size v12) rfl rfl rfl rfl; (focus (intro W hW K hK; have := conv1 W (v11.heap.size) (97 + (k : Int)) ((cells_of (heap_below hW x8v12)) 0); go_step; exact hK)); (focus rfl)); (apply StI_plain (w0 := v12) (Below.refl v12.heap.size v12) rfl rfl rfl rfl; (focus (intro W hW K hK; have := conv1 W (v11.heap.size) (97 + (k : Int)) ((cells_of (heap_below hW x8v12)) 0); go_step; exact hK)); (focus rfl))
            (apply StI_eff rfl; go_wp2_with (first | (go_at_call 6; refine (tspan_any _ _ _).mono ?_; rintro e v13 ⟨rfl, hBv13⟩)))
            have hDv13 : Below wd.heap.size wd v13 := below_mid hDv12 (Nat.le_refl _) hBv13
            have x8v13 := heap_below hBv13 x8v12
            have x11v13 := heap_below hBv13 x11v12
            refine ot3To (fun W => Below v13.heap.size v13 W) (fun W h => below_mid hBv13 (Nat.le_refl _) h) (Below.refl _ _) (ot3SnkI ?_)
            (apply StI_plain (w0 := v13) (Below.refl v13.heap.size v13) rfl rfl rfl rfl; (focus (intro W hW K hK; skip; go_step; exact hK)); (focus rfl))
            have xc' := cells_of x11v13
            have xf' := frozen_of x11v13
            have xl' := lt_of_heap x11v13
            (apply StI_eff rfl; go_wp2_with (first | fail))
            refine onNormal_last ?_
            go_wp2_with fail
            go_meet
            exact stpB_end hDv13 (show wd.heap.size ≤ wd.heap.size from Nat.le_refl _) x11v13 Hhnb.out Hhcb.out
          · (apply wpOp_eff rfl; go_wp2_with (first | (go_at_call 6; refine (tspan_any _ _ _).mono ?_; rintro e v14 ⟨rfl, hBv14⟩)))
            have hDv14 : Below wd.heap.size wd v14 := below_mid hDv11 (Nat.le_refl _) hBv14
            have x11v14 := heap_below hBv14 x11v11
            refine ot3To (fun W => Below v14.heap.size v14 W) (fun W h => below_mid hBv14 (Nat.le_refl _) h) (Below.refl _ _) (ot3One ?_)
            (apply StI_eff rfl; go_wp2_with (first | fail))
            have hBv15 : Below v14.heap.size v14 (v14.alloc (.cells #[.int .u8 (97 + (k : Int))] 5)) := (Below.refl _ _).alloc (Nat.le_refl _) _
            have hDv15 : Below wd.heap.size wd (v14.alloc (.cells #[.int .u8 (97 + (k : Int))] 5)) := below_mid hDv14 (Nat.le_refl _) hBv15
            have x8v15 : (v14.alloc (.cells #[.int .u8 (97 + (k : Int))] 5)).heap[v14.heap.size]? = some (.cells #[.int .u8 (97 + (k : Int))] 5 (0, 0)) := heap_alloc_at _ _
            have x11v15 := heap_below hBv15 x11v14
            generalize (v14.alloc (.cells #[.int .u8 (97 + (k : Int))] 5)) = v15 at hDv15 hBv15 x8v15 x11v15 ⊢
            refine ot3To (fun W => Below v15.heap.size v15 W) (fun W h => below_mid hBv15 (Nat.le_refl _) h) (Below.refl _ _) (ot3SnkI ?_)
            (apply StI_plain (w0 := v15) (Below.refl v15.heap.size v15) rfl rfl rfl rfl; (focus (intro W hW K hK; have := conv1 W (v14.heap.size) (97 + (k : Int)) ((cells_of (heap_below hW x8v15)) 0); go_step; exact hK)); (focus rfl)); (apply StI_plain (w0 := v15) (Below.refl v15.heap.size v15) rfl rfl rfl rfl; (focus (intro W hW K hK; have := conv1 W (v14.heap.size) (97 + (k : Int)) ((cells_of (heap_below hW x8v15)) 0); go_step; exact hK)); (focus rfl)); (apply StI_plain (w0 := v15) (Below.refl v15.heap.size v15) rfl rfl rfl rfl; (focus (intro W hW K hK; have := conv1 W (v14.heap.size) (97 + (k : Int)) ((cells_of (heap_below hW x8v15)) 0); go_step; exact hK)); (focus rfl))
            have xc' := cells_of x11v15
            have xf' := frozen_of x11v15
            have xl' := lt_of_heap x11v15
            (apply StI_eff rfl; go_wp2_with (first | fail))
            refine onNormal_last ?_
            go_wp2_with fail
            go_meet
            exact stpB_end hDv15 (show wd.heap.size ≤ wd.heap.size from Nat.le_refl _) x11v15 Hhnb.out Hhcb.out
--R14E
      case rest =>
        obtain ⟨q11, rfl, hq11, y11, hbx⟩ := hcut
        have x10x := heap_below hbx Hx10.out
        have x10c := cells_of x10x
        have x10l := lt_of_heap x10x
        have xz : xc < 65536 := xc1
        have Hx10x := Lib.hid x10x; clear x10x; have Hy11 := Lib.hid y11; clear y11; have Hhbx := Lib.hid hbx; clear hbx
        go_wp2_with fail
        go_loopw [112] (fun i wx => InnerI k xa xb xc q11 wd i wx) (fun i _ => k - (intOf i).toNat)
        case atStart => exact ⟨0, _, Nat.zero_le _, rfl, Hy11.out, World.ownsRow_nil _ _ _ _, Hhbx.out⟩
        case round =>
          obtain ⟨j, va, hj, rfl, r11, hrva, hbi⟩ := hrel
          have x10w := (hbi.block _ (lt_of_heap Hx10.out)).trans Hx10.out
          have x10wc := cells_of x10w
          have r11c := cells_of r11
          have r11f := frozen_of r11
          have r11l := lt_of_heap r11
          have hrl := row_len hrva
          have hj8 : j < 8 := by omega
          clear x10c x10l
          have Hx10w := Lib.hid x10w; clear x10w; have Hr11 := Lib.hid r11; clear r11
          by_cases hjk : j < k
          · have hpb := pow_bd xc0 xc1 j
            have hbit := and_u16_one (xc / 2 ^ j) hpb.1 hpb.2
            have hsn := afterOf_succ xc j
            have hbt : xc / 2 ^ j % 2 = 0 ∨ xc / 2 ^ j % 2 = 1 := by omega
            have hal := afterOf_length xc j
            rcases hbt with hbt | hbt
            · rw [hbt] at hbit hsn
              rw [if_neg (by decide)] at hsn
              have HRV := Lib.hid hrva
              clear hrva hrl hbt hpb
              have Hhsn := Lib.hid hsn; clear hsn; have Hhbi := Lib.hid hbi; clear hbi
              go_wp2_with fail
              go_roundw
              case rel => exact ⟨j + 1, va, by omega, by go_num, Hr11.out, by rw [Hhsn.out]; exact HRV.out, Hhbi.out⟩
              case measure => simp [intOf]; omega
            · rw [hbt] at hbit hsn
              rw [if_pos (by decide)] at hsn
              obtain ⟨i0, hinf, hz0, hz1, hz2⟩ := info_parts info3
              have hmax : (afterOf xc j).length + 1 ≤ maxLen := by unfold maxLen; omega
              have hszx : wd.heap.size ≤ wr.heap.size := hbi.size
              have hlt0 := fun g (hg : va.ownBlock = some g) => (hrva.lt g hg).1
              have nq : some q11 ≠ va.ownBlock := fun h => cells_not_row Hr11.out (by decide) hrva h.symm
              have hrl11 : q11 < wr.heap.size := r11l
              clear hrl hbt hpb
              have Hhsn := Lib.hid hsn; clear hsn; have Hhbi := Lib.hid hbi; clear hbi
              go_wp2_with (at_builtin; refine wpList_append_own _ rfl _ _ 47 rfl wd.heap.size 3 i0 (.int .i64 0) 1 8 Try.underlying47 hinf hz0 hz1 hz2 rfl (by decide) _ _ _ rfl (hrva.alloc _) ⟨wr.heap.size, 0, none⟩ 1 1 [.int .i64 j] rfl rfl (news1 _ _ _) (by simp [Value.oneCell']) (by omega) (by omega) (by simp; omega) ?_; intro v' w4 hown' hgrow _; obtain ⟨g', cap', rfl⟩ := ownsRow_succ hown'; replace hgrow : (wr.alloc (.cells #[.int .i64 j] 3)).grownBy w4 va.ownBlock := hgrow; have k1 := (hgrow.block q11 (by simp; omega) nq).trans (heap_alloc_off Hr11.out _); have hb4 : Below wd.heap.size wd w4 := (Hhbi.out.alloc hszx _).grown hgrow (by simp; omega) (fun k hk => hlt0 k hk); have k1c := cells_of k1; have k1f := frozen_of k1; have k1l := lt_of_heap k1; clear r11c r11f; have Hk1 := Lib.hid k1; clear k1; have Hhb4 := Lib.hid hb4; clear hb4; have Hown := Lib.hid hown'; clear hown' hgrow)
              have hnq := cells_not_row Hk1.out (by decide) Hown.out
              refine ⟨⟨j + 1, _, by omega, by go_num, (heap_setCell_at Hk1.out _).trans rfl, ?_, Hhb4.out.setCell (p := ⟨q11, 1, none⟩) hq11 _⟩, by simp [intOf]; omega⟩
              rw [Hhsn.out, List.length_append, List.map_append]
              exact ownsRow_setCell_other Hown.out (a := ⟨q11, 1, none⟩) hnq _
          · obtain rfl : j = k := by omega
            have hrowl := row_belowG (row_belowG HROW.out Hhbd.out) hbi
            have hafl : ∀ u ∈ l, AfterM wr w3.heap.size u := fun u hu => row_belowG (row_belowG (HAF.out u hu) Hhbd.out) hbi
            have hb3x : Below w3.heap.size w3 wr := bl_step (bl_step Hhb.out Hhbd.out) hbi
            have hwd3 : w3.heap.size ≤ wd.heap.size := (bl_step Hhb.out Hhbd.out).size
            have hva3 := row_mono hrva hwd3
            obtain ⟨ava, cva, hvae⟩ := hrl
            have hszx3 : w3.heap.size ≤ wr.heap.size := hb3x.size
            obtain ⟨i0, hinf, hz0, hz1, hz2⟩ := info_parts info49
            have hmax : j + 1 ≤ maxLen := by unfold maxLen; omega
            have hlt0 := fun g (hg : u8.ownBlock = some g) => (hrowl.lt g hg).1
            subst hvae
            clear hrva
            have HVA := Lib.hid hva3
            have HAL := Lib.hid hafl
            clear hva3 hafl
            have Hhbi := Lib.hid hbi; clear hbi; have Hhb3x := Lib.hid hb3x; clear hb3x
            have hnews := news7 wr (.string (nameOf j)) (.slice ava (afterOf xc j).length cva) (.int .i64 (xa * 50)) (.int .i64 (xa * 50 + xb * 50)) (.bool (xc / 256 % 2 == 1)) (.bool false) (.int .i64 0) 49
            go_wp2_with (at_builtin; refine wpList_append_own _ rfl _ _ 42 rfl w3.heap.size 49 i0 (.agg #[.string ⟨#[]⟩, .slice none 0 0, .int .i64 0, .int .i64 0, .bool false, .bool false, .int .i64 0]) 7 72 Try.underlying42 hinf hz0 hz1 hz2 rfl (by decide) _ _ _ rfl (hrowl.alloc _) ⟨wr.heap.size, 0, none⟩ 1 1 [.string (nameOf j), .slice ava (afterOf xc j).length cva, .int .i64 (xa * 50), .int .i64 (xa * 50 + xb * 50), .bool (xc / 256 % 2 == 1), .bool false, .int .i64 0] rfl rfl hnews (by simp [Value.oneCell']) (by omega) (by omega) (by simp; omega) ?_; intro v' w4 hown' hgrow _)
            replace hgrow : (wr.alloc (.cells #[.string (nameOf j), .slice ava (afterOf xc j).length cva, .int .i64 (xa * 50), .int .i64 (xa * 50 + xb * 50), .bool (xc / 256 % 2 == 1), .bool false, .int .i64 0] 49)).grownBy w4 u8.ownBlock := hgrow
            refine ⟨⟨j + 1, l ++ [(stpAt ss j, .slice ava (afterOf xc j).length cva)], by omega, by go_num, ?_, ?_, ?_, ?_⟩, by simp [intOf]; omega⟩
            · rw [List.map_append, Hhl.out, stpsTo_succ]; rfl
            · rw [scells_snoc, Hhsa.out]; exact hown'
            · intro u hu
              rcases List.mem_append.1 hu with hu | hu
              · exact World.ownsRow.kept (World.ownsRow.alloc (HAL.out u hu) _) hgrow (rows_apart (HAL.out u hu) hrowl (by decide))
              · obtain rfl := List.mem_singleton.1 hu
                unfold AfterM
                rw [Hhsa.out]
                exact World.ownsRow.kept (World.ownsRow.alloc HVA.out _) hgrow (rows_apart HVA.out hrowl (by decide))
            · exact (Hhb3x.out.alloc hszx3 _).grown hgrow (by simp; omega) (fun k hk => hlt0 k hk)
--S}
    · obtain rfl : k = ss.length := by omega
      have z3r := heap_below hb Hz3.out
      have zbr := heap_below hb Hzb.out
      have zbrc := cells_of zbr
      have zbrl := lt_of_heap zbr
      have z3rl := lt_of_heap z3r
      have hMr := HM3.out.below (hb.mono (by have := Hhb13.out.size; omega))
      have hSwr := HSW.out.below (ek_span _) hb
      have hb0r : Below w.heap.size w wr := bl_step (bl_step Hhbw1.out Hhb13.out) hb
      have hll : l.length = ss.length := by rw [← List.length_map (f := Prod.fst), hl, stpsTo_length]
      have hok := stps_ok ss h8 HS.out
      have hfew : ∀ u ∈ l, u.1.after.length ≤ 1000 := fun u hu => by
        have hm : u.1 ∈ stpsTo ss ss.length := by rw [← hl]; exact List.mem_map_of_mem hu
        obtain ⟨i, hi, he⟩ := List.mem_iff_getElem.1 hm
        rw [← he]
        have := (hok.each i hi).few
        omega
      rw [← hll] at hrow
      obtain ⟨al, cl, hul, hcl1, hcl2, hSl⟩ := sl_steps hrow haf hfew (by omega)
      rw [hl] at hSl
      rw [hll] at hul hcl1
      subst hul
      clear hrow haf hfew
      obtain ⟨bb, hbb⟩ : ∃ x, b0 % 400000000 = x := ⟨_, rfl⟩
      obtain ⟨bn, hbn⟩ : ∃ x, b1 % 10000000 = x := ⟨_, rfl⟩
      have bb0 : 0 ≤ bb := by omega
      have bb1 : bb < 400000000 := by omega
      have bn0 : 0 ≤ bn := by omega
      have bn1 : bn < 10000000 := by omega
      obtain ⟨be, hbe⟩ : ∃ x, bb + bn = x := ⟨_, rfl⟩
      have hwsok := winsOk_of HWK.out lo0 (by omega) hwn
      have hszr : w3.heap.size ≤ wr.heap.size := hb.size
      have hcl := fun W (hx : Below wr.heap.size wr W) => closing_ok (stpsTo ss ss.length) al aw cl cw wr.heap.size bb be ws W hx.size (hSl.below (ek_stp _) hx) hok (by rw [stpsTo_length]; exact hcl1) hcl2
        ⟨(hSwr.below (ek_span _) (hx.mono hszr)).1, fun k hk => by obtain ⟨b', o, h1, h2, h3⟩ := (hSwr.below (ek_span _) (hx.mono hszr)).2 k hk; exact ⟨b', o, h1, by omega, h3⟩⟩ hwsok (by omega) (by omega) (by omega)
      have hsl := stpsTo_length ss ss.length
      obtain ⟨sl, hsl0⟩ : ∃ x, stpsTo ss ss.length = x := ⟨_, rfl⟩
      rw [hsl0] at hcl hsl hok hSl
      obtain ⟨n, hnn⟩ : ∃ n, ss.length = n := ⟨_, rfl⟩
      rw [hnn] at hsl hcl1
      have hn8 : n ≤ 8 := by omega
      rw [hsl] at hcl
      have HSL := Lib.hid hSl
      have HSWR := Lib.hid hSwr
      have HOK := Lib.hid hok
      have HMR := Lib.hid hMr
      have HWO := Lib.hid hwsok
      clear hSl hSwr hok hMr hwsok
      have Hz3r := Lib.hid z3r; clear z3r; have Hzbr := Lib.hid zbr; clear zbr; have Hhb := Lib.hid hb; clear hb; have Hhb0r := Lib.hid hb0r; clear hb0r; have Hhl := Lib.hid hl; clear hl; have Hhll := Lib.hid hll; clear hll; have Hhsl0 := Lib.hid hsl0; clear hsl0
      go_wp2_with fail
      refine (tspan_any _ _ _).mono ?_
      rintro e w4 ⟨rfl, hb4⟩
      go_wp2_with fail
      have hb4' : Below wr.heap.size wr (w4.alloc (.cells #[.int .i64 bb, .int .i64 be] 36)) := bl_alloc hb4 _
      refine (hcl _ hb4').mono ?_
      rintro e w5 ⟨v5, rfl, hrow5, hb5⟩
      have q13 : w5.heap[w4.heap.size]? = some (.cells #[.int .i64 bb, .int .i64 be] 36 (0, 0)) := heap_below hb5 (heap_alloc_at' _ _ rfl)
      have hbr5 := bl_step hb4' hb5
      obtain ⟨ends, hends⟩ : ∃ x, closeT (bb, be) ws sl = x := ⟨_, rfl⟩
      have hel := closeT_length (bb, be) ws sl
      rw [hends] at hrow5 hel
      rw [hsl] at hel
      rw [← hel] at hrow5
      obtain ⟨ae, ce, hv5, hSe⟩ := sl_spans hrow5 (by omega)
      subst hv5
      rw [hel]
      have HSE := Lib.hid hSe
      have q13c := cells_of q13
      have q13l := lt_of_heap q13
      clear hrow5 hSe hcl hb5 hb4 hb4' zbrc zbrl
      have Hq13 := Lib.hid q13; clear q13; have Hhbr5 := Lib.hid hbr5; clear hbr5; have Hhends := Lib.hid hends; clear hends; have Hhel := Lib.hid hel; clear hel
      obtain ⟨_, _, _, _, _, _, _⟩ := lts q13l
      go_wp2_with fail
      have hcok := close_ok (b := (bb, be)) (fun u hu => HWO.out.each u hu) ⟨⟨bb0, by show bb ≤ _; omega⟩, ⟨by show 0 ≤ be; omega, by show be ≤ _; omega⟩⟩ sl (fun t ht => by
        obtain ⟨i, hi, rfl⟩ := List.mem_iff_getElem.1 ht
        have := HOK.out.each i hi
        exact ⟨this.t0, this.t1, this.t2⟩) (by omega)
      rw [Hhends.out, hsl] at hcok
      have HCOK := Lib.hid hcok
      clear hcok
      go_loopw [169] (fun i wx => ∃ k : Nat, k ≤ n ∧ i = .int .i64 k ∧ Below w5.heap.size w5 wx) (fun i _ => n - (intOf i).toNat)
      case atStart => exact ⟨0, Nat.zero_le _, rfl, (by repeat (first | exact Below.refl _ _ | (refine bl_setCell ?_ _ _ ?_; rotate_left; focus (first | omega | (simp; done) | (simp; omega))) | refine bl_alloc ?_ _ | refine bl_step ?_ (by assumption) | refine bl_drew ?_ | refine bl_drewN ?_ _))⟩
      case round =>
        obtain ⟨i, hi', rfl, hw⟩ := hrel
        by_cases hin : i < n
        · have hOB := bl_step Hhbr5.out hw
          have hSl' := HSL.out.below (ek_stp _) hOB
          obtain ⟨bS, oS, hal, hbS, heS⟩ := hSl'.2 i (by rw [hsl]; exact hin)
          subst hal
          have hgd := HOK.out.each i (by rw [hsl]; exact hin)
          have hen := end_get (bb, be) ws sl i (by rw [hsl]; exact hin) hgd.before (0, 0)
          rw [Hhends.out] at hen
          obtain ⟨s, hs⟩ : ∃ s, sl[i]'(by rw [hsl]; exact hin) = s := ⟨_, rfl⟩
          rw [hs] at heS hgd hen
          obtain ⟨aa, ca, hca, hca', e0, e1, e2, e3, e4, e5, e6, hsa⟩ := heS
          have hSe' := HSE.out.below (ek_span _) hw
          have hel := Hhel.out
          obtain ⟨bE, oE, hae, hbE, heE⟩ := hSe'.2 i (by omega)
          subst hae
          rw [getD_eq (by omega) (0, 0), hen] at heE
          have hbSw : bS < wr.heap.size := by have := hOB.size; omega
          have hbEw : bE < wr.heap.size := by have := hw.size; omega
          have hro := ready_ok (b := (bb, be)) (show n ≤ 32 by omega) ⟨.inr ⟨bb0, by show bb ≤ _; omega⟩, .inr ⟨by show 0 ≤ be; omega, by show be ≤ _; omega⟩⟩ HCOK.out s.after
          have hrh := readyHi_eq (b := (bb, be)) HCOK.out s.after
          obtain ⟨R, hR⟩ : ∃ R, readyT (bb, be) ends s.after = R := ⟨_, rfl⟩
          rw [hR] at heE hro hrh
          obtain ⟨R1, R2⟩ := R
          simp only at heE hro hrh
          obtain ⟨ev, hev⟩ : ∃ v, endT s.calm R2 s.thi ws = v := ⟨_, rfl⟩
          rw [hev] at heE
          have heE1 := heE.2
          simp only at heE1
          have r2b := hro.2.bd (show n ≤ 32 by omega)
          have ht0 := hgd.t0
          have ht1 := hgd.t1
          have ht2 := hgd.t2
          have hafw := hgd.few
          have hq13 := heap_below hw Hq13.out
          have hq13c := cells_of hq13
          have hq13l := lt_of_heap hq13
          have hz3i := heap_below hOB Hz3r.out
          have hMi := HMR.out.below (hOB.mono (by have := Hhb.out.size; have := Hhb13.out.size; omega))
          have hSwi := HSWR.out.below (ek_span _) (hOB.mono (Hhb.out.size))
          have HE' := Lib.hid hSe'
          have HSA := Lib.hid hsa
          have HGD := Lib.hid hgd
          have HMI := Lib.hid hMi
          have HSWI := Lib.hid hSwi
          clear hSe' hsa hMi hSwi hro hgd heE hSl' q13c q13l hen
          have Hhw := Lib.hid hw; clear hw; have HhOB := Lib.hid hOB; clear hOB; have Hhs := Lib.hid hs; clear hs; have HhR := Lib.hid hR; clear hR; have Hhrh := Lib.hid hrh; clear hrh; have Hhev := Lib.hid hev; clear hev; have Hhq13 := Lib.hid hq13; clear hq13; have Hhz3i := Lib.hid hz3i; clear hz3i; have Hhel := Lib.hid hel; clear hel
          go_wp2_with fail
          go_loop [18, 179] (fun r idx => ∃ j : Nat, j ≤ s.after.length ∧ idx = .int .i64 j ∧ r = .int .i64 (readyHi be ends (s.after.take j))) (fun _ idx => s.after.length - (intOf idx).toNat)
          case atStart => exact ⟨0, Nat.zero_le _, rfl, rfl⟩
          case round =>
            obtain ⟨j, hj, rfl, rfl⟩ := hrel
            by_cases hjl : j < s.after.length
            · obtain ⟨bA, oA, haa, hbA, heA⟩ := HSA.out.2 j hjl
              have hbe2 := HGD.out.before s.after[j] (List.getElem_mem hjl)
              have hsn := readyHi_snoc be ends (s.after.take j) s.after[j]
              rw [← List.take_succ_eq_append_getElem hjl] at hsn
              obtain ⟨y, hy⟩ : ∃ y, s.after[j] = y := ⟨_, rfl⟩
              rw [hy] at heA hbe2 hsn
              obtain ⟨y0, y1⟩ := hbe2
              obtain ⟨bE2, oE2, hae2, hbE2, heE2⟩ := HE'.out.2 y.toNat (by have := Hhel.out; omega)
              simp only [Option.some.injEq, Addr.mk.injEq, and_true] at hae2
              obtain ⟨rfl, rfl⟩ := hae2
              rw [getD_eq (by have := Hhel.out; omega) (0, 0)] at heE2
              have hey : ends.getD y.toNat (0, 0) = at' ends y := rfl
              rw [hey] at heE2
              have hok2 := (at_ok HCOK.out y).2
              obtain ⟨E, hE⟩ : ∃ E, at' ends y = E := ⟨_, rfl⟩
              rw [hE] at heE2 hsn hok2
              obtain ⟨E1, E2⟩ := E
              simp only at heE2 hsn hok2
              have heE3 := heE2.2
              simp only at heE3
              have hEb := hok2.bd (show n ≤ 32 by omega)
              have heA' : wr.cell? ⟨bA, oA + j, none⟩ = some (.int .i64 y) := by have := heA; unfold IntE at this; simpa using this
              have hyn : y < (n : Int) := by omega
              subst haa
              have hbAw : bA < wr.heap.size := by have := HhOB.out.size; omega
              obtain ⟨rr, hrr⟩ : ∃ rr, readyHi be ends (s.after.take j) = rr := ⟨_, rfl⟩
              rw [hrr] at hsn ⊢
              clear heE2 hok2 hey heA
              by_cases hj0 : j = 0
              · subst hj0
                rw [if_pos (by simp)] at hsn
                have he0 : wr.cell? ⟨bA, oA, none⟩ = some (.int .i64 y) := by simpa using heA'
                clear heA'
                have Hhsn := Lib.hid hsn; clear hsn; have Hhy := Lib.hid hy; clear hy; have HhE := Lib.hid hE; clear hE; have Hhrr := Lib.hid hrr; clear hrr
                go_wp2_with fail
                all_goals
                  go_round
                  case rel => exact ⟨0 + 1, by omega, by go_num, by first | rw [Hhsn.out] | (rw [Hhsn.out]; congr 1; omega)⟩
                  case measure => simp [intOf]; omega
              · rw [if_neg (take_ne hj0 hjl)] at hsn
                have hj0' : ((j : Int) == 0) = false := by simp; omega
                have Hhsn := Lib.hid hsn; clear hsn; have Hhy := Lib.hid hy; clear hy; have HhE := Lib.hid hE; clear hE; have Hhrr := Lib.hid hrr; clear hrr
                go_wp2_with fail
                all_goals
                  go_round
                  case rel => exact ⟨j + 1, by omega, by go_num, by first | rw [Hhsn.out] | (rw [Hhsn.out]; congr 1; omega)⟩
                  case measure => simp [intOf]; omega
            · obtain rfl : j = s.after.length := by omega
              rw [List.take_length]
              rw [Hhrh.out]
              clear HSA
              cases hcm : s.calm
              · rw [hcm] at e4
                go_wp2_with fail
                go_roundw
                case rel => exact ⟨i + 1, by omega, by go_num, bl_alloc Hhw.out _⟩
                case measure => simp [intOf]; omega
              · have hev' := Hhev.out
                rw [hcm] at hev'
                by_cases hnv : 1099511627776 ≤ R2
                · have Hhev' := Lib.hid hev'; clear hev'
                  go_wp2_with fail
                  go_roundw
                  case rel => exact ⟨i + 1, by omega, by go_num, bl_alloc Hhw.out _⟩
                  case measure => simp [intOf]; omega
                · have hnv' : R2 < 1099511627776 := by omega
                  have hce := calm_end hnv' lo0 (by omega) (by omega) HWK.out hev'
                  clear hnv
                  have Hhev' := Lib.hid hev'; clear hev'
                  rcases hce with ⟨hc1, hc2⟩ | ⟨hc1, hc2⟩
                  · have HC2 := Lib.hid hc2
                    clear hc2
                    go_wp2_with fail
                    go_loopw [210] (fun idx wx => LoopW ws.length wr (.cells #[.string s.name, .slice aa s.after.length ca, .int .i64 s.tlo, .int .i64 s.thi, .bool true, .bool false, .int .i64 0] 49 (0, 0)) idx wx) (fun idx _ => ws.length - (intOf idx).toNat)
                    case atStart => exact ⟨0, Nat.zero_le _, rfl, heap_alloc_at _ _, bl_alloc (Below.refl _ _) _⟩
                    case round =>
                      obtain ⟨u, hu, rfl, k17, hbw⟩ := hrel
                      have k17c := cells_of k17
                      have k17l := lt_of_heap k17
                      by_cases hul : u < ws.length
                      · obtain ⟨bW, oW, haw, hbW, heW⟩ := (HSWI.out.below (ek_span _) (hbw.mono (by have := Hhw.out.size; have := Hhbr5.out.size; have := Hhb.out.size; omega))).2 u hul
                        have hcu := HC2.out ws[u] (List.getElem_mem hul)
                        have hwu := HWO.out.each ws[u] (List.getElem_mem hul)
                        obtain ⟨W1, hW1⟩ : ∃ x, ws[u] = x := ⟨_, rfl⟩
                        rw [hW1] at heW hcu hwu
                        obtain ⟨u1, u2⟩ := W1
                        obtain ⟨eW0, eW1⟩ := heW
                        simp only at eW0 eW1 hcu hwu
                        subst haw
                        have hbWw : bW < wr.heap.size := by have := hbw.size; have := Hhw.out.size; have := Hhbr5.out.size; have := Hhb.out.size; omega
                        obtain ⟨hwu0, hwu1, hwu2⟩ := hwu
                        have HhW1 := Lib.hid hW1; clear hW1; have Hhbw := Lib.hid hbw; clear hbw; have Hk17 := Lib.hid k17; clear k17
                        by_cases hcc : R2 < u1
                        · rw [Int.max_eq_right (by omega)] at hcu
                          go_wp2_with fail
                          go_roundw
                          case rel => exact ⟨u + 1, by omega, by go_num, heap_alloc_off Hk17.out _, bl_alloc Hhbw.out _⟩
                          case measure => simp [intOf]; omega
                        · rw [Int.max_eq_left (by omega)] at hcu
                          have hcc' : u1 ≤ R2 := by omega
                          clear hcc
                          go_wp2_with fail
                          go_roundw
                          case rel => exact ⟨u + 1, by omega, by go_num, heap_alloc_off Hk17.out _, bl_alloc Hhbw.out _⟩
                          case measure => simp [intOf]; omega
                      · go_wp2_with fail
                        go_roundw
                        case rel => exact ⟨i + 1, by omega, by go_num, bl_step Hhw.out hbw⟩
                        case measure => simp [intOf]; omega
                  · have HC2 := Lib.hid hc2
                    clear hc2
                    have hy0 := HC2.out (ev - s.thi) (.inl rfl)
                    have hy1 := HC2.out (ev - s.thi / 2) (.inr (.inl rfl))
                    have hy2 := HC2.out ev (.inr (.inr rfl))
                    obtain ⟨_, _, _, hl0⟩ := hy0
                    obtain ⟨_, _, _, hl1⟩ := hy1
                    obtain ⟨_, _, _, hl2⟩ := hy2
                    have Hhl0 := Lib.hid hl0; clear hl0; have Hhl1 := Lib.hid hl1; clear hl1; have Hhl2 := Lib.hid hl2; clear hl2
                    go_wp2_with fail
                    go_loopw [240] (fun idx wx => LoopV 3 wr (wr.heap.size + 1) (.cells #[.int .i64 (ev - s.thi), .int .i64 (ev - s.thi / 2), .int .i64 ev] 3 (0, 0)) idx wx) (fun idx _ => 3 - (intOf idx).toNat)
                    case atStart => exact ⟨0, by omega, rfl, heap_alloc_at' _ _ (by simp), (by repeat (first | exact Below.refl _ _ | (refine bl_setCell ?_ _ _ ?_; rotate_left; focus (first | omega | (simp; done) | (simp; omega))) | refine bl_alloc ?_ _ | refine bl_step ?_ (by assumption) | refine bl_drew ?_ | refine bl_drewN ?_ _))⟩
                    case round =>
                      obtain ⟨u, hu, rfl, kt, hbw⟩ := hrel
                      have ktc := cells_of kt
                      have ktl := lt_of_heap kt
                      by_cases hul : u < 3
                      · obtain ⟨y, hyc, hyr, hy0, hy9, hyl⟩ : ∃ y : Int, wr.cell? ⟨_, u, none⟩ = some (.int .i64 y) ∧ R2 ≤ y ∧ 0 ≤ y ∧ y ≤ 1000000000 ∧ levLo m pp y y ≤ lev := by
                          have hu3 : u = 0 ∨ u = 1 ∨ u = 2 := by omega
                          rcases hu3 with rfl | rfl | rfl
                          · exact ⟨_, ktc 0, by omega, by omega, by omega, Hhl0.out⟩
                          · exact ⟨_, ktc 1, by omega, by omega, by omega, Hhl1.out⟩
                          · exact ⟨_, ktc 2, by omega, by omega, by omega, Hhl2.out⟩
                        obtain ⟨X, hX⟩ : ∃ X, levLo m pp y y = X := ⟨_, rfl⟩
                        obtain ⟨Y, hY⟩ : ∃ Y, levHi m pp y y = Y := ⟨_, rfl⟩
                        rw [hX] at hyl
                        have hMw := HMI.out.below (hbw.mono (by have := hbw.size; have := Hhw.out.size; have := Hhbr5.out.size; have := Hhb.out.size; have := Hhb13.out.size; omega))
                        have hBw1 : w1.heap.size ≤ wr.heap.size := by have := hbw.size; have := Hhw.out.size; have := Hhbr5.out.size; have := Hhb.out.size; have := Hhb13.out.size; omega
                        have hLv := fun W (hx : Below wr.heap.size wr W) => Level_ok m pp ap cp w1.heap.size y y W (hMw.below (hx.mono hBw1)) (by have := hx.size; omega) hy0 (Int.le_refl _) hy9 X Y hX hY
                        have hz3w := heap_below hbw Hhz3i.out
                        have hz3c := cells_of hz3w
                        have hz3l := lt_of_heap hz3w
                        clear hMw ktc
                        have HhX := Lib.hid hX; clear hX; have HhY := Lib.hid hY; clear hY; have Hhbw := Lib.hid hbw; clear hbw; have Hkt := Lib.hid kt; clear kt; have Hhz3w := Lib.hid hz3w; clear hz3w
                        go_upto_region 50 with fail
                        have hI : Below wr.heap.size wr wr.drew := (Below.refl _ _).drew
                        refine wp_region_ordT (fun W => Below wr.heap.size wr W) (.two [0, 1, 2] 3 (.two [] 4 (.one [5, 6, 7] 8 (.one [] 9 (.fin [10] none))) 8 (.one [] 4 (.one [5, 6, 7] 9 (.fin [10] none)))) 8 (.one [] 3 (.one [] 4 (.one [5, 6, 7] 9 (.fin [10] none))))) (by kernel_rfl) (by kernel_rfl) hI ?_
                        refine otTwo ?_
                        (apply StI_plain (w0 := wr.drew) hI rfl rfl rfl rfl; (focus (intro W hW K hK; obtain ⟨_, _⟩ := bk w1.heap.size hW hz3l; go_step; exact hK)); (focus rfl)); (apply StI_plain (w0 := wr.drew) hI rfl rfl rfl rfl; (focus (intro W hW K hK; obtain ⟨_, _⟩ := bk w1.heap.size hW hz3l; go_step; exact hK)); (focus rfl)); (apply StI_plain (w0 := wr.drew) hI rfl rfl rfl rfl; (focus (intro W hW K hK; obtain ⟨_, _⟩ := bk w1.heap.size hW hz3l; go_step; exact hK)); (focus rfl))
                        refine StI_nil ⟨?_, ?_⟩
                        · (apply wpOp_eff rfl; go_wp2_with (first | (go_at_call 6; refine (tspan_any _ _ _).mono ?_; rintro e x1 ⟨rfl, hy1⟩)))
                          have hI1 : Below wr.heap.size wr x1 := below_mid hI (Nat.le_refl _) hy1
                          refine otN hI1 (otTwo (StI_nil ⟨?_, ?_⟩))
                          · (apply wpOp_eff rfl; go_wp2_with (first | (go_at_call 9; refine (hLv _ hI1).mono ?_; rintro e x2 ⟨rfl, hy2⟩)))
                            have hI2 : Below wr.heap.size wr x2 := below_mid hI1 (Nat.le_refl _) hy2
                            refine otN hI2 (otOne ?_)
                            (apply StI_plain (w0 := x2) hI2 rfl rfl rfl rfl; (focus (intro W hW K hK; skip; go_step; exact hK)); (focus rfl)); (apply StI_plain (w0 := x2) hI2 rfl rfl rfl rfl; (focus (intro W hW K hK; skip; go_step; exact hK)); (focus rfl)); (apply StI_plain (w0 := x2) hI2 rfl rfl rfl rfl; (focus (intro W hW K hK; skip; go_step; exact hK)); (focus rfl))
                            (apply StI_eff rfl; go_wp2_with (first | fail))
                            have hqq : wr.heap.size ≤ x2.heap.size := hI2.size
                            have hIa : Below wr.heap.size wr (x2.alloc (.cells #[.int .i64 0, .int .i64 0] 36)) := hI2.alloc hqq _
                            have xq : (x2.alloc (.cells #[.int .i64 0, .int .i64 0] 36)).heap[x2.heap.size]? = some (.cells #[.int .i64 0, .int .i64 0] 36 (0, 0)) := heap_alloc_at _ _
                            generalize (x2.alloc (.cells #[.int .i64 0, .int .i64 0] 36)) = xa at hIa xq ⊢
                            refine otN hIa (otOne ?_)
                            have xqc := cells_of xq
                            have xqf := frozen_of xq
                            have xql := lt_of_heap xq
                            have HXQ := Lib.hid xq
                            (apply StI_eff rfl; go_wp2_with (first | fail))
                            have hIz : Below wr.heap.size wr ((xa.setCell ⟨x2.heap.size, 0, none⟩ (.int .i64 X)).setCell ⟨x2.heap.size, 1, none⟩ (.int .i64 Y)) := below_set2 hIa hqq
                            refine otN hIz (otFin ?_)
                            (apply StI_plain (w0 := ((xa.setCell ⟨x2.heap.size, 0, none⟩ (.int .i64 X)).setCell ⟨x2.heap.size, 1, none⟩ (.int .i64 Y))) hIz rfl rfl rfl rfl; (focus (intro W hW K hK; skip; go_step; exact hK)); (focus rfl))
                            refine StI_nil ?_
                            have x26 := two_set36 (c := X) (d := Y) HXQ.out
                            have x26c := cells_of x26
                            have HIZ := Lib.hid hIz
                            clear hIz x26 xqc xqf
                            go_wp2_with fail
                            go_roundw
                            case rel => exact ⟨u + 1, by omega, by go_num, heap_below HIZ.out Hkt.out, bl_step Hhbw.out HIZ.out⟩
                            case measure => simp [intOf]; omega
                          · (apply wpOp_eff rfl; go_wp2_with (first | fail))
                            have hqq : wr.heap.size ≤ x1.heap.size := hI1.size
                            have hIa : Below wr.heap.size wr (x1.alloc (.cells #[.int .i64 0, .int .i64 0] 36)) := hI1.alloc hqq _
                            have xq : (x1.alloc (.cells #[.int .i64 0, .int .i64 0] 36)).heap[x1.heap.size]? = some (.cells #[.int .i64 0, .int .i64 0] 36 (0, 0)) := heap_alloc_at _ _
                            generalize (x1.alloc (.cells #[.int .i64 0, .int .i64 0] 36)) = xa at hIa xq ⊢
                            refine otN hIa (otOne ?_)
                            (apply StI_eff rfl; go_wp2_with (first | (go_at_call 9; refine (hLv _ hIa).mono ?_; rintro e x2 ⟨rfl, hy2⟩)))
                            have hI2 : Below wr.heap.size wr x2 := below_mid hIa (Nat.le_refl _) hy2
                            replace xq := heap_below hy2 xq
                            refine otN hI2 (otOne ?_)
                            (apply StI_plain (w0 := x2) hI2 rfl rfl rfl rfl; (focus (intro W hW K hK; skip; go_step; exact hK)); (focus rfl)); (apply StI_plain (w0 := x2) hI2 rfl rfl rfl rfl; (focus (intro W hW K hK; skip; go_step; exact hK)); (focus rfl)); (apply StI_plain (w0 := x2) hI2 rfl rfl rfl rfl; (focus (intro W hW K hK; skip; go_step; exact hK)); (focus rfl))
                            have xqc := cells_of xq
                            have xqf := frozen_of xq
                            have xql := lt_of_heap xq
                            have HXQ := Lib.hid xq
                            (apply StI_eff rfl; go_wp2_with (first | fail))
                            have hIz : Below wr.heap.size wr ((x2.setCell ⟨x1.heap.size, 0, none⟩ (.int .i64 X)).setCell ⟨x1.heap.size, 1, none⟩ (.int .i64 Y)) := below_set2 hI2 hqq
                            refine otN hIz (otFin ?_)
                            (apply StI_plain (w0 := ((x2.setCell ⟨x1.heap.size, 0, none⟩ (.int .i64 X)).setCell ⟨x1.heap.size, 1, none⟩ (.int .i64 Y))) hIz rfl rfl rfl rfl; (focus (intro W hW K hK; skip; go_step; exact hK)); (focus rfl))
                            refine StI_nil ?_
                            have x26 := two_set36 (c := X) (d := Y) HXQ.out
                            have x26c := cells_of x26
                            have HIZ := Lib.hid hIz
                            clear hIz x26 xqc xqf
                            go_wp2_with fail
                            go_roundw
                            case rel => exact ⟨u + 1, by omega, by go_num, heap_below HIZ.out Hkt.out, bl_step Hhbw.out HIZ.out⟩
                            case measure => simp [intOf]; omega
                        · (apply wpOp_eff rfl; go_wp2_with (first | fail))
                          have hqq : wr.heap.size ≤ wr.heap.size := Nat.le_refl _
                          have hIa : Below wr.heap.size wr (wr.alloc (.cells #[.int .i64 0, .int .i64 0] 36)).drew := ((Below.refl _ _).alloc hqq _).drew
                          have xq : (wr.alloc (.cells #[.int .i64 0, .int .i64 0] 36)).drew.heap[wr.heap.size]? = some (.cells #[.int .i64 0, .int .i64 0] 36 (0, 0)) := heap_alloc_at _ _
                          generalize (wr.alloc (.cells #[.int .i64 0, .int .i64 0] 36)).drew = xa at hIa xq ⊢
                          refine otN hIa (otOne ?_)
                          (apply StI_eff rfl; go_wp2_with (first | (go_at_call 6; refine (tspan_any _ _ _).mono ?_; rintro e x1 ⟨rfl, hy1⟩)))
                          have hI1 : Below wr.heap.size wr x1 := below_mid hIa (Nat.le_refl _) hy1
                          replace xq := heap_below hy1 xq
                          refine otN hI1 (otOne ?_)
                          (apply StI_eff rfl; go_wp2_with (first | (go_at_call 9; refine (hLv _ hI1).mono ?_; rintro e x2 ⟨rfl, hy2⟩)))
                          have hI2 : Below wr.heap.size wr x2 := below_mid hI1 (Nat.le_refl _) hy2
                          replace xq := heap_below hy2 xq
                          refine otN hI2 (otOne ?_)
                          (apply StI_plain (w0 := x2) hI2 rfl rfl rfl rfl; (focus (intro W hW K hK; skip; go_step; exact hK)); (focus rfl)); (apply StI_plain (w0 := x2) hI2 rfl rfl rfl rfl; (focus (intro W hW K hK; skip; go_step; exact hK)); (focus rfl)); (apply StI_plain (w0 := x2) hI2 rfl rfl rfl rfl; (focus (intro W hW K hK; skip; go_step; exact hK)); (focus rfl))
                          have xqc := cells_of xq
                          have xqf := frozen_of xq
                          have xql := lt_of_heap xq
                          have HXQ := Lib.hid xq
                          (apply StI_eff rfl; go_wp2_with (first | fail))
                          have hIz : Below wr.heap.size wr ((x2.setCell ⟨wr.heap.size, 0, none⟩ (.int .i64 X)).setCell ⟨wr.heap.size, 1, none⟩ (.int .i64 Y)) := below_set2 hI2 hqq
                          refine otN hIz (otFin ?_)
                          (apply StI_plain (w0 := ((x2.setCell ⟨wr.heap.size, 0, none⟩ (.int .i64 X)).setCell ⟨wr.heap.size, 1, none⟩ (.int .i64 Y))) hIz rfl rfl rfl rfl; (focus (intro W hW K hK; skip; go_step; exact hK)); (focus rfl))
                          refine StI_nil ?_
                          have x26 := two_set36 (c := X) (d := Y) HXQ.out
                          have x26c := cells_of x26
                          have HIZ := Lib.hid hIz
                          clear hIz x26 xqc xqf
                          go_wp2_with fail
                          go_roundw
                          case rel => exact ⟨u + 1, by omega, by go_num, heap_below HIZ.out Hkt.out, bl_step Hhbw.out HIZ.out⟩
                          case measure => simp [intOf]; omega
                      · go_wp2_with fail
                        go_roundw
                        case rel => exact ⟨i + 1, by omega, by go_num, bl_step Hhw.out hbw⟩
                        case measure => simp [intOf]; omega
        · go_wp2_with fail
          refine (slackWorks_ok _).mono ?_
          rintro e w9 ⟨rfl, hb9⟩
          go_wp2_with fail
          go_ret
          exact ⟨rfl, bl_step (bl_step (bl_step Hhb0r.out Hhbr5.out) hw) hb9⟩
end Go.Proofs.Ytahoobhjabhfmaa
