/- drill: enter. -/
import Derived.Test.YtjoihijlcpnhoaaDrW2
import Derived.Deep.DeepCutAuto
import Derived.Test.YtjoihijlcpnhoaaOrdT
namespace Go.Proofs.Ytjoihijlcpnhoaa
open Go.RowKit
open Go.ChangeMaps (setBlock)

theorem below_three {B : Nat} {w W : World} {q : Nat} (h : Below B w W) (hq : B ≤ q) (a b c : Value) : Below B w (((W.setCell ⟨q, 0, none⟩ a).setCell ⟨q, 1, none⟩ b).setCell ⟨q, 2, none⟩ c) := by
  have hb : ∀ (X : World) (o : Nat) (v : Value) (i : Nat), i ≠ q → (X.setCell ⟨q, o, none⟩ v).heap[i]? = X.heap[i]? := by
    intro X o v i hi
    simp [World.setCell, Array.getElem?_modify, Ne.symm hi]
  exact ⟨h.os, h.tape, h.output, by simpa [World.setCell] using h.size, fun k hk => (hb _ _ _ _ (by omega)).trans ((hb _ _ _ _ (by omega)).trans ((hb _ _ _ _ (by omega)).trans (h.block k hk)))⟩
theorem three_at {W : World} {q : Nat} {a b c : Value} {t : TypeId} (h : W.heap[q]? = some (.cells #[a, b, c] t (0, 0))) (u v x : Value) : (((W.setCell ⟨q, 0, none⟩ u).setCell ⟨q, 1, none⟩ v).setCell ⟨q, 2, none⟩ x).heap[q]? = some (.cells #[u, v, x] t (0, 0)) :=
  (heap_setCell_at ((heap_setCell_at ((heap_setCell_at h _).trans rfl) _).trans rfl) _).trans rfl

theorem row_frozen {w : World} {base n n' cap size g : Nat} {e : TypeId} {xs : List Value} (h : w.ownsRow base e size (.slice (some ⟨g, 0, none⟩) n cap) n' xs) : ∀ o, w.frozen? ⟨g, o, none⟩ = false := by
  intro o
  rcases h.2 with ⟨h1, _⟩ | ⟨g', cap', cur, h1, hb, hg, h3⟩
  · cases h1
  · simp only [Value.slice.injEq, Option.some.injEq, Addr.mk.injEq] at h1
    rw [h1.1.1]
    exact frozen_of hg o

/-- The boxes of a place and of a use, new. -/
structure EntB (pl : Place) (pc : Int) (w0 : World) (v4 v5 : Value) (W : World) : Prop where
  below : Below w0.heap.size w0 W
  boxes : ∃ q4 q5, v4 = .pointer (some ⟨q4, 0, none⟩) ∧ v5 = .pointer (some ⟨q5, 0, none⟩) ∧ w0.heap.size ≤ q4 ∧ w0.heap.size ≤ q5 ∧
    W.heap[q4]? = some (.cells #[.int .i64 pl.room, .int .i64 pl.door, .int .i64 pl.till] 74 (0, 0)) ∧ W.heap[q5]? = some (.cells #[.int .i64 2, .int .i64 pc] 210 (0, 0))

set_option maxHeartbeats 16000000 in
set_option maxRecDepth 100000 in
theorem renter_any (T : Town) (a1 a2 a3 a4 : Option Addr) (c1 c2 c3 c4 : Nat) (p : Plan) (p1 p2 : Option Addr) (d1 d2 : Nat) (B : Nat) (A : RA) (J : World → (Nat → Prop) → List Entry → Prop) (hN : NoteC B A.k A.lb J) (hG : TownG T) (w : World) (r : RunS) (s : Int) (m : Nat) (P : Nat → Prop)
    (h : RunJ T a1 a2 a3 a4 c1 c2 c3 c4 p p1 p2 d1 d2 B A J w r s (some m) P) (hR : RunG T r) (hmB : B ≤ m) (_hs : 0 ≤ s ∧ s ≤ 200) (hlog : r.log.length + r.parties.length ≤ 1000000000) :
    Calls Try.prog 69 #[.pointer (some ⟨A.rb, 0, none⟩)] w
      fun e w' => (∃ u, e = .returned u) ∧ ∃ P', RunJ T a1 a2 a3 a4 c1 c2 c3 c4 p p1 p2 d1 d2 B A J w' (eachI (enterAt T s) r.parties.length r) s (some m) P' ∧ Fr A r.parties.length r.waits.length (some m) P P' w w' := by
  have hac := cells_of h.run.blk
  have hal := lt_of_heap h.run.blk
  simp only [runCells] at hac
  obtain ⟨va, vc, hvp⟩ := row_len h.run.rowp
  have hnp := hR.np
  obtain ⟨np, hnp'⟩ : ∃ n, r.parties.length = n := ⟨_, rfl⟩
  obtain ⟨nw, hnw'⟩ : ∃ n, r.waits.length = n := ⟨_, rfl⟩
  rw [hnp'] at hvp hnp
  rw [hvp] at hac
  have Hh := Lib.hid h; clear h; have Hhvp := Lib.hid hvp; clear hvp; have HhN := Lib.hid hN; clear hN; have Hhnp' := Lib.hid hnp'; clear hnp'; have Hhnw' := Lib.hid hnw'; clear hnw'; have HhR := Lib.hid hR; clear hR; have HhG := Lib.hid hG; clear hG; have Hhlog := Lib.hid hlog; clear hlog
  go_enter Try.func69, Try.ntmps69
  go_wp2_with fail
  go_loopw [13] (fun i wr => ∃ (k : Nat) (P' : Nat → Prop), k ≤ np ∧ i = .int .i64 k ∧ RunJ T a1 a2 a3 a4 c1 c2 c3 c4 p p1 p2 d1 d2 B A J wr (eachI (enterAt T s) k r) s (some m) P' ∧ Fr A r.parties.length r.waits.length (some m) P P' w wr) (fun i _ => np - (intOf i).toNat)
  case atStart => exact ⟨0, P, Nat.zero_le _, rfl, Hh.out, Fr.refl _ _ _ _ _ _⟩
  case round =>
    obtain ⟨k, P1, hk, rfl, hrj, hfr⟩ := hrel
    have hlgk : (eachI (enterAt T s) k r).log.length ≤ 1000000000 := by have := each1_log (enter_log T s) k r; have := Hhlog.out; have := Hhnp'.out; omega
    obtain ⟨rk, hrk⟩ : ∃ q, eachI (enterAt T s) k r = q := ⟨_, rfl⟩
    obtain ⟨hRk, hlen, hlen2'⟩ := Keep.each np (fun i hi => enter_keep HhG.out np nw s i hi) k hk r HhR.out Hhnp'.out Hhnw'.out
    rw [hrk] at hrj hRk hlen hlen2' hlgk
    have Hhlgk := Lib.hid hlgk; clear hlgk
    have hlen2 : rk.waits.length = r.waits.length := hlen2'.trans Hhnw'.out.symm
    have hwac := cells_of hrj.run.blk
    have hwal := lt_of_heap hrj.run.blk
    simp only [runCells] at hwac
    by_cases hlt : k < np
    · have hnx : eachI (enterAt T s) (k + 1) r = enterAt T s k rk := by rw [← hrk]; rfl
      have hki : k < rk.parties.length := by omega
      obtain ⟨g, cap, hvp2, _, hgl⟩ := hrj.run.rowp.form (by omega)
      have hvas : va = some ⟨g, 0, none⟩ := by have := Hhvp.out; rw [hvp2] at this; simp only [Value.slice.injEq] at this; exact this.1.symm
      have hg := (hrj.run.ptr hki hvp2).1
      subst hvas
      rw [Hhvp.out] at hwac
      clear hvp2 hlen2'
      have Hhrk := Lib.hid hrk; clear hrk; have Hhnx := Lib.hid hnx; clear hnx; have Hhrj := Lib.hid hrj; clear hrj; have Hhfr := Lib.hid hfr; clear hfr; have Hhlen := Lib.hid hlen; clear hlen; have Hhlen2 := Lib.hid hlen2; clear hlen2; have HhRk := Lib.hid hRk; clear hRk
      go_upto_region 3 with fail
      clear hwac hac hg
      obtain ⟨qx, hqx⟩ : ∃ q, wr.heap.size = q := ⟨_, rfl⟩
      obtain ⟨wb, hwb⟩ : ∃ W, wr.alloc (.cells #[.pointer (some ⟨A.pb k, 0, none⟩)] 162) = W := ⟨_, rfl⟩
      have hbx : wb.heap[qx]? = some (.cells #[.pointer (some ⟨A.pb k, 0, none⟩)] 162 (0, 0)) := by rw [← hwb, ← hqx]; exact heap_alloc_at _ _
      have hbb : Below wr.heap.size wr wb := by rw [← hwb]; exact bl_alloc (Below.refl _ _) _
      have hnow : ¬ A.own rk.parties.length rk.waits.length qx := fun e => by have := Hhrj.out.run.lt e; omega
      have hnom : some m ≠ some qx := fun e => by have := MapE.lt Hhrj.out.run.used; simp only [Option.some.injEq] at e; omega
      have hnoP : ¬ P1 qx := fun e => by have := HhN.out.lt _ _ _ _ Hhrj.out.note e; omega
      have hqxg : wr.heap.size ≤ qx := by omega
      rw [hwb, hqx]
      clear hwb hqx
      have hrb := Hhrj.out.below HhN.out hbb
      have hfrb := Hhfr.out.trans (Fr.of_below hbb)
      obtain ⟨ha, hc, hpb, hhs⟩ := hrb.run.pt k hki
      have hpg := HhRk.out.pt hki
      obtain ⟨x, hx⟩ : ∃ x, rk.pt k = x := ⟨_, rfl⟩
      have hent : enterAt T s k rk = if enterNo s k rk || enterFull T k rk then rk else nextAt ((enterIn rk k).tell s 5 k x.place) k := by unfold enterAt; rw [hx]
      have hppl := HhRk.out.people hki
      rw [hx] at hpb hhs hpg hppl
      have hnh := hpg.nh
      have hlate := hpg.late
      have hente := hpg.enter
      obtain ⟨nv, hnv⟩ : ∃ v, enterNo s k rk = v := ⟨_, rfl⟩
      have hnv' : ((x.state != 1) || decide (0 < (x.hops.length : Int)) || (!x.ride && decide (s < x.enter + x.late))) = nv := by
        rw [← hnv]
        unfold enterNo
        have e1 : decide (x.state ≠ 1) = (x.state != 1) := by by_cases e : x.state = 1 <;> simp [e]
        have e2 : decide (0 < x.hops.length) = decide (0 < (x.hops.length : Int)) := by congr 1; simp
        rw [hx, e1, e2]
      rw [hnv] at hent
      clear hnv
      have hwac := cells_of hrb.run.blk
      have hwal := lt_of_heap hrb.run.blk
      simp only [runCells] at hwac
      have hpc := cells_of hpb
      simp only [partyCells] at hpc
      have hpl := lt_of_heap hpb
      have hbxc := cells_of hbx
      have hbxl := lt_of_heap hbx
      clear Hhrj Hhfr
      have Hhrb := Lib.hid hrb; clear hrb; have Hhfrb := Lib.hid hfrb; clear hfrb; have Hhpb := Lib.hid hpb; clear hpb; have Hhhs := Lib.hid hhs; clear hhs; have Hhx := Lib.hid hx; clear hx; have Hhent := Lib.hid hent; clear hent; have Hhpg := Lib.hid hpg; clear hpg; have Hhbx := Lib.hid hbx; clear hbx; have Hhbb := Lib.hid hbb; clear hbb; have Hhnow := Lib.hid hnow; clear hnow; have Hhnom := Lib.hid hnom; clear hnom; have HhnoP := Lib.hid hnoP; clear hnoP
      go_cut [55] (fun v W => v = .bool nv ∧ Below wb.heap.size wb W)
      case first =>
        as_aux_lemma =>
        obtain ⟨v1, hv1⟩ : ∃ v, (x.state != 1) = v := ⟨_, rfl⟩
        obtain ⟨v2, hv2⟩ : ∃ v, decide (0 < (x.hops.length : Int)) = v := ⟨_, rfl⟩
        obtain ⟨v3, hv3⟩ : ∃ v, x.ride = v := ⟨_, rfl⟩
        obtain ⟨v4, hv4⟩ : ∃ v, decide (s < x.enter + x.late) = v := ⟨_, rfl⟩
        rw [hv1, hv2, hv3, hv4] at hnv'
        rw [hv3] at hpc
        clear hv3
        obtain ⟨nh, hnhq⟩ : ∃ n, x.hops.length = n := ⟨_, rfl⟩
        rw [hnhq] at hpc hv2
        have hv2' : decide (0 < nh) = v2 := by rw [← hv2]; congr 1; simp
        clear hnh
        have Hhnhq := Lib.hid hnhq; clear hnhq
        cases v1
        rotate_left
        · subst hnv'
          go_quiet (fail)
          go_wp2_with fail
          go_meet
          exact ⟨by first | rfl | simp, (by repeat (first | exact Below.refl _ _ | (refine bl_setCell ?_ _ _ ?_; rotate_left; focus (first | omega | (simp; done) | (simp; omega))) | refine bl_alloc ?_ _ | refine bl_step ?_ (by assumption) | refine bl_drew ?_ | refine bl_drewN ?_ _))⟩
        cases v2
        rotate_left
        · subst hnv'
          go_quiet (fail)
          go_wp2_with fail
          go_meet
          exact ⟨by first | rfl | simp, (by repeat (first | exact Below.refl _ _ | (refine bl_setCell ?_ _ _ ?_; rotate_left; focus (first | omega | (simp; done) | (simp; omega))) | refine bl_alloc ?_ _ | refine bl_step ?_ (by assumption) | refine bl_drew ?_ | refine bl_drewN ?_ _))⟩
        cases v3
        rotate_left
        · subst hnv'
          go_quiet (fail)
          go_wp2_with fail
          go_meet
          exact ⟨by first | rfl | simp, (by repeat (first | exact Below.refl _ _ | (refine bl_setCell ?_ _ _ ?_; rotate_left; focus (first | omega | (simp; done) | (simp; omega))) | refine bl_alloc ?_ _ | refine bl_step ?_ (by assumption) | refine bl_drew ?_ | refine bl_drewN ?_ _))⟩
        cases v4
        · subst hnv'
          go_quiet (fail)
          go_wp2_with fail
          go_meet
          exact ⟨by first | rfl | simp, (by repeat (first | exact Below.refl _ _ | (refine bl_setCell ?_ _ _ ?_; rotate_left; focus (first | omega | (simp; done) | (simp; omega))) | refine bl_alloc ?_ _ | refine bl_step ?_ (by assumption) | refine bl_drew ?_ | refine bl_drewN ?_ _))⟩
        · subst hnv'
          go_quiet (fail)
          go_wp2_with fail
          go_meet
          exact ⟨by first | rfl | simp, (by repeat (first | exact Below.refl _ _ | (refine bl_setCell ?_ _ _ ?_; rotate_left; focus (first | omega | (simp; done) | (simp; omega))) | refine bl_alloc ?_ _ | refine bl_step ?_ (by assumption) | refine bl_drew ?_ | refine bl_drewN ?_ _))⟩
      case rest =>
      obtain ⟨rfl, hbc⟩ := hcut
      cases nv
      rotate_left
      · have hno : enterAt T s k rk = rk := by rw [Hhent.out]; rfl
        have Hhno := Lib.hid hno; clear hno; have Hhbc := Lib.hid hbc; clear hbc
        go_wp2_with fail
        go_roundw
        case rel => exact ⟨k + 1, P1, by omega, by go_num, by rw [Hhnx.out, Hhno.out]; exact Hhrb.out.below HhN.out Hhbc.out, Hhfrb.out.trans (Fr.of_below Hhbc.out)⟩
        case measure => simp [intOf]; omega
      revert wc
      intro w3 hbc
      have hent2 : enterAt T s k rk = if enterFull T k rk then rk else nextAt ((enterIn rk k).tell s 5 k x.place) k := by rw [Hhent.out]; rfl
      have hrc := Hhrb.out.below HhN.out hbc
      have hfrc := Hhfrb.out.trans (Fr.of_below hbc)
      have hbxw := heap_below hbc Hhbx.out
      have hqxc : qx < wb.heap.size := hbxl
      have hpbw := heap_below hbc Hhpb.out
      have hhsw := Hhhs.out.below (ek_hop B) (hbc.mono Hhrb.out.run.le)
      clear Hhent Hhrb Hhfrb Hhbx Hhpb Hhhs hwac hpc hbxc hwal hpl hbxl
      obtain ⟨b2, off2, ha2, hb2, he2⟩ := hrc.run.town.places.at Hhpg.out.place.1 Hhpg.out.place.2 Place.z
      have hl2 := hrc.run.town.places.1
      have hplace := Hhpg.out.place
      obtain ⟨pl, hplq⟩ : ∃ q, T.places.getD x.place.toNat Place.z = q := ⟨_, rfl⟩
      rw [hplq] at he2
      obtain ⟨e0, e1, e2⟩ := he2
      subst ha2
      have hplG := HhG.out.place _ (getD_mem (z := Place.z) hplace.1 hplace.2)
      rw [hplq] at hplG
      have hwac := cells_of hrc.run.blk
      have hwal := lt_of_heap hrc.run.blk
      simp only [runCells] at hwac
      have hpc := cells_of hpbw
      simp only [partyCells] at hpc
      have hpl := lt_of_heap hpbw
      have hbxc := cells_of hbxw
      have hbxl := lt_of_heap hbxw
      have hbw2 : b2 < w3.heap.size := by have := hrc.run.le; omega
      have Hhent2 := Lib.hid hent2; clear hent2; have Hhrc := Lib.hid hrc; clear hrc; have Hhfrc := Lib.hid hfrc; clear hfrc; have Hhbxw := Lib.hid hbxw; clear hbxw; have Hhpbw := Lib.hid hpbw; clear hpbw; have Hhhsw := Lib.hid hhsw; clear hhsw; have Hhbc := Lib.hid hbc; clear hbc; have Hhplq := Lib.hid hplq; clear hplq; have HhplG := Lib.hid hplG; clear hplG
      go_upto_region 4 with fail
      go_cut [4, 5] (fun v4 v5 W => EntB pl x.place w3 v4 v5 W)
      case first =>
        as_aux_lemma =>
        have hI : Below w3.heap.size w3 w3.drew := (Below.refl _ _).drew
        refine wp_region_ordT (fun W => Below w3.heap.size w3 W) (.two [0, 1, 2, 3, 4, 5, 6, 7, 8, 9, 10, 11, 12, 13, 14, 15, 16, 17] 18 (.one [] 19 (.one [] 20 (.fin [] (some 21)))) 19 (.one [] 18 (.one [] 20 (.fin [] (some 21))))) (by kernel_rfl) (by kernel_rfl) hI ?_
        refine otTwo ?_
        (apply StI_plain (w0 := w3.drew) hI rfl rfl rfl rfl; (focus (intro W hW K hK; obtain ⟨_, _, _⟩ := bk A.rb hW hwal; obtain ⟨_, _, _⟩ := bk qx hW hbxl; obtain ⟨_, _, _⟩ := bk (A.pb k) hW hpl; obtain ⟨_, _, _⟩ := bk b2 hW hbw2; go_step; exact hK)); (focus rfl)); (apply StI_plain (w0 := w3.drew) hI rfl rfl rfl rfl; (focus (intro W hW K hK; obtain ⟨_, _, _⟩ := bk A.rb hW hwal; obtain ⟨_, _, _⟩ := bk qx hW hbxl; obtain ⟨_, _, _⟩ := bk (A.pb k) hW hpl; obtain ⟨_, _, _⟩ := bk b2 hW hbw2; go_step; exact hK)); (focus rfl)); (apply StI_plain (w0 := w3.drew) hI rfl rfl rfl rfl; (focus (intro W hW K hK; obtain ⟨_, _, _⟩ := bk A.rb hW hwal; obtain ⟨_, _, _⟩ := bk qx hW hbxl; obtain ⟨_, _, _⟩ := bk (A.pb k) hW hpl; obtain ⟨_, _, _⟩ := bk b2 hW hbw2; go_step; exact hK)); (focus rfl)); (apply StI_plain (w0 := w3.drew) hI rfl rfl rfl rfl; (focus (intro W hW K hK; obtain ⟨_, _, _⟩ := bk A.rb hW hwal; obtain ⟨_, _, _⟩ := bk qx hW hbxl; obtain ⟨_, _, _⟩ := bk (A.pb k) hW hpl; obtain ⟨_, _, _⟩ := bk b2 hW hbw2; go_step; exact hK)); (focus rfl)); (apply StI_plain (w0 := w3.drew) hI rfl rfl rfl rfl; (focus (intro W hW K hK; obtain ⟨_, _, _⟩ := bk A.rb hW hwal; obtain ⟨_, _, _⟩ := bk qx hW hbxl; obtain ⟨_, _, _⟩ := bk (A.pb k) hW hpl; obtain ⟨_, _, _⟩ := bk b2 hW hbw2; go_step; exact hK)); (focus rfl)); (apply StI_plain (w0 := w3.drew) hI rfl rfl rfl rfl; (focus (intro W hW K hK; obtain ⟨_, _, _⟩ := bk A.rb hW hwal; obtain ⟨_, _, _⟩ := bk qx hW hbxl; obtain ⟨_, _, _⟩ := bk (A.pb k) hW hpl; obtain ⟨_, _, _⟩ := bk b2 hW hbw2; go_step; exact hK)); (focus rfl)); (apply StI_plain (w0 := w3.drew) hI rfl rfl rfl rfl; (focus (intro W hW K hK; obtain ⟨_, _, _⟩ := bk A.rb hW hwal; obtain ⟨_, _, _⟩ := bk qx hW hbxl; obtain ⟨_, _, _⟩ := bk (A.pb k) hW hpl; obtain ⟨_, _, _⟩ := bk b2 hW hbw2; go_step; exact hK)); (focus rfl)); (apply StI_plain (w0 := w3.drew) hI rfl rfl rfl rfl; (focus (intro W hW K hK; obtain ⟨_, _, _⟩ := bk A.rb hW hwal; obtain ⟨_, _, _⟩ := bk qx hW hbxl; obtain ⟨_, _, _⟩ := bk (A.pb k) hW hpl; obtain ⟨_, _, _⟩ := bk b2 hW hbw2; go_step; exact hK)); (focus rfl)); (apply StI_plain (w0 := w3.drew) hI rfl rfl rfl rfl; (focus (intro W hW K hK; obtain ⟨_, _, _⟩ := bk A.rb hW hwal; obtain ⟨_, _, _⟩ := bk qx hW hbxl; obtain ⟨_, _, _⟩ := bk (A.pb k) hW hpl; obtain ⟨_, _, _⟩ := bk b2 hW hbw2; go_step; exact hK)); (focus rfl)); (apply StI_plain (w0 := w3.drew) hI rfl rfl rfl rfl; (focus (intro W hW K hK; obtain ⟨_, _, _⟩ := bk A.rb hW hwal; obtain ⟨_, _, _⟩ := bk qx hW hbxl; obtain ⟨_, _, _⟩ := bk (A.pb k) hW hpl; obtain ⟨_, _, _⟩ := bk b2 hW hbw2; go_step; exact hK)); (focus rfl)); (apply StI_plain (w0 := w3.drew) hI rfl rfl rfl rfl; (focus (intro W hW K hK; obtain ⟨_, _, _⟩ := bk A.rb hW hwal; obtain ⟨_, _, _⟩ := bk qx hW hbxl; obtain ⟨_, _, _⟩ := bk (A.pb k) hW hpl; obtain ⟨_, _, _⟩ := bk b2 hW hbw2; go_step; exact hK)); (focus rfl)); (apply StI_plain (w0 := w3.drew) hI rfl rfl rfl rfl; (focus (intro W hW K hK; obtain ⟨_, _, _⟩ := bk A.rb hW hwal; obtain ⟨_, _, _⟩ := bk qx hW hbxl; obtain ⟨_, _, _⟩ := bk (A.pb k) hW hpl; obtain ⟨_, _, _⟩ := bk b2 hW hbw2; go_step; exact hK)); (focus rfl)); (apply StI_plain (w0 := w3.drew) hI rfl rfl rfl rfl; (focus (intro W hW K hK; obtain ⟨_, _, _⟩ := bk A.rb hW hwal; obtain ⟨_, _, _⟩ := bk qx hW hbxl; obtain ⟨_, _, _⟩ := bk (A.pb k) hW hpl; obtain ⟨_, _, _⟩ := bk b2 hW hbw2; go_step; exact hK)); (focus rfl)); (apply StI_plain (w0 := w3.drew) hI rfl rfl rfl rfl; (focus (intro W hW K hK; obtain ⟨_, _, _⟩ := bk A.rb hW hwal; obtain ⟨_, _, _⟩ := bk qx hW hbxl; obtain ⟨_, _, _⟩ := bk (A.pb k) hW hpl; obtain ⟨_, _, _⟩ := bk b2 hW hbw2; go_step; exact hK)); (focus rfl)); (apply StI_plain (w0 := w3.drew) hI rfl rfl rfl rfl; (focus (intro W hW K hK; obtain ⟨_, _, _⟩ := bk A.rb hW hwal; obtain ⟨_, _, _⟩ := bk qx hW hbxl; obtain ⟨_, _, _⟩ := bk (A.pb k) hW hpl; obtain ⟨_, _, _⟩ := bk b2 hW hbw2; go_step; exact hK)); (focus rfl)); (apply StI_plain (w0 := w3.drew) hI rfl rfl rfl rfl; (focus (intro W hW K hK; obtain ⟨_, _, _⟩ := bk A.rb hW hwal; obtain ⟨_, _, _⟩ := bk qx hW hbxl; obtain ⟨_, _, _⟩ := bk (A.pb k) hW hpl; obtain ⟨_, _, _⟩ := bk b2 hW hbw2; go_step; exact hK)); (focus rfl)); (apply StI_plain (w0 := w3.drew) hI rfl rfl rfl rfl; (focus (intro W hW K hK; obtain ⟨_, _, _⟩ := bk A.rb hW hwal; obtain ⟨_, _, _⟩ := bk qx hW hbxl; obtain ⟨_, _, _⟩ := bk (A.pb k) hW hpl; obtain ⟨_, _, _⟩ := bk b2 hW hbw2; go_step; exact hK)); (focus rfl)); (apply StI_plain (w0 := w3.drew) hI rfl rfl rfl rfl; (focus (intro W hW K hK; obtain ⟨_, _, _⟩ := bk A.rb hW hwal; obtain ⟨_, _, _⟩ := bk qx hW hbxl; obtain ⟨_, _, _⟩ := bk (A.pb k) hW hpl; obtain ⟨_, _, _⟩ := bk b2 hW hbw2; go_step; exact hK)); (focus rfl))
        refine StI_nil ⟨?_, ?_⟩
        · (apply wpOp_eff rfl; go_wp2_with (first | fail))
          have hIa : Below w3.heap.size w3 (w3.alloc (.cells #[.int .i64 0, .int .i64 0, .int .i64 0] 74)).drew := ((Below.refl _ _).alloc (Nat.le_refl _) _).drew
          have xa : (w3.alloc (.cells #[.int .i64 0, .int .i64 0, .int .i64 0] 74)).drew.heap[w3.heap.size]? = some (.cells #[.int .i64 0, .int .i64 0, .int .i64 0] 74 (0, 0)) := heap_drew' (heap_alloc_at w3 (.cells #[.int .i64 0, .int .i64 0, .int .i64 0] 74))
          generalize (w3.alloc (.cells #[.int .i64 0, .int .i64 0, .int .i64 0] 74)).drew = za at hIa xa ⊢
          refine otN hIa (otOne ?_)
          (apply StI_eff rfl; go_wp2_with (first | fail))
          have hIb : Below w3.heap.size w3 (za.alloc (.cells #[.int .i64 0, .int .i64 0] 210)) := hIa.alloc hIa.size _
          have xb := heap_alloc_at za (.cells #[.int .i64 0, .int .i64 0] 210)
          have xa2 := heap_alloc_off xa (.cells #[.int .i64 0, .int .i64 0] 210)
          have hqa := lt_of_heap xa
          generalize (za.alloc (.cells #[.int .i64 0, .int .i64 0] 210)) = zb at hIb xb xa2 ⊢
          obtain ⟨qz, hqz⟩ : ∃ q, za.heap.size = q := ⟨_, rfl⟩
          rw [hqz] at xb hqa ⊢
          have hqz2 : w3.heap.size ≤ qz := by rw [← hqz]; exact hIa.size
          clear hqz xa hIa
          refine otN hIb (otOne ?_)
          have kc := cells_of xa2; have kf := frozen_of xa2; have kl := lt_of_heap xa2
          have jc := cells_of xb; have jf := frozen_of xb; have jl := lt_of_heap xb
          have Hxa2 := Lib.hid xa2; clear xa2; have Hxb := Lib.hid xb; clear xb
          (apply StI_eff rfl; go_wp2_with (first | fail))
          have hIc := below_three hIb (Nat.le_refl _) (.int .i64 pl.room) (.int .i64 pl.door) (.int .i64 pl.till)
          have y4 := three_at Hxa2.out (.int .i64 pl.room) (.int .i64 pl.door) (.int .i64 pl.till)
          have y5 : (((zb.setCell ⟨w3.heap.size, 0, none⟩ (.int .i64 pl.room)).setCell ⟨w3.heap.size, 1, none⟩ (.int .i64 pl.door)).setCell ⟨w3.heap.size, 2, none⟩ (.int .i64 pl.till)).heap[qz]? = some (.cells #[.int .i64 0, .int .i64 0] 210 (0, 0)) := heap_setCell_off (heap_setCell_off (heap_setCell_off Hxb.out _ (show w3.heap.size ≠ qz by omega)) _ (show w3.heap.size ≠ qz by omega)) _ (show w3.heap.size ≠ qz by omega)
          generalize (((zb.setCell ⟨w3.heap.size, 0, none⟩ (.int .i64 pl.room)).setCell ⟨w3.heap.size, 1, none⟩ (.int .i64 pl.door)).setCell ⟨w3.heap.size, 2, none⟩ (.int .i64 pl.till)) = zc at hIc y4 y5 ⊢
          clear kc kf kl jc jf jl
          refine otN hIc (otSnkI ?_)
          have kc := cells_of y5; have kf := frozen_of y5; have kl := lt_of_heap y5
          have Hy4 := Lib.hid y4; clear y4; have Hy5 := Lib.hid y5; clear y5
          (apply StI_eff rfl; go_wp2_with (first | fail))
          refine onNormal_last ?_
          have hId := below_two hIc hqz2 (.int .i64 2) (.int .i64 x.place)
          have v5 := two_at Hy5.out (.int .i64 2) (.int .i64 x.place)
          have v4 : ((zc.setCell ⟨qz, 0, none⟩ (.int .i64 2)).setCell ⟨qz, 1, none⟩ (.int .i64 x.place)).heap[w3.heap.size]? = some (.cells #[.int .i64 pl.room, .int .i64 pl.door, .int .i64 pl.till] 74 (0, 0)) := heap_setCell_off (heap_setCell_off Hy4.out _ (show qz ≠ w3.heap.size by omega)) _ (show qz ≠ w3.heap.size by omega)
          have HhId := Lib.hid hId; clear hId; have Hv4 := Lib.hid v4; clear v4; have Hv5 := Lib.hid v5; clear v5
          go_wp2_with fail
          go_meet
          exact ⟨HhId.out, w3.heap.size, qz, rfl, rfl, (Nat.le_refl _), hqz2, Hv4.out, Hv5.out⟩
        · (apply wpOp_eff rfl; go_wp2_with (first | fail))
          have hIa : Below w3.heap.size w3 (w3.alloc (.cells #[.int .i64 0, .int .i64 0] 210)).drew := ((Below.refl _ _).alloc (Nat.le_refl _) _).drew
          have xa : (w3.alloc (.cells #[.int .i64 0, .int .i64 0] 210)).drew.heap[w3.heap.size]? = some (.cells #[.int .i64 0, .int .i64 0] 210 (0, 0)) := heap_drew' (heap_alloc_at w3 (.cells #[.int .i64 0, .int .i64 0] 210))
          generalize (w3.alloc (.cells #[.int .i64 0, .int .i64 0] 210)).drew = za at hIa xa ⊢
          refine otN hIa (otOne ?_)
          (apply StI_eff rfl; go_wp2_with (first | fail))
          have hIb : Below w3.heap.size w3 (za.alloc (.cells #[.int .i64 0, .int .i64 0, .int .i64 0] 74)) := hIa.alloc hIa.size _
          have xb := heap_alloc_at za (.cells #[.int .i64 0, .int .i64 0, .int .i64 0] 74)
          have xa2 := heap_alloc_off xa (.cells #[.int .i64 0, .int .i64 0, .int .i64 0] 74)
          have hqa := lt_of_heap xa
          generalize (za.alloc (.cells #[.int .i64 0, .int .i64 0, .int .i64 0] 74)) = zb at hIb xb xa2 ⊢
          obtain ⟨qz, hqz⟩ : ∃ q, za.heap.size = q := ⟨_, rfl⟩
          rw [hqz] at xb hqa ⊢
          have hqz2 : w3.heap.size ≤ qz := by rw [← hqz]; exact hIa.size
          clear hqz xa hIa
          refine otN hIb (otOne ?_)
          have kc := cells_of xa2; have kf := frozen_of xa2; have kl := lt_of_heap xa2
          have jc := cells_of xb; have jf := frozen_of xb; have jl := lt_of_heap xb
          have Hxa2 := Lib.hid xa2; clear xa2; have Hxb := Lib.hid xb; clear xb
          (apply StI_eff rfl; go_wp2_with (first | fail))
          have hIc := below_three hIb hqz2 (.int .i64 pl.room) (.int .i64 pl.door) (.int .i64 pl.till)
          have y4 := three_at Hxb.out (.int .i64 pl.room) (.int .i64 pl.door) (.int .i64 pl.till)
          have y5 : (((zb.setCell ⟨qz, 0, none⟩ (.int .i64 pl.room)).setCell ⟨qz, 1, none⟩ (.int .i64 pl.door)).setCell ⟨qz, 2, none⟩ (.int .i64 pl.till)).heap[w3.heap.size]? = some (.cells #[.int .i64 0, .int .i64 0] 210 (0, 0)) := heap_setCell_off (heap_setCell_off (heap_setCell_off Hxa2.out _ (show qz ≠ w3.heap.size by omega)) _ (show qz ≠ w3.heap.size by omega)) _ (show qz ≠ w3.heap.size by omega)
          generalize (((zb.setCell ⟨qz, 0, none⟩ (.int .i64 pl.room)).setCell ⟨qz, 1, none⟩ (.int .i64 pl.door)).setCell ⟨qz, 2, none⟩ (.int .i64 pl.till)) = zc at hIc y4 y5 ⊢
          clear kc kf kl jc jf jl
          refine otN hIc (otSnkI ?_)
          have kc := cells_of y5; have kf := frozen_of y5; have kl := lt_of_heap y5
          have Hy4 := Lib.hid y4; clear y4; have Hy5 := Lib.hid y5; clear y5
          (apply StI_eff rfl; go_wp2_with (first | fail))
          refine onNormal_last ?_
          have hId := below_two hIc (Nat.le_refl _) (.int .i64 2) (.int .i64 x.place)
          have v5 := two_at Hy5.out (.int .i64 2) (.int .i64 x.place)
          have v4 : ((zc.setCell ⟨w3.heap.size, 0, none⟩ (.int .i64 2)).setCell ⟨w3.heap.size, 1, none⟩ (.int .i64 x.place)).heap[qz]? = some (.cells #[.int .i64 pl.room, .int .i64 pl.door, .int .i64 pl.till] 74 (0, 0)) := heap_setCell_off (heap_setCell_off Hy4.out _ (show w3.heap.size ≠ qz by omega)) _ (show w3.heap.size ≠ qz by omega)
          have HhId := Lib.hid hId; clear hId; have Hv4 := Lib.hid v4; clear v4; have Hv5 := Lib.hid v5; clear v5
          go_wp2_with fail
          go_meet
          exact ⟨HhId.out, qz, w3.heap.size, rfl, rfl, hqz2, (Nat.le_refl _), Hv4.out, Hv5.out⟩
      case rest =>
      obtain ⟨hbd, q4, q5, rfl, rfl, hq4, hq5, hb4, hb5⟩ := hcut
      revert wc
      intro w4 hbd hb4 hb5
      have hrd := Hhrc.out.below HhN.out hbd
      have hfrd := Hhfrc.out.trans (Fr.of_below hbd)
      have hbxd := heap_below hbd Hhbxw.out
      have hpbd := heap_below hbd Hhpbw.out
      have hhsd := Hhhsw.out.below (ek_hop B) (hbd.mono Hhrc.out.run.le)
      have hqw : qx < w3.heap.size := hbxl
      clear Hhrc Hhfrc Hhbxw Hhpbw Hhhsw hwac hpc hbxc hwal hpl hbxl e0 e1 e2
      have hwac := cells_of hrd.run.blk
      have hwal := lt_of_heap hrd.run.blk
      simp only [runCells] at hwac
      have hpc := cells_of hpbd
      simp only [partyCells] at hpc
      have hpl := lt_of_heap hpbd
      have hbxc := cells_of hbxd
      have hbxl := lt_of_heap hbxd
      have k4c := cells_of hb4
      have k4l := lt_of_heap hb4
      have k5c := cells_of hb5
      have k5l := lt_of_heap hb5
      obtain ⟨uu, huu⟩ : ∃ u, kget rk.used ⟨2, x.place⟩ = u := ⟨_, rfl⟩
      have hub := kgetU HhRk.out.used ⟨2, x.place⟩
      rw [huu] at hub
      have hnp64 : (T.places.length : Int) ≤ 64 := by have := HhG.out.np.2; omega
      have hgu : goodU ⟨2, x.place⟩ := ⟨by unfold I64; simp, by unfold I64; simp only; omega⟩
      have hlk : ∀ W, Below w4.heap.size w4 W → (Instr.lookup 159 (.map (some m)) (.agg #[.int .i64 2, .int .i64 x.place]) false).run Try.prog W = .ok (.int .i64 uu) W := by
        intro W hW
        have := (hrd.run.below hW).look HhRk.out.used ⟨2, x.place⟩ hgu
        rw [huu] at this
        exact this
      have hrml : rk.room.length = T.places.length := HhRk.out.room.1
      obtain ⟨gr, capr, hvr, hgrB, hgrl⟩ := hrd.run.rowr.form (by omega)
      have hrowr := hrd.run.rowr
      rw [hvr] at hrowr
      obtain ⟨rm, hrm⟩ : ∃ v, rk.rm x.place = v := ⟨_, rfl⟩
      have hrc0 : w4.cell? ⟨gr, x.place.toNat, none⟩ = some (.int .i64 rm) := by
        refine (hrowr.cellAt x.place.toNat (by omega)).trans ?_
        have hlt2 : x.place.toNat < rk.room.length := by omega
        rw [List.getElem?_map, List.getElem?_eq_getElem hlt2, ← hrm]
        unfold RunS.rm
        rw [List.getD_eq_getElem?_getD, List.getElem?_eq_getElem hlt2]
        rfl
      have hrmb := rm_mem HhRk.out hplace.1 hplace.2
      rw [hrm] at hrmb
      rw [hvr, hrml] at hwac
      have hfull : enterFull T k rk = (pl.room == 0 || decide (pl.door < uu + x.people) || decide (rm < x.people)) := by
        unfold enterFull Town.pl
        rw [Hhx.out, Hhplq.out, huu, hrm]
      obtain ⟨fu, hfu⟩ : ∃ v, enterFull T k rk = v := ⟨_, rfl⟩
      rw [hfu] at hfull
      have hplG := HhplG.out
      clear hrowr
      have Hhrd := Lib.hid hrd; clear hrd; have Hhfrd := Lib.hid hfrd; clear hfrd; have Hhbxd := Lib.hid hbxd; clear hbxd; have Hhpbd := Lib.hid hpbd; clear hpbd; have Hhhsd := Lib.hid hhsd; clear hhsd; have Hhb4 := Lib.hid hb4; clear hb4; have Hhb5 := Lib.hid hb5; clear hb5; have Hhlk := Lib.hid hlk; clear hlk; have Hhuu := Lib.hid huu; clear huu; have Hhrm := Lib.hid hrm; clear hrm; have Hhfu := Lib.hid hfu; clear hfu; have Hhbd := Lib.hid hbd; clear hbd
      go_upto_region 5 with fail
      go_cut [110] (fun v W => v = .bool fu ∧ Below w4.heap.size w4 W)
      case first =>
        as_aux_lemma =>
        have hI : Below w4.heap.size w4 w4.drew := (Below.refl _ _).drew
        refine wp_region_ord (fun W => Below w4.heap.size w4 W) [] [0, 1, 2, 3, 4, 5, 6, 7, 8, 9, 10, 11, 12, 13, 14, 15, 16, 17, 18, 19, 20, 21, 22, 23, 24, 25, 26, 27, 28, 29, 30, 31, 32, 33, 34, 35, 36] none (by kernel_rfl) (by kernel_rfl) hI ?_
        refine OrdI_fin ?_
        (apply StI_plain (w0 := w4.drew) hI rfl rfl rfl rfl; (focus (intro W hW K hK; obtain ⟨_, _, _⟩ := bk A.rb hW hwal; obtain ⟨_, _, _⟩ := bk qx hW hbxl; obtain ⟨_, _, _⟩ := bk (A.pb k) hW hpl; obtain ⟨_, _, _⟩ := bk q4 hW k4l; obtain ⟨_, _, _⟩ := bk q5 hW k5l; obtain ⟨_, _, _⟩ := bk gr hW hgrl; have hl := Hhlk.out W hW; go_step; exact hK)); (focus rfl)); (apply StI_plain (w0 := w4.drew) hI rfl rfl rfl rfl; (focus (intro W hW K hK; obtain ⟨_, _, _⟩ := bk A.rb hW hwal; obtain ⟨_, _, _⟩ := bk qx hW hbxl; obtain ⟨_, _, _⟩ := bk (A.pb k) hW hpl; obtain ⟨_, _, _⟩ := bk q4 hW k4l; obtain ⟨_, _, _⟩ := bk q5 hW k5l; obtain ⟨_, _, _⟩ := bk gr hW hgrl; have hl := Hhlk.out W hW; go_step; exact hK)); (focus rfl)); (apply StI_plain (w0 := w4.drew) hI rfl rfl rfl rfl; (focus (intro W hW K hK; obtain ⟨_, _, _⟩ := bk A.rb hW hwal; obtain ⟨_, _, _⟩ := bk qx hW hbxl; obtain ⟨_, _, _⟩ := bk (A.pb k) hW hpl; obtain ⟨_, _, _⟩ := bk q4 hW k4l; obtain ⟨_, _, _⟩ := bk q5 hW k5l; obtain ⟨_, _, _⟩ := bk gr hW hgrl; have hl := Hhlk.out W hW; go_step; exact hK)); (focus rfl)); (apply StI_plain (w0 := w4.drew) hI rfl rfl rfl rfl; (focus (intro W hW K hK; obtain ⟨_, _, _⟩ := bk A.rb hW hwal; obtain ⟨_, _, _⟩ := bk qx hW hbxl; obtain ⟨_, _, _⟩ := bk (A.pb k) hW hpl; obtain ⟨_, _, _⟩ := bk q4 hW k4l; obtain ⟨_, _, _⟩ := bk q5 hW k5l; obtain ⟨_, _, _⟩ := bk gr hW hgrl; have hl := Hhlk.out W hW; go_step; exact hK)); (focus rfl))
        obtain ⟨v1, hv1⟩ : ∃ v, (pl.room == 0) = v := ⟨_, rfl⟩
        rw [hv1] at hfull ⊢
        clear hv1
        cases v1
        rotate_left
        · subst hfull
          (apply StI_no2; (focus rfl); (focus rfl); (focus rfl); (focus rfl); (focus rfl); (focus rfl); (focus (simp only [Act.put, List.setIfInBounds_toArray, List.set_cons_succ, List.set_cons_zero]; exact rfl))); (apply StI_no2; (focus rfl); (focus rfl); (focus rfl); (focus rfl); (focus rfl); (focus rfl); (focus (simp only [Act.put, List.setIfInBounds_toArray, List.set_cons_succ, List.set_cons_zero]; exact rfl))); (apply StI_no2; (focus rfl); (focus rfl); (focus rfl); (focus rfl); (focus rfl); (focus rfl); (focus (simp only [Act.put, List.setIfInBounds_toArray, List.set_cons_succ, List.set_cons_zero]; exact rfl))); (apply StI_no2; (focus rfl); (focus rfl); (focus rfl); (focus rfl); (focus rfl); (focus rfl); (focus (simp only [Act.put, List.setIfInBounds_toArray, List.set_cons_succ, List.set_cons_zero]; exact rfl))); (apply StI_no2; (focus rfl); (focus rfl); (focus rfl); (focus rfl); (focus rfl); (focus rfl); (focus (simp only [Act.put, List.setIfInBounds_toArray, List.set_cons_succ, List.set_cons_zero]; exact rfl))); (apply StI_no2; (focus rfl); (focus rfl); (focus rfl); (focus rfl); (focus rfl); (focus rfl); (focus (simp only [Act.put, List.setIfInBounds_toArray, List.set_cons_succ, List.set_cons_zero]; exact rfl))); (apply StI_no2; (focus rfl); (focus rfl); (focus rfl); (focus rfl); (focus rfl); (focus rfl); (focus (simp only [Act.put, List.setIfInBounds_toArray, List.set_cons_succ, List.set_cons_zero]; exact rfl))); (apply StI_no2; (focus rfl); (focus rfl); (focus rfl); (focus rfl); (focus rfl); (focus rfl); (focus (simp only [Act.put, List.setIfInBounds_toArray, List.set_cons_succ, List.set_cons_zero]; exact rfl))); (apply StI_no2; (focus rfl); (focus rfl); (focus rfl); (focus rfl); (focus rfl); (focus rfl); (focus (simp only [Act.put, List.setIfInBounds_toArray, List.set_cons_succ, List.set_cons_zero]; exact rfl))); (apply StI_no2; (focus rfl); (focus rfl); (focus rfl); (focus rfl); (focus rfl); (focus rfl); (focus (simp only [Act.put, List.setIfInBounds_toArray, List.set_cons_succ, List.set_cons_zero]; exact rfl))); (apply StI_no2; (focus rfl); (focus rfl); (focus rfl); (focus rfl); (focus rfl); (focus rfl); (focus (simp only [Act.put, List.setIfInBounds_toArray, List.set_cons_succ, List.set_cons_zero]; exact rfl))); (apply StI_no2; (focus rfl); (focus rfl); (focus rfl); (focus rfl); (focus rfl); (focus rfl); (focus (simp only [Act.put, List.setIfInBounds_toArray, List.set_cons_succ, List.set_cons_zero]; exact rfl))); (apply StI_no2; (focus rfl); (focus rfl); (focus rfl); (focus rfl); (focus rfl); (focus rfl); (focus (simp only [Act.put, List.setIfInBounds_toArray, List.set_cons_succ, List.set_cons_zero]; exact rfl))); (apply StI_no2; (focus rfl); (focus rfl); (focus rfl); (focus rfl); (focus rfl); (focus rfl); (focus (simp only [Act.put, List.setIfInBounds_toArray, List.set_cons_succ, List.set_cons_zero]; exact rfl))); (apply StI_plain (w0 := w4.drew) hI rfl rfl rfl rfl; (focus (intro W hW K hK; obtain ⟨_, _, _⟩ := bk A.rb hW hwal; obtain ⟨_, _, _⟩ := bk qx hW hbxl; obtain ⟨_, _, _⟩ := bk (A.pb k) hW hpl; obtain ⟨_, _, _⟩ := bk q4 hW k4l; obtain ⟨_, _, _⟩ := bk q5 hW k5l; obtain ⟨_, _, _⟩ := bk gr hW hgrl; have hl := Hhlk.out W hW; go_step; exact hK)); (focus rfl)); (apply StI_plain (w0 := w4.drew) hI rfl rfl rfl rfl; (focus (intro W hW K hK; obtain ⟨_, _, _⟩ := bk A.rb hW hwal; obtain ⟨_, _, _⟩ := bk qx hW hbxl; obtain ⟨_, _, _⟩ := bk (A.pb k) hW hpl; obtain ⟨_, _, _⟩ := bk q4 hW k4l; obtain ⟨_, _, _⟩ := bk q5 hW k5l; obtain ⟨_, _, _⟩ := bk gr hW hgrl; have hl := Hhlk.out W hW; go_step; exact hK)); (focus rfl)); (apply StI_no2; (focus rfl); (focus rfl); (focus rfl); (focus rfl); (focus rfl); (focus rfl); (focus (simp only [Act.put, List.setIfInBounds_toArray, List.set_cons_succ, List.set_cons_zero]; exact rfl))); (apply StI_no2; (focus rfl); (focus rfl); (focus rfl); (focus rfl); (focus rfl); (focus rfl); (focus (simp only [Act.put, List.setIfInBounds_toArray, List.set_cons_succ, List.set_cons_zero]; exact rfl))); (apply StI_no2; (focus rfl); (focus rfl); (focus rfl); (focus rfl); (focus rfl); (focus rfl); (focus (simp only [Act.put, List.setIfInBounds_toArray, List.set_cons_succ, List.set_cons_zero]; exact rfl))); (apply StI_no2; (focus rfl); (focus rfl); (focus rfl); (focus rfl); (focus rfl); (focus rfl); (focus (simp only [Act.put, List.setIfInBounds_toArray, List.set_cons_succ, List.set_cons_zero]; exact rfl))); (apply StI_no2; (focus rfl); (focus rfl); (focus rfl); (focus rfl); (focus rfl); (focus rfl); (focus (simp only [Act.put, List.setIfInBounds_toArray, List.set_cons_succ, List.set_cons_zero]; exact rfl))); (apply StI_no2; (focus rfl); (focus rfl); (focus rfl); (focus rfl); (focus rfl); (focus rfl); (focus (simp only [Act.put, List.setIfInBounds_toArray, List.set_cons_succ, List.set_cons_zero]; exact rfl))); (apply StI_no2; (focus rfl); (focus rfl); (focus rfl); (focus rfl); (focus rfl); (focus rfl); (focus (simp only [Act.put, List.setIfInBounds_toArray, List.set_cons_succ, List.set_cons_zero]; exact rfl))); (apply StI_no2; (focus rfl); (focus rfl); (focus rfl); (focus rfl); (focus rfl); (focus rfl); (focus (simp only [Act.put, List.setIfInBounds_toArray, List.set_cons_succ, List.set_cons_zero]; exact rfl))); (apply StI_no2; (focus rfl); (focus rfl); (focus rfl); (focus rfl); (focus rfl); (focus rfl); (focus (simp only [Act.put, List.setIfInBounds_toArray, List.set_cons_succ, List.set_cons_zero]; exact rfl))); (apply StI_no2; (focus rfl); (focus rfl); (focus rfl); (focus rfl); (focus rfl); (focus rfl); (focus (simp only [Act.put, List.setIfInBounds_toArray, List.set_cons_succ, List.set_cons_zero]; exact rfl))); (apply StI_no2; (focus rfl); (focus rfl); (focus rfl); (focus rfl); (focus rfl); (focus rfl); (focus (simp only [Act.put, List.setIfInBounds_toArray, List.set_cons_succ, List.set_cons_zero]; exact rfl))); (apply StI_no2; (focus rfl); (focus rfl); (focus rfl); (focus rfl); (focus rfl); (focus rfl); (focus (simp only [Act.put, List.setIfInBounds_toArray, List.set_cons_succ, List.set_cons_zero]; exact rfl))); (apply StI_no2; (focus rfl); (focus rfl); (focus rfl); (focus rfl); (focus rfl); (focus rfl); (focus (simp only [Act.put, List.setIfInBounds_toArray, List.set_cons_succ, List.set_cons_zero]; exact rfl))); (apply StI_no2; (focus rfl); (focus rfl); (focus rfl); (focus rfl); (focus rfl); (focus rfl); (focus (simp only [Act.put, List.setIfInBounds_toArray, List.set_cons_succ, List.set_cons_zero]; exact rfl))); (apply StI_no2; (focus rfl); (focus rfl); (focus rfl); (focus rfl); (focus rfl); (focus rfl); (focus (simp only [Act.put, List.setIfInBounds_toArray, List.set_cons_succ, List.set_cons_zero]; exact rfl))); (apply StI_no2; (focus rfl); (focus rfl); (focus rfl); (focus rfl); (focus rfl); (focus rfl); (focus (simp only [Act.put, List.setIfInBounds_toArray, List.set_cons_succ, List.set_cons_zero]; exact rfl))); (apply StI_plain (w0 := w4.drew) hI rfl rfl rfl rfl; (focus (intro W hW K hK; obtain ⟨_, _, _⟩ := bk A.rb hW hwal; obtain ⟨_, _, _⟩ := bk qx hW hbxl; obtain ⟨_, _, _⟩ := bk (A.pb k) hW hpl; obtain ⟨_, _, _⟩ := bk q4 hW k4l; obtain ⟨_, _, _⟩ := bk q5 hW k5l; obtain ⟨_, _, _⟩ := bk gr hW hgrl; have hl := Hhlk.out W hW; go_step; exact hK)); (focus rfl))
          refine StI_nil ?_
          go_wp2_with fail
          go_meet
          exact ⟨by first | rfl | simp, (by repeat (first | exact Below.refl _ _ | (refine bl_setCell ?_ _ _ ?_; rotate_left; focus (first | omega | (simp; done) | (simp; omega))) | refine bl_alloc ?_ _ | refine bl_step ?_ (by assumption) | refine bl_drew ?_ | refine bl_drewN ?_ _))⟩
        (apply StI_yes (w0 := w4.drew) hI; (focus rfl); (focus rfl); (focus rfl); (focus rfl); (focus rfl); (focus rfl); (focus rfl); (focus (intro W hW K hK; obtain ⟨_, _, _⟩ := bk A.rb hW hwal; obtain ⟨_, _, _⟩ := bk qx hW hbxl; obtain ⟨_, _, _⟩ := bk (A.pb k) hW hpl; obtain ⟨_, _, _⟩ := bk q4 hW k4l; obtain ⟨_, _, _⟩ := bk q5 hW k5l; obtain ⟨_, _, _⟩ := bk gr hW hgrl; have hl := Hhlk.out W hW; go_step; exact hK)); (focus rfl)); (apply StI_yes (w0 := w4.drew) hI; (focus rfl); (focus rfl); (focus rfl); (focus rfl); (focus rfl); (focus rfl); (focus rfl); (focus (intro W hW K hK; obtain ⟨_, _, _⟩ := bk A.rb hW hwal; obtain ⟨_, _, _⟩ := bk qx hW hbxl; obtain ⟨_, _, _⟩ := bk (A.pb k) hW hpl; obtain ⟨_, _, _⟩ := bk q4 hW k4l; obtain ⟨_, _, _⟩ := bk q5 hW k5l; obtain ⟨_, _, _⟩ := bk gr hW hgrl; have hl := Hhlk.out W hW; go_step; exact hK)); (focus rfl)); (apply StI_yes (w0 := w4.drew) hI; (focus rfl); (focus rfl); (focus rfl); (focus rfl); (focus rfl); (focus rfl); (focus rfl); (focus (intro W hW K hK; obtain ⟨_, _, _⟩ := bk A.rb hW hwal; obtain ⟨_, _, _⟩ := bk qx hW hbxl; obtain ⟨_, _, _⟩ := bk (A.pb k) hW hpl; obtain ⟨_, _, _⟩ := bk q4 hW k4l; obtain ⟨_, _, _⟩ := bk q5 hW k5l; obtain ⟨_, _, _⟩ := bk gr hW hgrl; have hl := Hhlk.out W hW; go_step; exact hK)); (focus rfl)); (apply StI_yes (w0 := w4.drew) hI; (focus rfl); (focus rfl); (focus rfl); (focus rfl); (focus rfl); (focus rfl); (focus rfl); (focus (intro W hW K hK; obtain ⟨_, _, _⟩ := bk A.rb hW hwal; obtain ⟨_, _, _⟩ := bk qx hW hbxl; obtain ⟨_, _, _⟩ := bk (A.pb k) hW hpl; obtain ⟨_, _, _⟩ := bk q4 hW k4l; obtain ⟨_, _, _⟩ := bk q5 hW k5l; obtain ⟨_, _, _⟩ := bk gr hW hgrl; have hl := Hhlk.out W hW; go_step; exact hK)); (focus rfl)); (apply StI_yes (w0 := w4.drew) hI; (focus rfl); (focus rfl); (focus rfl); (focus rfl); (focus rfl); (focus rfl); (focus rfl); (focus (intro W hW K hK; obtain ⟨_, _, _⟩ := bk A.rb hW hwal; obtain ⟨_, _, _⟩ := bk qx hW hbxl; obtain ⟨_, _, _⟩ := bk (A.pb k) hW hpl; obtain ⟨_, _, _⟩ := bk q4 hW k4l; obtain ⟨_, _, _⟩ := bk q5 hW k5l; obtain ⟨_, _, _⟩ := bk gr hW hgrl; have hl := Hhlk.out W hW; go_step; exact hK)); (focus rfl)); (apply StI_yes (w0 := w4.drew) hI; (focus rfl); (focus rfl); (focus rfl); (focus rfl); (focus rfl); (focus rfl); (focus rfl); (focus (intro W hW K hK; obtain ⟨_, _, _⟩ := bk A.rb hW hwal; obtain ⟨_, _, _⟩ := bk qx hW hbxl; obtain ⟨_, _, _⟩ := bk (A.pb k) hW hpl; obtain ⟨_, _, _⟩ := bk q4 hW k4l; obtain ⟨_, _, _⟩ := bk q5 hW k5l; obtain ⟨_, _, _⟩ := bk gr hW hgrl; have hl := Hhlk.out W hW; go_step; exact hK)); (focus rfl)); (apply StI_yes (w0 := w4.drew) hI; (focus rfl); (focus rfl); (focus rfl); (focus rfl); (focus rfl); (focus rfl); (focus rfl); (focus (intro W hW K hK; obtain ⟨_, _, _⟩ := bk A.rb hW hwal; obtain ⟨_, _, _⟩ := bk qx hW hbxl; obtain ⟨_, _, _⟩ := bk (A.pb k) hW hpl; obtain ⟨_, _, _⟩ := bk q4 hW k4l; obtain ⟨_, _, _⟩ := bk q5 hW k5l; obtain ⟨_, _, _⟩ := bk gr hW hgrl; have hl := Hhlk.out W hW; go_step; exact hK)); (focus rfl)); (apply StI_yes (w0 := w4.drew) hI; (focus rfl); (focus rfl); (focus rfl); (focus rfl); (focus rfl); (focus rfl); (focus rfl); (focus (intro W hW K hK; obtain ⟨_, _, _⟩ := bk A.rb hW hwal; obtain ⟨_, _, _⟩ := bk qx hW hbxl; obtain ⟨_, _, _⟩ := bk (A.pb k) hW hpl; obtain ⟨_, _, _⟩ := bk q4 hW k4l; obtain ⟨_, _, _⟩ := bk q5 hW k5l; obtain ⟨_, _, _⟩ := bk gr hW hgrl; have hl := Hhlk.out W hW; go_step; exact hK)); (focus rfl)); (apply StI_yes (w0 := w4.drew) hI; (focus rfl); (focus rfl); (focus rfl); (focus rfl); (focus rfl); (focus rfl); (focus rfl); (focus (intro W hW K hK; obtain ⟨_, _, _⟩ := bk A.rb hW hwal; obtain ⟨_, _, _⟩ := bk qx hW hbxl; obtain ⟨_, _, _⟩ := bk (A.pb k) hW hpl; obtain ⟨_, _, _⟩ := bk q4 hW k4l; obtain ⟨_, _, _⟩ := bk q5 hW k5l; obtain ⟨_, _, _⟩ := bk gr hW hgrl; have hl := Hhlk.out W hW; go_step; exact hK)); (focus rfl)); (apply StI_yes (w0 := w4.drew) hI; (focus rfl); (focus rfl); (focus rfl); (focus rfl); (focus rfl); (focus rfl); (focus rfl); (focus (intro W hW K hK; obtain ⟨_, _, _⟩ := bk A.rb hW hwal; obtain ⟨_, _, _⟩ := bk qx hW hbxl; obtain ⟨_, _, _⟩ := bk (A.pb k) hW hpl; obtain ⟨_, _, _⟩ := bk q4 hW k4l; obtain ⟨_, _, _⟩ := bk q5 hW k5l; obtain ⟨_, _, _⟩ := bk gr hW hgrl; have hl := Hhlk.out W hW; go_step; exact hK)); (focus rfl)); (apply StI_yes (w0 := w4.drew) hI; (focus rfl); (focus rfl); (focus rfl); (focus rfl); (focus rfl); (focus rfl); (focus rfl); (focus (intro W hW K hK; obtain ⟨_, _, _⟩ := bk A.rb hW hwal; obtain ⟨_, _, _⟩ := bk qx hW hbxl; obtain ⟨_, _, _⟩ := bk (A.pb k) hW hpl; obtain ⟨_, _, _⟩ := bk q4 hW k4l; obtain ⟨_, _, _⟩ := bk q5 hW k5l; obtain ⟨_, _, _⟩ := bk gr hW hgrl; have hl := Hhlk.out W hW; go_step; exact hK)); (focus rfl)); (apply StI_yes (w0 := w4.drew) hI; (focus rfl); (focus rfl); (focus rfl); (focus rfl); (focus rfl); (focus rfl); (focus rfl); (focus (intro W hW K hK; obtain ⟨_, _, _⟩ := bk A.rb hW hwal; obtain ⟨_, _, _⟩ := bk qx hW hbxl; obtain ⟨_, _, _⟩ := bk (A.pb k) hW hpl; obtain ⟨_, _, _⟩ := bk q4 hW k4l; obtain ⟨_, _, _⟩ := bk q5 hW k5l; obtain ⟨_, _, _⟩ := bk gr hW hgrl; have hl := Hhlk.out W hW; go_step; exact hK)); (focus rfl)); (apply StI_yes (w0 := w4.drew) hI; (focus rfl); (focus rfl); (focus rfl); (focus rfl); (focus rfl); (focus rfl); (focus rfl); (focus (intro W hW K hK; obtain ⟨_, _, _⟩ := bk A.rb hW hwal; obtain ⟨_, _, _⟩ := bk qx hW hbxl; obtain ⟨_, _, _⟩ := bk (A.pb k) hW hpl; obtain ⟨_, _, _⟩ := bk q4 hW k4l; obtain ⟨_, _, _⟩ := bk q5 hW k5l; obtain ⟨_, _, _⟩ := bk gr hW hgrl; have hl := Hhlk.out W hW; go_step; exact hK)); (focus rfl)); (apply StI_yes (w0 := w4.drew) hI; (focus rfl); (focus rfl); (focus rfl); (focus rfl); (focus rfl); (focus rfl); (focus rfl); (focus (intro W hW K hK; obtain ⟨_, _, _⟩ := bk A.rb hW hwal; obtain ⟨_, _, _⟩ := bk qx hW hbxl; obtain ⟨_, _, _⟩ := bk (A.pb k) hW hpl; obtain ⟨_, _, _⟩ := bk q4 hW k4l; obtain ⟨_, _, _⟩ := bk q5 hW k5l; obtain ⟨_, _, _⟩ := bk gr hW hgrl; have hl := Hhlk.out W hW; go_step; exact hK)); (focus rfl))
        obtain ⟨v2, hv2⟩ : ∃ v, decide (pl.door < uu + x.people) = v := ⟨_, rfl⟩
        rw [hv2] at hfull ⊢
        clear hv2
        (apply StI_plain (w0 := w4.drew) hI rfl rfl rfl rfl; (focus (intro W hW K hK; obtain ⟨_, _, _⟩ := bk A.rb hW hwal; obtain ⟨_, _, _⟩ := bk qx hW hbxl; obtain ⟨_, _, _⟩ := bk (A.pb k) hW hpl; obtain ⟨_, _, _⟩ := bk q4 hW k4l; obtain ⟨_, _, _⟩ := bk q5 hW k5l; obtain ⟨_, _, _⟩ := bk gr hW hgrl; have hl := Hhlk.out W hW; go_step; exact hK)); (focus rfl)); (apply StI_plain (w0 := w4.drew) hI rfl rfl rfl rfl; (focus (intro W hW K hK; obtain ⟨_, _, _⟩ := bk A.rb hW hwal; obtain ⟨_, _, _⟩ := bk qx hW hbxl; obtain ⟨_, _, _⟩ := bk (A.pb k) hW hpl; obtain ⟨_, _, _⟩ := bk q4 hW k4l; obtain ⟨_, _, _⟩ := bk q5 hW k5l; obtain ⟨_, _, _⟩ := bk gr hW hgrl; have hl := Hhlk.out W hW; go_step; exact hK)); (focus rfl))
        cases v2
        rotate_left
        · subst hfull
          (apply StI_no2; (focus rfl); (focus rfl); (focus rfl); (focus rfl); (focus rfl); (focus rfl); (focus (simp only [Act.put, List.setIfInBounds_toArray, List.set_cons_succ, List.set_cons_zero]; exact rfl))); (apply StI_no2; (focus rfl); (focus rfl); (focus rfl); (focus rfl); (focus rfl); (focus rfl); (focus (simp only [Act.put, List.setIfInBounds_toArray, List.set_cons_succ, List.set_cons_zero]; exact rfl))); (apply StI_no2; (focus rfl); (focus rfl); (focus rfl); (focus rfl); (focus rfl); (focus rfl); (focus (simp only [Act.put, List.setIfInBounds_toArray, List.set_cons_succ, List.set_cons_zero]; exact rfl))); (apply StI_no2; (focus rfl); (focus rfl); (focus rfl); (focus rfl); (focus rfl); (focus rfl); (focus (simp only [Act.put, List.setIfInBounds_toArray, List.set_cons_succ, List.set_cons_zero]; exact rfl))); (apply StI_no2; (focus rfl); (focus rfl); (focus rfl); (focus rfl); (focus rfl); (focus rfl); (focus (simp only [Act.put, List.setIfInBounds_toArray, List.set_cons_succ, List.set_cons_zero]; exact rfl))); (apply StI_no2; (focus rfl); (focus rfl); (focus rfl); (focus rfl); (focus rfl); (focus rfl); (focus (simp only [Act.put, List.setIfInBounds_toArray, List.set_cons_succ, List.set_cons_zero]; exact rfl))); (apply StI_no2; (focus rfl); (focus rfl); (focus rfl); (focus rfl); (focus rfl); (focus rfl); (focus (simp only [Act.put, List.setIfInBounds_toArray, List.set_cons_succ, List.set_cons_zero]; exact rfl))); (apply StI_no2; (focus rfl); (focus rfl); (focus rfl); (focus rfl); (focus rfl); (focus rfl); (focus (simp only [Act.put, List.setIfInBounds_toArray, List.set_cons_succ, List.set_cons_zero]; exact rfl))); (apply StI_no2; (focus rfl); (focus rfl); (focus rfl); (focus rfl); (focus rfl); (focus rfl); (focus (simp only [Act.put, List.setIfInBounds_toArray, List.set_cons_succ, List.set_cons_zero]; exact rfl))); (apply StI_no2; (focus rfl); (focus rfl); (focus rfl); (focus rfl); (focus rfl); (focus rfl); (focus (simp only [Act.put, List.setIfInBounds_toArray, List.set_cons_succ, List.set_cons_zero]; exact rfl))); (apply StI_no2; (focus rfl); (focus rfl); (focus rfl); (focus rfl); (focus rfl); (focus rfl); (focus (simp only [Act.put, List.setIfInBounds_toArray, List.set_cons_succ, List.set_cons_zero]; exact rfl))); (apply StI_no2; (focus rfl); (focus rfl); (focus rfl); (focus rfl); (focus rfl); (focus rfl); (focus (simp only [Act.put, List.setIfInBounds_toArray, List.set_cons_succ, List.set_cons_zero]; exact rfl))); (apply StI_no2; (focus rfl); (focus rfl); (focus rfl); (focus rfl); (focus rfl); (focus rfl); (focus (simp only [Act.put, List.setIfInBounds_toArray, List.set_cons_succ, List.set_cons_zero]; exact rfl))); (apply StI_no2; (focus rfl); (focus rfl); (focus rfl); (focus rfl); (focus rfl); (focus rfl); (focus (simp only [Act.put, List.setIfInBounds_toArray, List.set_cons_succ, List.set_cons_zero]; exact rfl))); (apply StI_no2; (focus rfl); (focus rfl); (focus rfl); (focus rfl); (focus rfl); (focus rfl); (focus (simp only [Act.put, List.setIfInBounds_toArray, List.set_cons_succ, List.set_cons_zero]; exact rfl))); (apply StI_no2; (focus rfl); (focus rfl); (focus rfl); (focus rfl); (focus rfl); (focus rfl); (focus (simp only [Act.put, List.setIfInBounds_toArray, List.set_cons_succ, List.set_cons_zero]; exact rfl))); (apply StI_plain (w0 := w4.drew) hI rfl rfl rfl rfl; (focus (intro W hW K hK; obtain ⟨_, _, _⟩ := bk A.rb hW hwal; obtain ⟨_, _, _⟩ := bk qx hW hbxl; obtain ⟨_, _, _⟩ := bk (A.pb k) hW hpl; obtain ⟨_, _, _⟩ := bk q4 hW k4l; obtain ⟨_, _, _⟩ := bk q5 hW k5l; obtain ⟨_, _, _⟩ := bk gr hW hgrl; have hl := Hhlk.out W hW; go_step; exact hK)); (focus rfl))
          refine StI_nil ?_
          go_wp2_with fail
          go_meet
          exact ⟨by first | rfl | simp, (by repeat (first | exact Below.refl _ _ | (refine bl_setCell ?_ _ _ ?_; rotate_left; focus (first | omega | (simp; done) | (simp; omega))) | refine bl_alloc ?_ _ | refine bl_step ?_ (by assumption) | refine bl_drew ?_ | refine bl_drewN ?_ _))⟩
        (apply StI_yes (w0 := w4.drew) hI; (focus rfl); (focus rfl); (focus rfl); (focus rfl); (focus rfl); (focus rfl); (focus rfl); (focus (intro W hW K hK; obtain ⟨_, _, _⟩ := bk A.rb hW hwal; obtain ⟨_, _, _⟩ := bk qx hW hbxl; obtain ⟨_, _, _⟩ := bk (A.pb k) hW hpl; obtain ⟨_, _, _⟩ := bk q4 hW k4l; obtain ⟨_, _, _⟩ := bk q5 hW k5l; obtain ⟨_, _, _⟩ := bk gr hW hgrl; have hl := Hhlk.out W hW; go_step; exact hK)); (focus rfl)); (apply StI_yes (w0 := w4.drew) hI; (focus rfl); (focus rfl); (focus rfl); (focus rfl); (focus rfl); (focus rfl); (focus rfl); (focus (intro W hW K hK; obtain ⟨_, _, _⟩ := bk A.rb hW hwal; obtain ⟨_, _, _⟩ := bk qx hW hbxl; obtain ⟨_, _, _⟩ := bk (A.pb k) hW hpl; obtain ⟨_, _, _⟩ := bk q4 hW k4l; obtain ⟨_, _, _⟩ := bk q5 hW k5l; obtain ⟨_, _, _⟩ := bk gr hW hgrl; have hl := Hhlk.out W hW; go_step; exact hK)); (focus rfl)); (apply StI_yes (w0 := w4.drew) hI; (focus rfl); (focus rfl); (focus rfl); (focus rfl); (focus rfl); (focus rfl); (focus rfl); (focus (intro W hW K hK; obtain ⟨_, _, _⟩ := bk A.rb hW hwal; obtain ⟨_, _, _⟩ := bk qx hW hbxl; obtain ⟨_, _, _⟩ := bk (A.pb k) hW hpl; obtain ⟨_, _, _⟩ := bk q4 hW k4l; obtain ⟨_, _, _⟩ := bk q5 hW k5l; obtain ⟨_, _, _⟩ := bk gr hW hgrl; have hl := Hhlk.out W hW; go_step; exact hK)); (focus rfl)); (apply StI_yes (w0 := w4.drew) hI; (focus rfl); (focus rfl); (focus rfl); (focus rfl); (focus rfl); (focus rfl); (focus rfl); (focus (intro W hW K hK; obtain ⟨_, _, _⟩ := bk A.rb hW hwal; obtain ⟨_, _, _⟩ := bk qx hW hbxl; obtain ⟨_, _, _⟩ := bk (A.pb k) hW hpl; obtain ⟨_, _, _⟩ := bk q4 hW k4l; obtain ⟨_, _, _⟩ := bk q5 hW k5l; obtain ⟨_, _, _⟩ := bk gr hW hgrl; have hl := Hhlk.out W hW; go_step; exact hK)); (focus rfl)); (apply StI_yes (w0 := w4.drew) hI; (focus rfl); (focus rfl); (focus rfl); (focus rfl); (focus rfl); (focus rfl); (focus rfl); (focus (intro W hW K hK; obtain ⟨_, _, _⟩ := bk A.rb hW hwal; obtain ⟨_, _, _⟩ := bk qx hW hbxl; obtain ⟨_, _, _⟩ := bk (A.pb k) hW hpl; obtain ⟨_, _, _⟩ := bk q4 hW k4l; obtain ⟨_, _, _⟩ := bk q5 hW k5l; obtain ⟨_, _, _⟩ := bk gr hW hgrl; have hl := Hhlk.out W hW; go_step; exact hK)); (focus rfl)); (apply StI_yes (w0 := w4.drew) hI; (focus rfl); (focus rfl); (focus rfl); (focus rfl); (focus rfl); (focus rfl); (focus rfl); (focus (intro W hW K hK; obtain ⟨_, _, _⟩ := bk A.rb hW hwal; obtain ⟨_, _, _⟩ := bk qx hW hbxl; obtain ⟨_, _, _⟩ := bk (A.pb k) hW hpl; obtain ⟨_, _, _⟩ := bk q4 hW k4l; obtain ⟨_, _, _⟩ := bk q5 hW k5l; obtain ⟨_, _, _⟩ := bk gr hW hgrl; have hl := Hhlk.out W hW; go_step; exact hK)); (focus rfl)); (apply StI_yes (w0 := w4.drew) hI; (focus rfl); (focus rfl); (focus rfl); (focus rfl); (focus rfl); (focus rfl); (focus rfl); (focus (intro W hW K hK; obtain ⟨_, _, _⟩ := bk A.rb hW hwal; obtain ⟨_, _, _⟩ := bk qx hW hbxl; obtain ⟨_, _, _⟩ := bk (A.pb k) hW hpl; obtain ⟨_, _, _⟩ := bk q4 hW k4l; obtain ⟨_, _, _⟩ := bk q5 hW k5l; obtain ⟨_, _, _⟩ := bk gr hW hgrl; have hl := Hhlk.out W hW; go_step; exact hK)); (focus rfl)); (apply StI_yes (w0 := w4.drew) hI; (focus rfl); (focus rfl); (focus rfl); (focus rfl); (focus rfl); (focus rfl); (focus rfl); (focus (intro W hW K hK; obtain ⟨_, _, _⟩ := bk A.rb hW hwal; obtain ⟨_, _, _⟩ := bk qx hW hbxl; obtain ⟨_, _, _⟩ := bk (A.pb k) hW hpl; obtain ⟨_, _, _⟩ := bk q4 hW k4l; obtain ⟨_, _, _⟩ := bk q5 hW k5l; obtain ⟨_, _, _⟩ := bk gr hW hgrl; have hl := Hhlk.out W hW; go_step; exact hK)); (focus rfl)); (apply StI_yes (w0 := w4.drew) hI; (focus rfl); (focus rfl); (focus rfl); (focus rfl); (focus rfl); (focus rfl); (focus rfl); (focus (intro W hW K hK; obtain ⟨_, _, _⟩ := bk A.rb hW hwal; obtain ⟨_, _, _⟩ := bk qx hW hbxl; obtain ⟨_, _, _⟩ := bk (A.pb k) hW hpl; obtain ⟨_, _, _⟩ := bk q4 hW k4l; obtain ⟨_, _, _⟩ := bk q5 hW k5l; obtain ⟨_, _, _⟩ := bk gr hW hgrl; have hl := Hhlk.out W hW; go_step; exact hK)); (focus rfl)); (apply StI_yes (w0 := w4.drew) hI; (focus rfl); (focus rfl); (focus rfl); (focus rfl); (focus rfl); (focus rfl); (focus rfl); (focus (intro W hW K hK; obtain ⟨_, _, _⟩ := bk A.rb hW hwal; obtain ⟨_, _, _⟩ := bk qx hW hbxl; obtain ⟨_, _, _⟩ := bk (A.pb k) hW hpl; obtain ⟨_, _, _⟩ := bk q4 hW k4l; obtain ⟨_, _, _⟩ := bk q5 hW k5l; obtain ⟨_, _, _⟩ := bk gr hW hgrl; have hl := Hhlk.out W hW; go_step; exact hK)); (focus rfl)); (apply StI_yes (w0 := w4.drew) hI; (focus rfl); (focus rfl); (focus rfl); (focus rfl); (focus rfl); (focus rfl); (focus rfl); (focus (intro W hW K hK; obtain ⟨_, _, _⟩ := bk A.rb hW hwal; obtain ⟨_, _, _⟩ := bk qx hW hbxl; obtain ⟨_, _, _⟩ := bk (A.pb k) hW hpl; obtain ⟨_, _, _⟩ := bk q4 hW k4l; obtain ⟨_, _, _⟩ := bk q5 hW k5l; obtain ⟨_, _, _⟩ := bk gr hW hgrl; have hl := Hhlk.out W hW; go_step; exact hK)); (focus rfl)); (apply StI_yes (w0 := w4.drew) hI; (focus rfl); (focus rfl); (focus rfl); (focus rfl); (focus rfl); (focus rfl); (focus rfl); (focus (intro W hW K hK; obtain ⟨_, _, _⟩ := bk A.rb hW hwal; obtain ⟨_, _, _⟩ := bk qx hW hbxl; obtain ⟨_, _, _⟩ := bk (A.pb k) hW hpl; obtain ⟨_, _, _⟩ := bk q4 hW k4l; obtain ⟨_, _, _⟩ := bk q5 hW k5l; obtain ⟨_, _, _⟩ := bk gr hW hgrl; have hl := Hhlk.out W hW; go_step; exact hK)); (focus rfl)); (apply StI_yes (w0 := w4.drew) hI; (focus rfl); (focus rfl); (focus rfl); (focus rfl); (focus rfl); (focus rfl); (focus rfl); (focus (intro W hW K hK; obtain ⟨_, _, _⟩ := bk A.rb hW hwal; obtain ⟨_, _, _⟩ := bk qx hW hbxl; obtain ⟨_, _, _⟩ := bk (A.pb k) hW hpl; obtain ⟨_, _, _⟩ := bk q4 hW k4l; obtain ⟨_, _, _⟩ := bk q5 hW k5l; obtain ⟨_, _, _⟩ := bk gr hW hgrl; have hl := Hhlk.out W hW; go_step; exact hK)); (focus rfl)); (apply StI_yes (w0 := w4.drew) hI; (focus rfl); (focus rfl); (focus rfl); (focus rfl); (focus rfl); (focus rfl); (focus rfl); (focus (intro W hW K hK; obtain ⟨_, _, _⟩ := bk A.rb hW hwal; obtain ⟨_, _, _⟩ := bk qx hW hbxl; obtain ⟨_, _, _⟩ := bk (A.pb k) hW hpl; obtain ⟨_, _, _⟩ := bk q4 hW k4l; obtain ⟨_, _, _⟩ := bk q5 hW k5l; obtain ⟨_, _, _⟩ := bk gr hW hgrl; have hl := Hhlk.out W hW; go_step; exact hK)); (focus rfl)); (apply StI_yes (w0 := w4.drew) hI; (focus rfl); (focus rfl); (focus rfl); (focus rfl); (focus rfl); (focus rfl); (focus rfl); (focus (intro W hW K hK; obtain ⟨_, _, _⟩ := bk A.rb hW hwal; obtain ⟨_, _, _⟩ := bk qx hW hbxl; obtain ⟨_, _, _⟩ := bk (A.pb k) hW hpl; obtain ⟨_, _, _⟩ := bk q4 hW k4l; obtain ⟨_, _, _⟩ := bk q5 hW k5l; obtain ⟨_, _, _⟩ := bk gr hW hgrl; have hl := Hhlk.out W hW; go_step; exact hK)); (focus rfl)); (apply StI_yes (w0 := w4.drew) hI; (focus rfl); (focus rfl); (focus rfl); (focus rfl); (focus rfl); (focus rfl); (focus rfl); (focus (intro W hW K hK; obtain ⟨_, _, _⟩ := bk A.rb hW hwal; obtain ⟨_, _, _⟩ := bk qx hW hbxl; obtain ⟨_, _, _⟩ := bk (A.pb k) hW hpl; obtain ⟨_, _, _⟩ := bk q4 hW k4l; obtain ⟨_, _, _⟩ := bk q5 hW k5l; obtain ⟨_, _, _⟩ := bk gr hW hgrl; have hl := Hhlk.out W hW; go_step; exact hK)); (focus rfl))
        obtain ⟨v3, hv3⟩ : ∃ v, decide (rm < x.people) = v := ⟨_, rfl⟩
        rw [hv3] at hfull ⊢
        clear hv3
        subst hfull
        (apply StI_plain (w0 := w4.drew) hI rfl rfl rfl rfl; (focus (intro W hW K hK; obtain ⟨_, _, _⟩ := bk A.rb hW hwal; obtain ⟨_, _, _⟩ := bk qx hW hbxl; obtain ⟨_, _, _⟩ := bk (A.pb k) hW hpl; obtain ⟨_, _, _⟩ := bk q4 hW k4l; obtain ⟨_, _, _⟩ := bk q5 hW k5l; obtain ⟨_, _, _⟩ := bk gr hW hgrl; have hl := Hhlk.out W hW; go_step; exact hK)); (focus rfl))
        refine StI_nil ?_
        go_wp2_with fail
        go_meet
        exact ⟨by first | rfl | simp, (by repeat (first | exact Below.refl _ _ | (refine bl_setCell ?_ _ _ ?_; rotate_left; focus (first | omega | (simp; done) | (simp; omega))) | refine bl_alloc ?_ _ | refine bl_step ?_ (by assumption) | refine bl_drew ?_ | refine bl_drewN ?_ _))⟩
      case rest =>
      as_aux_lemma =>
      obtain ⟨rfl, hbe⟩ := hcut
      clear hfull
      revert wc
      intro w5 hbe
      cases fu
      rotate_left
      · have hno : enterAt T s k rk = rk := by rw [Hhent2.out, Hhfu.out]; rfl
        have Hhno := Lib.hid hno; clear hno; have Hhbe := Lib.hid hbe; clear hbe
        go_wp2_with fail
        go_roundw
        case rel => exact ⟨k + 1, P1, by omega, by go_num, by rw [Hhnx.out, Hhno.out]; exact Hhrd.out.below HhN.out Hhbe.out, Hhfrd.out.trans (Fr.of_below Hhbe.out)⟩
        case measure => simp [intOf]; omega
      have hin : enterAt T s k rk = nextAt ((enterIn rk k).tell s 5 k x.place) k := by rw [Hhent2.out, Hhfu.out]; rfl
      have hre := Hhrd.out.below HhN.out hbe
      have hfre := Hhfrd.out.trans (Fr.of_below hbe)
      have hbxe := heap_below hbe Hhbxd.out
      have hpbe := heap_below hbe Hhpbd.out
      have hb5e := heap_below hbe Hhb5.out
      have hgrl5 : gr < w5.heap.size := by have := hbe.size; omega
      have hlk5 : ∀ W, Below w5.heap.size w5 W → (Instr.lookup 159 (.map (some m)) (.agg #[.int .i64 2, .int .i64 x.place]) false).run Try.prog W = .ok (.int .i64 uu) W := fun W hW => Hhlk.out W (bl_step hbe hW)
      clear Hhrd Hhfrd Hhbxd Hhpbd Hhhsd Hhb4 Hhb5 Hhlk hwac hpc hbxc hwal hpl hbxl k4c k4l k5c k5l hgrl hrc0 Hhent2
      have hwac := cells_of hre.run.blk
      have hwal := lt_of_heap hre.run.blk
      simp only [runCells] at hwac
      have hpc := cells_of hpbe
      simp only [partyCells] at hpc
      have hpl := lt_of_heap hpbe
      have hbxc := cells_of hbxe
      have hbxl := lt_of_heap hbxe
      have k5c := cells_of hb5e
      have k5l := lt_of_heap hb5e
      have hU := HhRk.out.used
      have hkeys : GoodKeys goodU rk.used := fun y hy => by have := hU.key y hy; unfold goodU I64; omega
      have hrm' := map_ne hre.run.blk hre.run.used
      have hqm := map_ne hb5e hre.run.used
      have hxm := map_ne hbxe hre.run.used
      have hpm := map_ne hpbe hre.run.used
      have n1 : ¬ A.rb ∈ [m] := by simpa using hrm'
      have n2 : ¬ q5 ∈ [m] := by simpa using hqm
      have n3 : ¬ qx ∈ [m] := by simpa using hxm
      have n4 : ¬ A.pb k ∈ [m] := by simpa using hpm
      have Hhre := Lib.hid hre; clear hre; have Hhfre := Lib.hid hfre; clear hfre; have Hhbxe := Lib.hid hbxe; clear hbxe; have Hhpbe := Lib.hid hpbe; clear hpbe; have Hhb5e := Lib.hid hb5e; clear hb5e; have Hhlk5 := Lib.hid hlk5; clear hlk5; have HhU := Lib.hid hU; clear hU; have Hhkeys := Lib.hid hkeys; clear hkeys; have Hhin := Lib.hid hin; clear hin; have Hhbe := Lib.hid hbe; clear hbe
      go_upto_region 6 with fail
      have hr6 := Hhre.out.drew HhN.out
      obtain ⟨st, o1, he1, hm1, hst⟩ := MapE.entry use_ok Try.underlying159 hr6.run.used Hhkeys.out HhU.out.nodup (z := (0 : Int)) zero_int ⟨2, x.place⟩ hgu
      obtain ⟨o2, hes, hm2⟩ := hst (uu + x.people)
      rw [← kgetU_mget, Hhuu.out] at he1 hm1
      obtain ⟨w6, hw6⟩ : ∃ W, setBlock w5.drew m o1 = W := ⟨_, rfl⟩
      have hk6 : Keeps [m] w5.drew w6 := by rw [← hw6]; exact keeps_setBlock _ _ _
      rw [hw6] at he1 hm1 hes hm2
      obtain ⟨w7, hw7⟩ : ∃ W, setBlock w6 m o2 = W := ⟨_, rfl⟩
      have hk7 : Keeps [m] w6 w7 := by rw [← hw7]; exact keeps_setBlock _ _ _
      rw [hw7] at hes hm2
      clear hst hw6 hw7
      have hI6 : TakS A.rb q5 2 x.place m uu w5 w5.drew := ⟨(Keeps.refl _ _).drew, by have := Hhlk5.out w5.drew ((Below.refl _ _).drew); exact this⟩
      have hI7 : TakS A.rb q5 2 x.place m uu w5 w6 := by
        refine ⟨(Keeps.refl _ _).drew.trans hk6, ?_⟩
        have hl2 := MapE.look use_ok Try.underlying159 hm1 (Hhkeys.out.mput hgu) (Apart.mput HhU.out.nodup) (zero_int w6) ⟨2, x.place⟩ hgu false
        rw [mget_mput, if_pos rfl] at hl2
        exact hl2
      have Hhr6 := Lib.hid hr6; clear hr6; have Hhm1 := Lib.hid hm1; clear hm1; have Hhm2 := Lib.hid hm2; clear hm2; have Hhk6 := Lib.hid hk6; clear hk6; have Hhk7 := Lib.hid hk7; clear hk7
      refine wp_region_ord (TakS A.rb q5 2 x.place m uu w5) [([0, 1, 2, 3, 4, 5, 6, 7, 8, 9, 10], 11)] [12] (some 13) (by kernel_rfl) (by kernel_rfl) hI6 ?_
      refine OrdI_cons ?_
      (apply StI_plain (w0 := _) hI6 rfl rfl rfl rfl; (focus (intro W hW K hK; have := hW.kp.cell A.rb hwal n1; have := hW.kp.cell q5 k5l n2; have := hW.kp.cell qx hbxl n3; have := hW.kp.cell (A.pb k) hpl n4; have hl := hW.lk; go_step; exact hK)); (focus rfl)); (apply StI_plain (w0 := _) hI6 rfl rfl rfl rfl; (focus (intro W hW K hK; have := hW.kp.cell A.rb hwal n1; have := hW.kp.cell q5 k5l n2; have := hW.kp.cell qx hbxl n3; have := hW.kp.cell (A.pb k) hpl n4; have hl := hW.lk; go_step; exact hK)); (focus rfl)); (apply StI_plain (w0 := _) hI6 rfl rfl rfl rfl; (focus (intro W hW K hK; have := hW.kp.cell A.rb hwal n1; have := hW.kp.cell q5 k5l n2; have := hW.kp.cell qx hbxl n3; have := hW.kp.cell (A.pb k) hpl n4; have hl := hW.lk; go_step; exact hK)); (focus rfl)); (apply StI_plain (w0 := _) hI6 rfl rfl rfl rfl; (focus (intro W hW K hK; have := hW.kp.cell A.rb hwal n1; have := hW.kp.cell q5 k5l n2; have := hW.kp.cell qx hbxl n3; have := hW.kp.cell (A.pb k) hpl n4; have hl := hW.lk; go_step; exact hK)); (focus rfl)); (apply StI_plain (w0 := _) hI6 rfl rfl rfl rfl; (focus (intro W hW K hK; have := hW.kp.cell A.rb hwal n1; have := hW.kp.cell q5 k5l n2; have := hW.kp.cell qx hbxl n3; have := hW.kp.cell (A.pb k) hpl n4; have hl := hW.lk; go_step; exact hK)); (focus rfl)); (apply StI_plain (w0 := _) hI6 rfl rfl rfl rfl; (focus (intro W hW K hK; have := hW.kp.cell A.rb hwal n1; have := hW.kp.cell q5 k5l n2; have := hW.kp.cell qx hbxl n3; have := hW.kp.cell (A.pb k) hpl n4; have hl := hW.lk; go_step; exact hK)); (focus rfl)); (apply StI_plain (w0 := _) hI6 rfl rfl rfl rfl; (focus (intro W hW K hK; have := hW.kp.cell A.rb hwal n1; have := hW.kp.cell q5 k5l n2; have := hW.kp.cell qx hbxl n3; have := hW.kp.cell (A.pb k) hpl n4; have hl := hW.lk; go_step; exact hK)); (focus rfl)); (apply StI_plain (w0 := _) hI6 rfl rfl rfl rfl; (focus (intro W hW K hK; have := hW.kp.cell A.rb hwal n1; have := hW.kp.cell q5 k5l n2; have := hW.kp.cell qx hbxl n3; have := hW.kp.cell (A.pb k) hpl n4; have hl := hW.lk; go_step; exact hK)); (focus rfl)); (apply StI_plain (w0 := _) hI6 rfl rfl rfl rfl; (focus (intro W hW K hK; have := hW.kp.cell A.rb hwal n1; have := hW.kp.cell q5 k5l n2; have := hW.kp.cell qx hbxl n3; have := hW.kp.cell (A.pb k) hpl n4; have hl := hW.lk; go_step; exact hK)); (focus rfl)); (apply StI_plain (w0 := _) hI6 rfl rfl rfl rfl; (focus (intro W hW K hK; have := hW.kp.cell A.rb hwal n1; have := hW.kp.cell q5 k5l n2; have := hW.kp.cell qx hbxl n3; have := hW.kp.cell (A.pb k) hpl n4; have hl := hW.lk; go_step; exact hK)); (focus rfl)); (apply StI_plain (w0 := _) hI6 rfl rfl rfl rfl; (focus (intro W hW K hK; have := hW.kp.cell A.rb hwal n1; have := hW.kp.cell q5 k5l n2; have := hW.kp.cell qx hbxl n3; have := hW.kp.cell (A.pb k) hpl n4; have hl := hW.lk; go_step; exact hK)); (focus rfl))
      (apply StI_eff rfl; refine wpList_mapEntry_run _ w6 rfl _ _ _ rfl _ _ _ rfl rfl he1 ?_; go_wp2_with fail)
      refine onNormal_mk hI7 (OrdI_snk ?_)
      (apply StI_plain (w0 := _) hI7 rfl rfl rfl rfl; (focus (intro W hW K hK; skip; go_step; exact hK)); (focus rfl))
      (apply StI_eff rfl; refine wpList_entryStore_run _ w7 rfl _ _ _ _ rfl _ _ _ rfl rfl rfl hes ?_; go_wp2_with fail)
      refine onNormal_last ?_
      obtain ⟨hr7, hf7⟩ := Hhr6.out.setUsed HhN.out hmB (mput rk.used ⟨2, x.place⟩ (uu + x.people)) Hhm2.out (Hhk6.out.trans Hhk7.out)
      have hfr7 : Fr A r.parties.length r.waits.length (some m) P1 P1 w5.drew w7 := by have := hf7; rw [Hhlen.out, ← Hhnp'.out, Hhlen2.out] at this; exact this
      have hnow' : ¬ A.own r.parties.length r.waits.length qx := by have := Hhnow.out; rw [Hhlen.out, ← Hhnp'.out, Hhlen2.out] at this; exact this
      have hbxd5 : w5.drew.heap[qx]? = some (.cells #[.pointer (some ⟨A.pb k, 0, none⟩)] 162 (0, 0)) := heap_drew' Hhbxe.out
      have hbx7 : w7.heap[qx]? = some (.cells #[.pointer (some ⟨A.pb k, 0, none⟩)] 162 (0, 0)) := Fr.keep hfr7 hbxd5 hnow' Hhnom.out HhnoP.out
      have hfd5 : Fr A r.parties.length r.waits.length (some m) P1 P1 w5 w5.drew := Fr.of_below (bl_drew (Below.refl _ _))
      have hfz7 : Fr A r.parties.length r.waits.length (some m) P P1 w w7 := Fr.trans (Fr.trans Hhfre.out hfd5) hfr7
      obtain ⟨r6, hr6q⟩ : ∃ q : RunS, { rk with used := mput rk.used ⟨2, x.place⟩ (uu + x.people) } = q := ⟨_, rfl⟩
      have h6p : r6.parties = rk.parties := by rw [← hr6q]
      have h6w : r6.waits = rk.waits := by rw [← hr6q]
      have h6r : r6.room = rk.room := by rw [← hr6q]
      have h6x : r6.pt k = x := by rw [← Hhx.out, ← hr6q]; rfl
      rw [hr6q] at hr7
      obtain ⟨ha7, hc7, hpb7, hhs7⟩ := hr7.run.pt k (by rw [h6p]; exact hki)
      have hrowr7 := hr7.run.rowr
      have hvr7 : A.vr = .slice (some ⟨gr, 0, none⟩) r6.room.length capr := by rw [h6r]; exact hvr
      rw [hvr7] at hrowr7
      have hrc7 : w7.cell? ⟨gr, x.place.toNat, none⟩ = some (.int .i64 rm) := by
        have hlt2 : x.place.toNat < rk.room.length := by omega
        refine (hrowr7.cellAt x.place.toNat (by rw [h6r]; omega)).trans ?_
        rw [List.getElem?_map, h6r, List.getElem?_eq_getElem hlt2, ← Hhrm.out]
        unfold RunS.rm
        rw [List.getD_eq_getElem?_getD, List.getElem?_eq_getElem hlt2]
        rfl
      have hrf7 := row_frozen hrowr7
      have hgrl7 : gr < w7.heap.size := (hrowr7.lt gr rfl).2
      clear Hhre Hhfre Hhbxe Hhpbe Hhb5e Hhlk5 HhU Hhkeys Hhbe hwac hpc hbxc hwal hpl hbxl k5c k5l n1 n2 n3 n4 hrm' hqm hxm hpm hI6 hI7 he1 hes Hhr6 Hhm1 Hhm2 Hhk6 Hhk7 hf7 hfr7 hrowr7 hgrl5
      rw [h6x] at hpb7 hhs7
      have hwac := cells_of hr7.run.blk
      have hwal := lt_of_heap hr7.run.blk
      simp only [runCells] at hwac
      rw [hvr, hrml] at hwac
      have hpc := cells_of hpb7
      simp only [partyCells] at hpc
      have hpl := lt_of_heap hpb7
      have hbxc := cells_of hbx7
      have hbxl := lt_of_heap hbx7
      have hI7 : Below w7.heap.size w7 w7.drew := (Below.refl _ _).drew
      have Hhr7 := Lib.hid hr7; clear hr7; have Hhbx7 := Lib.hid hbx7; clear hbx7; have Hhfz7 := Lib.hid hfz7; clear hfz7; have Hhr6q := Lib.hid hr6q; clear hr6q; have Hh6p := Lib.hid h6p; clear h6p; have Hh6w := Lib.hid h6w; clear h6w; have Hh6r := Lib.hid h6r; clear h6r; have Hh6x := Lib.hid h6x; clear h6x; have Hhpb7 := Lib.hid hpb7; clear hpb7; have Hhhs7 := Lib.hid hhs7; clear hhs7; have Hhvr7 := Lib.hid hvr7; clear hvr7; have Hhnow' := Lib.hid hnow'; clear hnow'
      go_upto_region 7 with fail
      refine wp_region_ord (fun W => Below w7.heap.size w7 W) [] [0, 1, 2, 3, 4, 5, 6, 7, 8, 9, 10, 11, 12, 13, 14, 15, 16] (some 17) (by kernel_rfl) (by kernel_rfl) hI7 ?_
      refine OrdI_snk ?_
      (apply StI_plain (w0 := w7.drew) hI7 rfl rfl rfl rfl; (focus (intro W hW K hK; obtain ⟨_, _, _⟩ := bk A.rb hW hwal; obtain ⟨_, _, _⟩ := bk qx hW hbxl; obtain ⟨_, _, _⟩ := bk (A.pb k) hW hpl; obtain ⟨_, _, _⟩ := bk gr hW hgrl7; go_step; exact hK)); (focus rfl)); (apply StI_plain (w0 := w7.drew) hI7 rfl rfl rfl rfl; (focus (intro W hW K hK; obtain ⟨_, _, _⟩ := bk A.rb hW hwal; obtain ⟨_, _, _⟩ := bk qx hW hbxl; obtain ⟨_, _, _⟩ := bk (A.pb k) hW hpl; obtain ⟨_, _, _⟩ := bk gr hW hgrl7; go_step; exact hK)); (focus rfl)); (apply StI_plain (w0 := w7.drew) hI7 rfl rfl rfl rfl; (focus (intro W hW K hK; obtain ⟨_, _, _⟩ := bk A.rb hW hwal; obtain ⟨_, _, _⟩ := bk qx hW hbxl; obtain ⟨_, _, _⟩ := bk (A.pb k) hW hpl; obtain ⟨_, _, _⟩ := bk gr hW hgrl7; go_step; exact hK)); (focus rfl)); (apply StI_plain (w0 := w7.drew) hI7 rfl rfl rfl rfl; (focus (intro W hW K hK; obtain ⟨_, _, _⟩ := bk A.rb hW hwal; obtain ⟨_, _, _⟩ := bk qx hW hbxl; obtain ⟨_, _, _⟩ := bk (A.pb k) hW hpl; obtain ⟨_, _, _⟩ := bk gr hW hgrl7; go_step; exact hK)); (focus rfl)); (apply StI_plain (w0 := w7.drew) hI7 rfl rfl rfl rfl; (focus (intro W hW K hK; obtain ⟨_, _, _⟩ := bk A.rb hW hwal; obtain ⟨_, _, _⟩ := bk qx hW hbxl; obtain ⟨_, _, _⟩ := bk (A.pb k) hW hpl; obtain ⟨_, _, _⟩ := bk gr hW hgrl7; go_step; exact hK)); (focus rfl)); (apply StI_plain (w0 := w7.drew) hI7 rfl rfl rfl rfl; (focus (intro W hW K hK; obtain ⟨_, _, _⟩ := bk A.rb hW hwal; obtain ⟨_, _, _⟩ := bk qx hW hbxl; obtain ⟨_, _, _⟩ := bk (A.pb k) hW hpl; obtain ⟨_, _, _⟩ := bk gr hW hgrl7; go_step; exact hK)); (focus rfl)); (apply StI_plain (w0 := w7.drew) hI7 rfl rfl rfl rfl; (focus (intro W hW K hK; obtain ⟨_, _, _⟩ := bk A.rb hW hwal; obtain ⟨_, _, _⟩ := bk qx hW hbxl; obtain ⟨_, _, _⟩ := bk (A.pb k) hW hpl; obtain ⟨_, _, _⟩ := bk gr hW hgrl7; go_step; exact hK)); (focus rfl)); (apply StI_plain (w0 := w7.drew) hI7 rfl rfl rfl rfl; (focus (intro W hW K hK; obtain ⟨_, _, _⟩ := bk A.rb hW hwal; obtain ⟨_, _, _⟩ := bk qx hW hbxl; obtain ⟨_, _, _⟩ := bk (A.pb k) hW hpl; obtain ⟨_, _, _⟩ := bk gr hW hgrl7; go_step; exact hK)); (focus rfl)); (apply StI_plain (w0 := w7.drew) hI7 rfl rfl rfl rfl; (focus (intro W hW K hK; obtain ⟨_, _, _⟩ := bk A.rb hW hwal; obtain ⟨_, _, _⟩ := bk qx hW hbxl; obtain ⟨_, _, _⟩ := bk (A.pb k) hW hpl; obtain ⟨_, _, _⟩ := bk gr hW hgrl7; go_step; exact hK)); (focus rfl)); (apply StI_plain (w0 := w7.drew) hI7 rfl rfl rfl rfl; (focus (intro W hW K hK; obtain ⟨_, _, _⟩ := bk A.rb hW hwal; obtain ⟨_, _, _⟩ := bk qx hW hbxl; obtain ⟨_, _, _⟩ := bk (A.pb k) hW hpl; obtain ⟨_, _, _⟩ := bk gr hW hgrl7; go_step; exact hK)); (focus rfl)); (apply StI_plain (w0 := w7.drew) hI7 rfl rfl rfl rfl; (focus (intro W hW K hK; obtain ⟨_, _, _⟩ := bk A.rb hW hwal; obtain ⟨_, _, _⟩ := bk qx hW hbxl; obtain ⟨_, _, _⟩ := bk (A.pb k) hW hpl; obtain ⟨_, _, _⟩ := bk gr hW hgrl7; go_step; exact hK)); (focus rfl)); (apply StI_plain (w0 := w7.drew) hI7 rfl rfl rfl rfl; (focus (intro W hW K hK; obtain ⟨_, _, _⟩ := bk A.rb hW hwal; obtain ⟨_, _, _⟩ := bk qx hW hbxl; obtain ⟨_, _, _⟩ := bk (A.pb k) hW hpl; obtain ⟨_, _, _⟩ := bk gr hW hgrl7; go_step; exact hK)); (focus rfl)); (apply StI_plain (w0 := w7.drew) hI7 rfl rfl rfl rfl; (focus (intro W hW K hK; obtain ⟨_, _, _⟩ := bk A.rb hW hwal; obtain ⟨_, _, _⟩ := bk qx hW hbxl; obtain ⟨_, _, _⟩ := bk (A.pb k) hW hpl; obtain ⟨_, _, _⟩ := bk gr hW hgrl7; go_step; exact hK)); (focus rfl)); (apply StI_plain (w0 := w7.drew) hI7 rfl rfl rfl rfl; (focus (intro W hW K hK; obtain ⟨_, _, _⟩ := bk A.rb hW hwal; obtain ⟨_, _, _⟩ := bk qx hW hbxl; obtain ⟨_, _, _⟩ := bk (A.pb k) hW hpl; obtain ⟨_, _, _⟩ := bk gr hW hgrl7; go_step; exact hK)); (focus rfl)); (apply StI_plain (w0 := w7.drew) hI7 rfl rfl rfl rfl; (focus (intro W hW K hK; obtain ⟨_, _, _⟩ := bk A.rb hW hwal; obtain ⟨_, _, _⟩ := bk qx hW hbxl; obtain ⟨_, _, _⟩ := bk (A.pb k) hW hpl; obtain ⟨_, _, _⟩ := bk gr hW hgrl7; go_step; exact hK)); (focus rfl)); (apply StI_plain (w0 := w7.drew) hI7 rfl rfl rfl rfl; (focus (intro W hW K hK; obtain ⟨_, _, _⟩ := bk A.rb hW hwal; obtain ⟨_, _, _⟩ := bk qx hW hbxl; obtain ⟨_, _, _⟩ := bk (A.pb k) hW hpl; obtain ⟨_, _, _⟩ := bk gr hW hgrl7; go_step; exact hK)); (focus rfl)); (apply StI_plain (w0 := w7.drew) hI7 rfl rfl rfl rfl; (focus (intro W hW K hK; obtain ⟨_, _, _⟩ := bk A.rb hW hwal; obtain ⟨_, _, _⟩ := bk qx hW hbxl; obtain ⟨_, _, _⟩ := bk (A.pb k) hW hpl; obtain ⟨_, _, _⟩ := bk gr hW hgrl7; go_step; exact hK)); (focus rfl))
      (apply StI_eff rfl; go_wp2_with fail)
      refine onNormal_last ?_
      obtain ⟨hr8, hf8⟩ := (Hhr7.out.drew HhN.out).setRoom HhN.out Hhvr7.out x.place.toNat (rm - x.people)
      obtain ⟨w8, hw8⟩ : ∃ W, (w7.setCell ⟨gr, x.place.toNat, none⟩ (.int .i64 (rm - x.people))).drew = W := ⟨_, rfl⟩
      obtain ⟨r8, hr8q⟩ : ∃ q : RunS, q = { r6 with room := r6.room.set x.place.toNat (rm - x.people) } := ⟨_, rfl⟩
      have h8p : r8.parties = rk.parties := by rw [hr8q]; exact Hh6p.out
      have h8w : r8.waits = rk.waits := by rw [hr8q]; exact Hh6w.out
      have h8x : r8.pt k = x := by rw [hr8q]; exact Hh6x.out
      have hr8' : RunJ T (some ⟨b2, off2, none⟩) a2 a3 a4 c1 c2 c3 c4 p p1 p2 d1 d2 B A J w8 r8 s (some m) P1 := by rw [hr8q, ← hw8]; exact hr8
      have hf8' : Fr A r.parties.length r.waits.length (some m) P1 P1 w7 w8 := by
        have h1 : Fr A r6.parties.length r6.waits.length (some m) P1 P1 w7.drew w8 := by rw [← hw8]; exact hf8
        rw [Hh6p.out, Hh6w.out, Hhlen.out, ← Hhnp'.out, Hhlen2.out] at h1
        exact Fr.trans (Fr.of_below (bl_drew (Below.refl _ _))) h1
      have hbx8 : w8.heap[qx]? = some (.cells #[.pointer (some ⟨A.pb k, 0, none⟩)] 162 (0, 0)) := Fr.keep hf8' Hhbx7.out Hhnow'.out Hhnom.out HhnoP.out
      have hfz8 : Fr A r.parties.length r.waits.length (some m) P P1 w w8 := Fr.trans Hhfz7.out hf8'
      obtain ⟨ha8, hc8, hpb8, hhs8⟩ := hr8'.run.pt k (by rw [h8p]; exact hki)
      have hpb80 := hpb8
      rw [h8x] at hpb8 hhs8
      rw [hw8]
      obtain ⟨hr9, hf9⟩ := RunJ.set HhN.out hr8' (by rw [h8p]; exact hki) { x with state := 3 } (ha := ha8) (hc := hc8) 11 (.int .i64 3) hpb80 (by rw [h8x]; rfl) hhs8
      rw [h8p, h8w, Hhlen.out, ← Hhnp'.out, Hhlen2.out] at hf9
      have hei : r8.setP k { x with state := 3 } = enterIn rk k := by
        have h6 := Hhr6q.out
        rw [hr8q]
        subst h6
        unfold enterIn RunS.setP
        rw [Hhx.out, kaddU_mput, Hhuu.out, Hhrm.out]
      rw [hei] at hr9
      obtain ⟨hR9, hl9, hl9'⟩ := enterIn_keep HhG.out np r.waits.length k hlt rk HhRk.out Hhlen.out Hhlen2.out Hhfu.out
      have hki9 : k < (enterIn rk k).parties.length := by omega
      have hnp9 : (enterIn rk k).parties.length ≤ 4352 := by omega
      have hpt9 : (enterIn rk k).pt k = { x with state := 3 } := by
        unfold enterIn RunS.pt
        simp only
        rw [List.getD_eq_getElem?_getD, List.getElem?_set_self hki]
        show { rk.pt k with state := 3 } = { x with state := 3 }
        rw [Hhx.out]
      clear hwac hwal hpc hbxc hpl hbxl hrc7 hrf7 hgrl7 hI7 hr8 hf8 hw8 hr8' hf8' Hhr7 Hhbx7 Hhfz7 Hhr6q Hh6p Hh6w Hh6r Hh6x Hhpb7 Hhhs7 Hhvr7
      have hwac := cells_of hr9.run.blk
      have hpc := cells_of hpb8
      have hpf := frozen_of hpb8
      simp only [partyCells] at hpc
      have hpl := lt_of_heap hpb8
      have hbxc := cells_of hbx8
      have hbxl := lt_of_heap hbx8
      have hwal : A.rb < w8.heap.size := by have := lt_of_heap hr9.run.blk; simpa [World.setCell] using this
      clear hwac
      have Hhr9 := Lib.hid hr9; clear hr9; have Hhf9 := Lib.hid hf9; clear hf9; have Hhei := Lib.hid hei; clear hei; have HhR9 := Lib.hid hR9; clear hR9; have Hhl9 := Lib.hid hl9; clear hl9; have Hhl9' := Lib.hid hl9'; clear hl9'; have Hhki9 := Lib.hid hki9; clear hki9; have Hhnp9 := Lib.hid hnp9; clear hnp9; have Hhpt9 := Lib.hid hpt9; clear hpt9; have Hhpb8 := Lib.hid hpb8; clear hpb8; have Hhhs8 := Lib.hid hhs8; clear hhs8; have Hhpb80 := Lib.hid hpb80; clear hpb80; have Hhbx8 := Lib.hid hbx8; clear hbx8; have Hhfz8 := Lib.hid hfz8; clear hfz8; have Hh8p := Lib.hid h8p; clear h8p; have Hh8w := Lib.hid h8w; clear h8w; have Hh8x := Lib.hid h8x; clear h8x; have Hhr8q := Lib.hid hr8q; clear hr8q
      go_upto_region 10 with (go_at_call 102; refine (tell_any T _ _ _ _ _ _ _ _ p _ _ _ _ B A J HhN.out _ (enterIn rk k) s (some m) P1 5 x.place k Hhr9.out Hhki9.out Hhnp9.out Hhlgk.out).mono ?_; rintro e w10 ⟨⟨u, rfl⟩, P2, hr10, hf10⟩; have Hhr10 := Lib.hid hr10; clear hr10; have Hhf10 := Lib.hid hf10; clear hf10)
      have hf10 : Fr A r.parties.length r.waits.length (some m) P1 P2 (w8.setCell ⟨A.pb k, 11, none⟩ (.int .i64 3)) w10 := by have := Hhf10.out; rw [Hhl9.out, ← Hhnp'.out, Hhl9'.out] at this; exact this
      have hbx9 := Fr.keep Hhf9.out Hhbx8.out Hhnow'.out Hhnom.out HhnoP.out
      have hbx10 := Fr.keep hf10 hbx9 Hhnow'.out Hhnom.out HhnoP.out
      have hfz10 := Fr.trans (Fr.trans Hhfz8.out Hhf9.out) hf10
      obtain ⟨r10, hr10q⟩ : ∃ q, (enterIn rk k).tell s 5 k x.place = q := ⟨_, rfl⟩
      have hR10 : RunG T r10 := by rw [← hr10q]; exact HhR9.out.tell _ _ _ _
      have hl10 : r10.parties.length = np := by rw [← hr10q]; exact Hhl9.out
      have hl10' : r10.waits.length = r.waits.length := by rw [← hr10q]; exact Hhl9'.out
      have hpt10 : r10.pt k = { x with state := 3 } := by rw [← hr10q]; exact Hhpt9.out
      have hr10 := Hhr10.out
      rw [hr10q] at hr10
      have hnx2 : enterAt T s k rk = nextAt r10 k := by rw [Hhin.out, hr10q]
      have hncap : np ≤ vc := (row_cap hr10.run.rowp Hhvp.out).1
      have HI := next_any hr10.run Hhvp.out hl10 hnp hlt hbx10
      have hwac := cells_of hr10.run.blk
      have hwal := lt_of_heap hr10.run.blk
      simp only [runCells] at hwac
      rw [Hhvp.out] at hwac
      have hk1 : (k : Int) + 1 ≤ (np : Int) := by omega
      clear hpc hpf hpl hbxc hbxl hf10 hbx9 Hhf9 Hhf10 Hhbx8 Hhfz8 Hhr9 Hhei HhR9 Hhl9 Hhl9' Hhki9 Hhnp9 Hhpt9 Hhpb8 Hhhs8 Hhpb80 Hhr10 Hhr8q Hh8p Hh8w Hh8x Hhin hrml
      obtain ⟨nr, hnr⟩ : ∃ v, nextRide r10 k = v := ⟨_, rfl⟩
      rw [hnr] at HI
      have Hhbx10 := Lib.hid hbx10; clear hbx10; have Hhfz10 := Lib.hid hfz10; clear hfz10; have Hhr10q := Lib.hid hr10q; clear hr10q; have HhR10 := Lib.hid hR10; clear hR10; have Hhl10 := Lib.hid hl10; clear hl10; have Hhl10' := Lib.hid hl10'; clear hl10'; have Hhpt10 := Lib.hid hpt10; clear hpt10; have Hhr10 := Lib.hid hr10; clear hr10; have Hhnx2 := Lib.hid hnx2; clear hnx2; have Hhnr := Lib.hid hnr; clear hnr; have HHI := Lib.hid HI; clear HI
      go_upto_region 11 with (go_at_call 104; refine (HHI.out _ _ (fun j hj => if_neg (by omega))).mono ?_; rintro e w11 ⟨rfl, hb11⟩; have Hhb11 := Lib.hid hb11; clear hb11)
      have hr11 := Hhr10.out.below HhN.out Hhb11.out
      have hfz11 := Fr.trans Hhfz10.out (Fr.of_below Hhb11.out)
      have hnxt : nextAt r10 k = if 0 ≤ nr then r10.setP (k + 1 + nr.toNat) { r10.pt (k + 1 + nr.toNat) with state := 1, place := x.place } else r10 := by
        unfold nextAt
        rw [Hhnr.out, Hhpt10.out]
      clear hwac HHI Hhr10 Hhfz10
      by_cases hge : 0 ≤ nr
      · obtain ⟨n2, rfl⟩ : ∃ n : Nat, nr = n := ⟨nr.toNat, by omega⟩
        have hn2 : k + 1 + (n2 : Int).toNat < np := by
          have h1 : 0 ≤ nextRide r10 k := by rw [Hhnr.out]; exact hge
          have h2 := nextRide_lt h1
          rw [Hhnr.out, Hhl10.out] at h2
          exact h2
        rw [Int.toNat_natCast] at hn2
        obtain ⟨i2, hi2q⟩ : ∃ q, k + 1 + n2 = q := ⟨_, rfl⟩
        have hl11 := Hhl10.out
        have hi2 : i2 < r10.parties.length := by omega
        have hyes : enterAt T s k rk = r10.setP i2 { r10.pt i2 with state := 1, place := x.place } := by rw [Hhnx2.out, hnxt, if_pos hge, Int.toNat_natCast, hi2q]
        obtain ⟨hax, hcx, hpbx, _⟩ := hr11.run.pt k (by omega)
        obtain ⟨hay, hcy, hpby, hhsy⟩ := hr11.run.pt i2 hi2
        have hbx11 := heap_below Hhb11.out Hhbx10.out
        rw [Hhpt10.out] at hpbx
        have hg2 := (hr11.run.ptr hi2 Hhvp.out).1
        have hgl11 := (hr11.run.ptr hi2 Hhvp.out).2
        have hg3 : w11.cell? ⟨g, ((k : Int) + 1 + (n2 : Int)).toNat, none⟩ = some (.pointer (some ⟨A.pb i2, 0, none⟩)) := by
          have e : ((k : Int) + 1 + (n2 : Int)).toNat = i2 := by omega
          rw [e]
          exact hg2
        have hn3 : (k : Int) + 1 + (n2 : Int) < (np : Int) := by omega
        obtain ⟨y, hy⟩ : ∃ y, r10.pt i2 = y := ⟨_, rfl⟩
        rw [hy] at hpby hhsy hyes
        have hwac := cells_of hr11.run.blk
        have hwal := lt_of_heap hr11.run.blk
        simp only [runCells] at hwac
        rw [Hhvp.out] at hwac
        have hpc := cells_of hpbx
        simp only [partyCells] at hpc
        have hpl := lt_of_heap hpbx
        have hyc := cells_of hpby
        have hyf := frozen_of hpby
        simp only [partyCells] at hyc
        have hyl := lt_of_heap hpby
        have hbxc := cells_of hbx11
        have hbxl := lt_of_heap hbx11
        obtain ⟨pby, hpbyq⟩ : ∃ q, A.pb i2 = q := ⟨_, rfl⟩
        rw [hpbyq] at hpby hg2 hg3 hyc hyf hyl
        have hg4 : w11.cell? ⟨g, k + 1 + n2, none⟩ = some (.pointer (some ⟨pby, 0, none⟩)) := by rw [hi2q]; exact hg2
        have hvne : ¬ vc = k + 1 := by omega
        rw [if_neg hvne]
        clear hnxt hl11
        have Hhyes := Lib.hid hyes; clear hyes; have Hhr11 := Lib.hid hr11; clear hr11; have Hhfz11 := Lib.hid hfz11; clear hfz11; have Hhpbx := Lib.hid hpbx; clear hpbx; have Hhpby := Lib.hid hpby; clear hpby; have Hhhsy := Lib.hid hhsy; clear hhsy; have Hhbx11 := Lib.hid hbx11; clear hbx11; have Hhy := Lib.hid hy; clear hy; have Hhi2q := Lib.hid hi2q; clear hi2q; have Hhpbyq := Lib.hid hpbyq; clear hpbyq; have Hhi2 := Lib.hid hi2; clear hi2
        go_wp2_with fail
        have hcell := (heap_setCell_at ((heap_setCell_at Hhpby.out (.int .i64 1) (o := 11)).trans rfl) (.int .i64 x.place) (o := 3)).trans rfl
        obtain ⟨zf, hzf⟩ : ∃ W, (w11.setCell ⟨pby, 11, none⟩ (.int .i64 1)).setCell ⟨pby, 3, none⟩ (.int .i64 x.place) = W := ⟨_, rfl⟩
        rw [hzf] at hcell ⊢
        obtain ⟨y', hy'⟩ : ∃ q : Party, q = { y with state := 1, place := x.place } := ⟨_, rfl⟩
        have hx' : zf.heap[A.pb i2]? = some (.cells (partyCells y' hay hcy) 168 (0, 0)) := by
          rw [Hhpbyq.out, hcell, hy']
          rfl
        obtain ⟨hput, hpfr⟩ := Hhr11.out.put HhN.out Hhi2.out y' hx' (by rw [hy']; exact Hhhsy.out) (fun j hj => by
          rw [Hhpbyq.out] at hj
          rw [← hzf]
          exact (setCell_other _ _ _ _ hj).trans (setCell_other _ _ _ _ hj)) (by rw [← hzf]; exact ⟨rfl, rfl, rfl, by simp [World.setCell]⟩)
        rw [Hhl10.out, ← Hhnp'.out, Hhl10'.out] at hpfr
        have hfrz := Fr.trans Hhfz11.out hpfr
        have hyes2 : enterAt T s k rk = r10.setP i2 y' := by rw [Hhyes.out, hy']
        clear hzf hcell hx' hpfr hwac hpc hyc hyf hbxc hg2 hg3 hg4
        have Hhput := Lib.hid hput; clear hput; have Hhyes2 := Lib.hid hyes2; clear hyes2; have Hhfrz := Lib.hid hfrz; clear hfrz
        go_roundw
        case rel => exact ⟨k + 1, P2, by omega, by go_num, by rw [Hhnx.out, Hhyes2.out]; exact Hhput.out, Hhfrz.out⟩
        case measure => simp [intOf]; omega
      · have hno : enterAt T s k rk = r10 := by rw [Hhnx2.out, hnxt, if_neg hge]
        have hge' : decide (0 ≤ nr) = false := decide_eq_false hge
        clear hnxt
        have Hhno := Lib.hid hno; clear hno; have Hhr11 := Lib.hid hr11; clear hr11; have Hhfz11 := Lib.hid hfz11; clear hfz11
        go_wp2_with fail
        go_roundw
        case rel => exact ⟨k + 1, P2, by omega, by go_num, by rw [Hhnx.out, Hhno.out]; exact Hhr11.out, Hhfz11.out⟩
        case measure => simp [intOf]; omega
    · obtain rfl : k = np := by omega
      go_wp2_with fail
      (try simp only [Exit.inBlock, Exit.then]); refine bodyPost_end (results_none rfl _ _ _) rfl ?_
      exact ⟨⟨_, rfl⟩, P1, by rw [Hhnp'.out, hrk]; exact hrj, hfr⟩

end Go.Proofs.Ytjoihijlcpnhoaa
