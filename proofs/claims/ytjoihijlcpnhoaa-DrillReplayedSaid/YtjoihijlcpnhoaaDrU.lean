/- drill: begin. -/
import Derived.Test.YtjoihijlcpnhoaaDrT
namespace Go.Proofs.Ytjoihijlcpnhoaa
open Go.RowKit

theorem Sl.drop1 {α : Type} {E : World → Nat → Nat → α → Prop} {sz B : Nat} {w : World} {b off : Nat} {l : List α} (h : Sl E sz B w (some ⟨b, off, none⟩) l) : Sl E sz B w (some ⟨b, off + sz, none⟩) (l.drop 1) := by
  refine ⟨by have := h.1; simp only [List.length_drop]; omega, fun k hk => ?_⟩
  simp only [List.length_drop] at hk
  obtain ⟨b', off', he, hb, hE⟩ := h.2 (k + 1) (by omega)
  simp only [Option.some.injEq, Addr.mk.injEq] at he
  obtain ⟨rfl, rfl, _⟩ := he
  refine ⟨b, off + sz, rfl, hb, ?_⟩
  have e1 : off + sz + k * sz = off + (k + 1) * sz := by rw [Nat.add_mul]; omega
  have e2 : (l.drop 1)[k] = l[k + 1] := by rw [List.getElem_drop]; congr 1; omega
  rw [e1, e2]
  exact hE

theorem takesUse_good {T : Town} (hG : TownG T) {r : RunS} (hr : RunG T r) (x : Party) (hx : 0 ≤ x.people) (k : Int) (hk0 : 0 ≤ k) (hk1 : k < (T.ways.length : Int)) (ht : takesIs T r x k = true) : RunG T (takesUse r x k) := by
  unfold takesIs at ht
  have ht' := of_decide_eq_true ht
  have hM := takesM_le hG x hk0 hk1
  have hN : 0 ≤ takesN x := by unfold takesN; split <;> omega
  have hnw : (T.ways.length : Int) ≤ 256 := by have := hG.nw; omega
  have hK : (0 ≤ (takesK x k).kind ∧ (takesK x k).kind ≤ 2) ∧ (0 ≤ (takesK x k).id ∧ (takesK x k).id ≤ 256) := by
    unfold takesK
    split <;> simp only <;> omega
  exact ⟨hr.parties, hr.waits, hr.np, hr.nw, hr.room, hr.used.add hK hN (by omega), hr.pot⟩

theorem HopE_zero {w : World} {b off : Nat} {h : Hop} (he : HopE w b (off + (0 : Int).toNat * 2) h) : w.cell? ⟨b, off, none⟩ = some (.int .i64 h.way) ∧ w.cell? ⟨b, off + 1, none⟩ = some (.int .i64 h.leave) := by
  have e : off + (0 : Int).toNat * 2 = off := by simp
  rw [e] at he
  exact he

/-- What a call leaves alone of blocks that are not the run's. -/
theorem Fr.keep {A : RA} {np nw : Nat} {um : Option Nat} {P P' : Nat → Prop} {w w' : World} (h : Fr A np nw um P P' w w') {q : Nat} {o : Obj} (hq : w.heap[q]? = some o) (hn : ¬ A.own np nw q) (hu : um ≠ some q) (hp : ¬ P q) : w'.heap[q]? = some o :=
  (h.block q (lt_of_heap hq) hn hu hp).trans hq

/-- While a party sets out: its own block, and the box of the way. -/
structure BegS (pb q : Nat) (v0 v1 : Value) (W : World) : Prop where
  own : ∃ c, W.heap[pb]? = some (.cells c 168 (0, 0)) ∧ c[0]? = some v0 ∧ c.size = 13
  box : ∃ c, W.heap[q]? = some (.cells c 77 (0, 0)) ∧ c[1]? = some v1

theorem BegS.set {pb q : Nat} {v0 v1 : Value} {W : World} (h : BegS pb q v0 v1 W) (o : Nat) (v : Value) (ho : o ≠ 0) : BegS pb q v0 v1 (W.setCell ⟨pb, o, none⟩ v) := by
  obtain ⟨⟨c, h1, h2, h3⟩, ⟨d, h4, h5⟩⟩ := h
  refine ⟨⟨c.setIfInBounds o v, heap_setCell_at h1 v, by rw [Array.getElem?_setIfInBounds, if_neg ho]; exact h2, by simpa using h3⟩, ⟨d, heap_setCell_off h4 v (fun e => ?_), h5⟩⟩
  subst e
  rw [h1] at h4
  simp only [Option.some.injEq, Obj.cells.injEq] at h4
  exact absurd h4.2.1 (by decide)
theorem BegS.facts {pb q : Nat} {v0 v1 : Value} {W : World} (h : BegS pb q v0 v1 W) : W.cell? ⟨pb, 0, none⟩ = some v0 ∧ W.cell? ⟨q, 1, none⟩ = some v1 ∧ (∀ o, W.frozen? ⟨pb, o, none⟩ = false) ∧ pb < W.heap.size ∧ q < W.heap.size := by
  obtain ⟨⟨c, h1, h2, _⟩, ⟨d, h4, h5⟩⟩ := h
  exact ⟨by rw [cells_of h1]; exact h2, by rw [cells_of h4]; exact h5, frozen_of h1, lt_of_heap h1, lt_of_heap h4⟩

theorem BegS.cell {pb q : Nat} {v0 v1 : Value} {W : World} (h : BegS pb q v0 v1 W) (o : Nat) (ho : o < 13) : ∃ v, W.cell? ⟨pb, o, none⟩ = some v := by
  obtain ⟨⟨c, h1, h2, h3⟩, _⟩ := h
  exact ⟨c[o]'(by omega), by rw [cells_of h1]; exact Array.getElem?_eq_getElem _⟩

theorem boardAt_hops (i k : Nat) (r : RunS) : ((boardAt i k r).pt i).hops = (r.pt i).hops := by
  unfold boardAt
  split
  · have e : ((r.setP i { r.pt i with people := (r.pt i).people + (r.wt k).count }).setW k { r.wt k with count := 0 }).pt i = (r.setP i { r.pt i with people := (r.pt i).people + (r.wt k).count }).pt i := rfl
    rw [e, pt_setP]
    split <;> rfl
  · rfl
theorem boardAll_hops (i : Nat) (r : RunS) : ((boardAll i r).pt i).hops = (r.pt i).hops := by
  have : ∀ n, ((eachI (boardAt i) n r).pt i).hops = (r.pt i).hops := by
    intro n
    induction n with
    | zero => rfl
    | succ n ih => exact (boardAt_hops i n _).trans ih
  exact this _

/-- A party is written, in several cells. -/
theorem RunJ.put {T : Town} {a1 a2 a3 a4 : Option Addr} {c1 c2 c3 c4 : Nat} {p : Plan} {p1 p2 : Option Addr} {d1 d2 B : Nat} {A : RA} {J : World → (Nat → Prop) → List Entry → Prop} {w w' : World} {r : RunS} {s : Int} {um : Option Nat} {P : Nat → Prop} (hN : NoteC B A.k A.lb J)
    (h : RunJ T a1 a2 a3 a4 c1 c2 c3 c4 p p1 p2 d1 d2 B A J w r s um P) {i : Nat} (hi : i < r.parties.length) (x : Party) {ha : Option Addr} {hc : Nat}
    (hx : w'.heap[A.pb i]? = some (.cells (partyCells x ha hc) 168 (0, 0))) (hsl : Sl HopE 2 B w ha x.hops) (ho : ∀ k, k ≠ A.pb i → w'.heap[k]? = w.heap[k]?)
    (hk : w'.os = w.os ∧ w'.tape = w.tape ∧ w'.output = w.output ∧ w'.heap.size = w.heap.size) :
    RunJ T a1 a2 a3 a4 c1 c2 c3 c4 p p1 p2 d1 d2 B A J w' (r.setP i x) s um P ∧ Fr A r.parties.length r.waits.length um P P w w' := by
  have hle := h.run.le
  have hlo := h.run.lo (A.pb i) (.inr (.inl ⟨i, hi, rfl⟩))
  obtain ⟨k1, k2, k3, hsz⟩ := hk
  have hB : Below B w w' := ⟨k1, k2, k3, by rw [hsz]; exact Nat.le_refl _, fun k hk => ho k (by omega)⟩
  exact ⟨⟨h.run.setP hi x ha hc hx hsl ho hB, hN.stable _ _ _ _ h.note (fun q hq => ho q (fun e => (h.sep q hq).1 (.inr (.inl ⟨i, hi, e⟩)))) hB.block (by rw [hsz]; exact Nat.le_refl _), fun q hq => by rw [setP_len]; exact h.sep q hq⟩,
    ⟨k1, k2, k3, by rw [hsz]; exact Nat.le_refl _, fun q _ hq _ _ => ho q (fun e => hq (.inr (.inl ⟨i, hi, e⟩))), fun _ hq => .inl hq⟩⟩

set_option maxHeartbeats 16000000 in
set_option maxRecDepth 100000 in
theorem begin_any (T : Town) (a1 a2 a3 a4 : Option Addr) (c1 c2 c3 c4 : Nat) (p : Plan) (p1 p2 : Option Addr) (d1 d2 : Nat) (B : Nat) (A : RA) (J : World → (Nat → Prop) → List Entry → Prop) (hN : NoteC B A.k A.lb J) (hG : TownG T) (w : World) (r : RunS) (s : Int) (m : Nat) (P : Nat → Prop)
    (h : RunJ T a1 a2 a3 a4 c1 c2 c3 c4 p p1 p2 d1 d2 B A J w r s (some m) P) (hR : RunG T r) (hmB : B ≤ m) (hs : 0 ≤ s ∧ s ≤ 200) (hlog : r.log.length + r.parties.length ≤ 1000000000) :
    Calls Try.prog 70 #[.pointer (some ⟨A.rb, 0, none⟩)] w
      fun e w' => (∃ u, e = .returned u) ∧ ∃ P', RunJ T a1 a2 a3 a4 c1 c2 c3 c4 p p1 p2 d1 d2 B A J w' (eachI (beginAt T s) r.parties.length r) s (some m) P' ∧ Fr A r.parties.length r.waits.length (some m) P P' w w' := by
  have hac := cells_of h.run.blk
  have hal := lt_of_heap h.run.blk
  simp only [runCells] at hac
  obtain ⟨va, vc, hvp⟩ := row_len h.run.rowp
  have hnp := hR.np
  have hTs := hG.steps
  obtain ⟨np, hnp'⟩ : ∃ n, r.parties.length = n := ⟨_, rfl⟩
  obtain ⟨nw, hnw'⟩ : ∃ n, r.waits.length = n := ⟨_, rfl⟩
  rw [hnp'] at hvp hnp
  rw [hvp] at hac
  have Hh := Lib.hid h; clear h; have Hhvp := Lib.hid hvp; clear hvp; have HhN := Lib.hid hN; clear hN; have Hhnp' := Lib.hid hnp'; clear hnp'; have Hhnw' := Lib.hid hnw'; clear hnw'; have HhR := Lib.hid hR; clear hR; have HhG := Lib.hid hG; clear hG; have Hhlog := Lib.hid hlog; clear hlog
  go_enter Try.func70, Try.ntmps70
  go_wp2_with fail
  go_loopw [12] (fun i wr => ∃ (k : Nat) (P' : Nat → Prop), k ≤ np ∧ i = .int .i64 k ∧ RunJ T a1 a2 a3 a4 c1 c2 c3 c4 p p1 p2 d1 d2 B A J wr (eachI (beginAt T s) k r) s (some m) P' ∧ Fr A r.parties.length r.waits.length (some m) P P' w wr) (fun i _ => np - (intOf i).toNat)
  case atStart => exact ⟨0, P, Nat.zero_le _, rfl, Hh.out, Fr.refl _ _ _ _ _ _⟩
  case round =>
    obtain ⟨k, P1, hk, rfl, hrj, hfr⟩ := hrel
    have hlgk : (eachI (beginAt T s) k r).log.length ≤ 1000000000 := by have := each1_log (begin_log T s) k r; have := Hhlog.out; have := Hhnp'.out; omega
    obtain ⟨rk, hrk⟩ : ∃ q, eachI (beginAt T s) k r = q := ⟨_, rfl⟩
    obtain ⟨hRk, hlen, hlen2'⟩ := Keep.each np (fun i hi => begin_keep HhG.out np nw s hs i hi) k hk r HhR.out Hhnp'.out Hhnw'.out
    rw [hrk] at hrj hRk hlen hlen2' hlgk
    have Hhlgk := Lib.hid hlgk; clear hlgk
    have hlen2 : rk.waits.length = r.waits.length := hlen2'.trans Hhnw'.out.symm
    have hwac := cells_of hrj.run.blk
    have hwal := lt_of_heap hrj.run.blk
    simp only [runCells] at hwac
    by_cases hlt : k < np
    · have hnx : eachI (beginAt T s) (k + 1) r = beginAt T s k rk := by rw [← hrk]; rfl
      have hki : k < rk.parties.length := by omega
      obtain ⟨ha, hc, hpb, hhs⟩ := hrj.run.pt k hki
      have hpg := hRk.pt hki
      obtain ⟨x, hx⟩ : ∃ x, rk.pt k = x := ⟨_, rfl⟩
      obtain ⟨g, cap, hvp2, _, hgl⟩ := hrj.run.rowp.form (by omega)
      have hvas : va = some ⟨g, 0, none⟩ := by have := Hhvp.out; rw [hvp2] at this; simp only [Value.slice.injEq] at this; exact this.1.symm
      have hg := (hrj.run.ptr hki hvp2).1
      have hbg : beginAt T s k rk = if (x.state != 1) || ((x.hops.length : Int) == 0) || x.broken || decide (s < (x.hops.getD 0 Hop.z).leave + x.late) then rk
          else if min T.steps (hopWay T x).till < beginEnd T s x then (rk.setP k { x with state := 4 }).tell s 3 k x.place
          else if takesIs T rk x (x.hops.getD 0 Hop.z).way then beginMove T s k ((boardAll k (takesUse rk x (x.hops.getD 0 Hop.z).way)).tell s 4 k (x.hops.getD 0 Hop.z).way) x else rk := by
        have e1 : decide (x.state ≠ 1) = (x.state != 1) := by by_cases e : x.state = 1 <;> simp [e]
        have e2 : decide (x.hops.length = 0) = ((x.hops.length : Int) == 0) := by by_cases e : x.hops.length = 0 <;> simp [e]
        unfold beginAt beginNo
        rw [hx, e1, e2]
      have hpb0 : wr.heap[A.pb k]? = some (.cells (partyCells (rk.pt k) ha hc) 168 (0, 0)) := hpb
      rw [hx] at hpb hhs hpg
      subst hvas
      rw [Hhvp.out] at hwac
      have hpc := cells_of hpb
      have hpf := frozen_of hpb
      simp only [partyCells] at hpc
      have hpl := lt_of_heap hpb
      have hnh := hpg.nh
      have hcls := hpg.cls
      have hlate := hpg.late
      obtain ⟨v1, hv1⟩ : ∃ v, (x.state != 1) = v := ⟨_, rfl⟩
      obtain ⟨v2, hv2⟩ : ∃ v, ((x.hops.length : Int) == 0) = v := ⟨_, rfl⟩
      obtain ⟨v3, hv3⟩ : ∃ v, x.broken = v := ⟨_, rfl⟩
      obtain ⟨v4, hv4⟩ : ∃ v, decide (s < (x.hops.getD 0 Hop.z).leave + x.late) = v := ⟨_, rfl⟩
      have hno4 : (v1 || v2 || v3 || v4) = true → beginAt T s k rk = rk := fun e => by rw [hbg, if_pos (by rw [hv1, hv2, hv3, hv4]; exact e)]
      have hyes4 : (v1 || v2 || v3 || v4) = false → beginAt T s k rk = if min T.steps (hopWay T x).till < beginEnd T s x then (rk.setP k { x with state := 4 }).tell s 3 k x.place
          else if takesIs T rk x (x.hops.getD 0 Hop.z).way then beginMove T s k ((boardAll k (takesUse rk x (x.hops.getD 0 Hop.z).way)).tell s 4 k (x.hops.getD 0 Hop.z).way) x else rk := fun e => by rw [hbg, if_neg (by rw [hv1, hv2, hv3, hv4, e]; simp)]
      rw [hv3] at hpc
      have hle := hrj.run.le
      clear hvp2 hlen2'
      have Hhrk := Lib.hid hrk; clear hrk; have Hhnx := Lib.hid hnx; clear hnx; have Hhrj := Lib.hid hrj; clear hrj; have Hhfr := Lib.hid hfr; clear hfr; have Hhpb := Lib.hid hpb; clear hpb; have Hhhs := Lib.hid hhs; clear hhs; have Hhx := Lib.hid hx; clear hx; have Hhlen := Lib.hid hlen; clear hlen; have Hhlen2 := Lib.hid hlen2; clear hlen2; have Hhpb0 := Lib.hid hpb0; clear hpb0; have HhRk := Lib.hid hRk; clear hRk; have Hhpg := Lib.hid hpg; clear hpg; have Hhv3 := Lib.hid hv3; clear hv3
      clear hbg
      have Hhyes4 := Lib.hid hyes4; clear hyes4; have Hhno4 := Lib.hid hno4; clear hno4
      cases v1
      rotate_left
      · have hno := Hhno4.out rfl
        have Hhno := Lib.hid hno; clear hno
        go_upto_region 3 with fail
        go_quiet (fail)
        go_wp2_with fail
        go_roundw
        case rel => exact ⟨k + 1, P1, by omega, by go_num, by rw [Hhnx.out, Hhno.out]; exact Hhrj.out.below HhN.out (bl_drewN (Below.refl _ _) _), Hhfr.out.trans (Fr.of_below (bl_drewN (Below.refl _ _) _))⟩
        case measure => simp [intOf]; omega
      cases v2
      rotate_left
      · have hno := Hhno4.out rfl
        have Hhno := Lib.hid hno; clear hno
        go_upto_region 3 with fail
        go_quiet (fail)
        go_wp2_with fail
        go_roundw
        case rel => exact ⟨k + 1, P1, by omega, by go_num, by rw [Hhnx.out, Hhno.out]; exact Hhrj.out.below HhN.out (bl_drewN (Below.refl _ _) _), Hhfr.out.trans (Fr.of_below (bl_drewN (Below.refl _ _) _))⟩
        case measure => simp [intOf]; omega
      have hhl : 0 < (x.hops.length : Int) := by have : ¬ (x.hops.length : Int) = 0 := by simpa using hv2
                                                 omega
      obtain ⟨hb', hoff, hha, hhb, hhe⟩ := Hhhs.out.at (i := 0) (by omega) hhl Hop.z
      have hhop : (x.hops.getD 0 Hop.z) ∈ x.hops := getD_mem (i := 0) (by omega) hhl
      obtain ⟨hp0, hp1⟩ := HopE_zero hhe
      have hun := (Hhpg.out.hops _ hhop)
      have hhe0 : (0 : Int).toNat = 0 := rfl
      rw [hhe0] at hp0 hp1
      clear hhe hhe0 hhop
      have hble : hb' < wr.heap.size := by omega
      obtain ⟨h0, hh0⟩ : ∃ q, x.hops.getD 0 Hop.z = q := ⟨_, rfl⟩
      rw [hh0] at hp0 hp1 hv4 hun
      have hu := unknown_not.1 hun.1
      have hlv := outside_not.1 hun.2
      clear hun
      obtain ⟨nh, hnhq⟩ : ∃ n, x.hops.length = n := ⟨_, rfl⟩
      rw [hnhq] at hpc hhl hnh hv2
      have Hhh0 := Lib.hid hh0; clear hh0; have Hhnhq := Lib.hid hnhq; clear hnhq
      subst hha
      cases v3
      rotate_left
      · have hno := Hhno4.out rfl
        have Hhno := Lib.hid hno; clear hno
        go_upto_region 3 with fail
        go_quiet (fail)
        go_wp2_with fail
        go_roundw
        case rel => exact ⟨k + 1, P1, by omega, by go_num, by rw [Hhnx.out, Hhno.out]; exact Hhrj.out.below HhN.out (bl_drewN (Below.refl _ _) _), Hhfr.out.trans (Fr.of_below (bl_drewN (Below.refl _ _) _))⟩
        case measure => simp [intOf]; omega
      cases v4
      rotate_left
      · have hno := Hhno4.out rfl
        have Hhno := Lib.hid hno; clear hno
        go_upto_region 3 with fail
        go_quiet (fail)
        go_wp2_with fail
        go_roundw
        case rel => exact ⟨k + 1, P1, by omega, by go_num, by rw [Hhnx.out, Hhno.out]; exact Hhrj.out.below HhN.out (bl_drewN (Below.refl _ _) _), Hhfr.out.trans (Fr.of_below (bl_drewN (Below.refl _ _) _))⟩
        case measure => simp [intOf]; omega
      obtain ⟨b2, off2, ha2, hb2, he2⟩ := Hhrj.out.run.town.ways.at hu.1 hu.2 Way.z
      have hbw2 : b2 < wr.heap.size := by omega
      have hl2 := Hhrj.out.run.town.ways.1
      have hst := Way.steps_mem HhG.out (getD_mem (z := Way.z) hu.1 hu.2) x.cls
      have hwG := HhG.out.way _ (getD_mem (z := Way.z) hu.1 hu.2)
      obtain ⟨wy, hwy⟩ : ∃ q, T.ways.getD h0.way.toNat Way.z = q := ⟨_, rfl⟩
      rw [hwy] at he2 hst hwG
      obtain ⟨e0, e1, e2, e3, e4, e5, e6, e7⟩ := he2
      have hwy' : hopWay T x = wy := by unfold hopWay; rw [Hhh0.out]; exact hwy
      subst ha2
      have hbg := Hhyes4.out rfl
      rw [hwy', Hhh0.out] at hbg
      obtain ⟨en, hen⟩ : ∃ q, beginEnd T s x = q := ⟨_, rfl⟩
      have hen' : en = s + wy.steps x.cls := by rw [← hen]; unfold beginEnd; rw [hwy']
      rw [hen] at hbg
      clear Hhno4 Hhyes4
      have Hhbg := Lib.hid hbg; clear hbg; have Hhen := Lib.hid hen; clear hen; have Hhen' := Lib.hid hen'; clear hen'
      have Hhwy := Lib.hid hwy; clear hwy; have Hhwy' := Lib.hid hwy'; clear hwy'; have HhwG := Lib.hid hwG; clear hwG
      go_upto_region 3 with fail
      go_quiet (fail)
      go_upto_region 5 with fail
      obtain ⟨wa, hwa⟩ : ∃ W, wr.drewN nq = W := ⟨_, rfl⟩
      have hba : Below wr.heap.size wr wa := by rw [← hwa]; exact bl_drewN (Below.refl _ _) nq
      rw [hwa]
      clear hwa
      obtain ⟨_, _, _⟩ := bk (A.pb k) hba (by (first | omega | (simp; done) | (simp; omega))); obtain ⟨_, _, _⟩ := bk (A.rb) hba (by (first | omega | (simp; done) | (simp; omega))); obtain ⟨_, _, _⟩ := bk (g) hba (by (first | omega | (simp; done) | (simp; omega))); obtain ⟨_, _, _⟩ := bk (b2) hba (by (first | omega | (simp; done) | (simp; omega))); obtain ⟨_, _, _⟩ := bk (hb') hba (by (first | omega | (simp; done) | (simp; omega))); have hzhba := bsz hba; (try simp only [World.size_alloc] at hzhba)
      have Hhba := Lib.hid hba; clear hba
      go_upto_region 6 with fail
      clear hwac hac e0 e1 e2 e3 e4 e5 e6 e7 hp0 hp1 hpc hpf hg
      obtain ⟨q, hq⟩ : ∃ q, wa.heap.size = q := ⟨_, rfl⟩
      obtain ⟨wb, hwb⟩ : ∃ W, wa.alloc (.cells (wayBox wy) 77) = W := ⟨_, rfl⟩
      have hbx : wb.heap[q]? = some (.cells (wayBox wy) 77 (0, 0)) := by rw [← hwb, ← hq]; exact heap_alloc_at _ _
      have hbb : Below wr.heap.size wr wb := by rw [← hwb]; exact bl_alloc Hhba.out _
      have hqg : wr.heap.size ≤ q := by rw [← hq]; exact Hhba.out.size
      unfold wayBox at hwb
      rw [hwb, hq]
      clear hwb hq Hhba
      have hrb := Hhrj.out.below HhN.out hbb
      have hpbb := heap_below hbb Hhpb.out
      have hpb0b := heap_below hbb Hhpb0.out
      have hhsb := Hhhs.out.below (ek_hop B) (hbb.mono hle)
      have hwac := cells_of hrb.run.blk
      have hwal := lt_of_heap hrb.run.blk
      simp only [runCells] at hwac
      have hpc := cells_of hpbb
      simp only [partyCells] at hpc
      have hpl := lt_of_heap hpbb
      rw [Hhnhq.out] at hpc
      have hbxl := lt_of_heap hbx
      obtain ⟨y0, y1, y5, y6, y7, yc⟩ := wayBox_cells hbx x.cls hcls.1 (by omega)
      have hnow : ¬ A.own rk.parties.length rk.waits.length q := fun e => by have := Hhrj.out.run.lt e; omega
      have hnom : some m ≠ some q := fun e => by have := MapE.lt Hhrj.out.run.used; simp only [Option.some.injEq] at e; omega
      have hnoP : ¬ P1 q := fun e => by have := HhN.out.lt _ _ _ _ Hhrj.out.note e; omega
      have Hhbx := Lib.hid hbx; clear hbx; have Hhrb := Lib.hid hrb; clear hrb; have Hhpbb := Lib.hid hpbb; clear hpbb; have Hhpb0b := Lib.hid hpb0b; clear hpb0b; have Hhhsb := Lib.hid hhsb; clear hhsb; have Hhbb := Lib.hid hbb; clear hbb; have Hhnow := Lib.hid hnow; clear hnow; have Hhnom := Lib.hid hnom; clear hnom; have HhnoP := Lib.hid hnoP; clear hnoP
      go_quiet (fail)
      go_upto_region 7 with fail
      have hI7 : Below wb.heap.size wb (wb.drewN nq).drew := bl_drew (bl_drewN (Below.refl _ _) _)
      refine wp_region_ord (fun W => Below wb.heap.size wb W) [] [0, 1, 2, 3, 4, 5, 6, 7, 8, 9, 10] none (by kernel_rfl) (by kernel_rfl) hI7 ?_
      refine OrdI_fin ?_
      (apply StI_plain (w0 := (wb.drewN nq).drew) hI7 rfl rfl rfl rfl; (focus (intro W hW K hK; obtain ⟨_, _, _⟩ := bk A.rb hW hwal; obtain ⟨_, _, _⟩ := bk q hW hbxl; go_step; exact hK)); (focus rfl)); (apply StI_plain (w0 := (wb.drewN nq).drew) hI7 rfl rfl rfl rfl; (focus (intro W hW K hK; obtain ⟨_, _, _⟩ := bk A.rb hW hwal; obtain ⟨_, _, _⟩ := bk q hW hbxl; go_step; exact hK)); (focus rfl)); (apply StI_plain (w0 := (wb.drewN nq).drew) hI7 rfl rfl rfl rfl; (focus (intro W hW K hK; obtain ⟨_, _, _⟩ := bk A.rb hW hwal; obtain ⟨_, _, _⟩ := bk q hW hbxl; go_step; exact hK)); (focus rfl)); (apply StI_plain (w0 := (wb.drewN nq).drew) hI7 rfl rfl rfl rfl; (focus (intro W hW K hK; obtain ⟨_, _, _⟩ := bk A.rb hW hwal; obtain ⟨_, _, _⟩ := bk q hW hbxl; go_step; exact hK)); (focus rfl)); (apply StI_plain (w0 := (wb.drewN nq).drew) hI7 rfl rfl rfl rfl; (focus (intro W hW K hK; obtain ⟨_, _, _⟩ := bk A.rb hW hwal; obtain ⟨_, _, _⟩ := bk q hW hbxl; go_step; exact hK)); (focus rfl)); (apply StI_plain (w0 := (wb.drewN nq).drew) hI7 rfl rfl rfl rfl; (focus (intro W hW K hK; obtain ⟨_, _, _⟩ := bk A.rb hW hwal; obtain ⟨_, _, _⟩ := bk q hW hbxl; go_step; exact hK)); (focus rfl)); (apply StI_plain (w0 := (wb.drewN nq).drew) hI7 rfl rfl rfl rfl; (focus (intro W hW K hK; obtain ⟨_, _, _⟩ := bk A.rb hW hwal; obtain ⟨_, _, _⟩ := bk q hW hbxl; go_step; exact hK)); (focus rfl)); (apply StI_plain (w0 := (wb.drewN nq).drew) hI7 rfl rfl rfl rfl; (focus (intro W hW K hK; obtain ⟨_, _, _⟩ := bk A.rb hW hwal; obtain ⟨_, _, _⟩ := bk q hW hbxl; go_step; exact hK)); (focus rfl)); (apply StI_plain (w0 := (wb.drewN nq).drew) hI7 rfl rfl rfl rfl; (focus (intro W hW K hK; obtain ⟨_, _, _⟩ := bk A.rb hW hwal; obtain ⟨_, _, _⟩ := bk q hW hbxl; go_step; exact hK)); (focus rfl)); (apply StI_plain (w0 := (wb.drewN nq).drew) hI7 rfl rfl rfl rfl; (focus (intro W hW K hK; obtain ⟨_, _, _⟩ := bk A.rb hW hwal; obtain ⟨_, _, _⟩ := bk q hW hbxl; go_step; exact hK)); (focus rfl)); (apply StI_plain (w0 := (wb.drewN nq).drew) hI7 rfl rfl rfl rfl; (focus (intro W hW K hK; obtain ⟨_, _, _⟩ := bk A.rb hW hwal; obtain ⟨_, _, _⟩ := bk q hW hbxl; go_step; exact hK)); (focus rfl))
      refine StI_nil ?_
      have hmin : (if wy.till < T.steps then wy.till else T.steps) = min T.steps wy.till := by split <;> omega
      rw [hmin]
      obtain ⟨mn, hmn⟩ : ∃ v, min T.steps wy.till = v := ⟨_, rfl⟩
      rw [hmn]
      obtain ⟨cb, hcb⟩ : ∃ v, decide (mn < s + wy.steps x.cls) = v := ⟨_, rfl⟩
      rw [hcb]
      rw [← hmn, ← Hhen'.out] at hcb
      rw [← Hhen'.out]
      clear hmn
      have hen1 : 0 ≤ en ∧ en ≤ 400 := by have := Hhen'.out; omega
      obtain ⟨wc, hwc⟩ : ∃ W, (wb.drewN nq).drew = W := ⟨_, rfl⟩
      have hbc : Below wb.heap.size wb wc := by rw [← hwc]; exact hI7
      rw [hwc]
      clear hwc hI7 hwac hpc y0 y1 y5 y6 y7 yc hmin hst
      have hrc := Hhrb.out.below HhN.out hbc
      have hpbc := heap_below hbc Hhpbb.out
      have hpb0c := heap_below hbc Hhpb0b.out
      have hhsc := Hhhsb.out.below (ek_hop B) (hbc.mono Hhrb.out.run.le)
      have hbxc := heap_below hbc Hhbx.out
      have hfrc := (Hhfr.out.trans (Fr.of_below Hhbb.out)).trans (Fr.of_below hbc)
      have hpc := cells_of hpbc
      have hpf := frozen_of hpbc
      simp only [partyCells] at hpc
      have hpl := lt_of_heap hpbc
      rw [Hhnhq.out] at hpc
      clear Hhpb Hhpb0 Hhhs Hhrj Hhfr Hhrb Hhpbb Hhpb0b Hhhsb Hhbx Hhbb
      cases cb
      rotate_left
      · have hlt2 : min T.steps wy.till < en := of_decide_eq_true hcb
        have hyes : beginAt T s k rk = (rk.setP k { x with state := 4 }).tell s 3 k x.place := by rw [Hhbg.out, if_pos hlt2]
        obtain ⟨hrs, hfs⟩ := hrc.set HhN.out hki { x with state := 4 } (ha := some ⟨hb', hoff, none⟩) (hc := hc) 11 (.int .i64 4) hpb0c (by rw [Hhx.out]; rfl) hhsc
        have hki2 : k < (rk.setP k { x with state := 4 }).parties.length := by rw [setP_len]; omega
        have hnp2 : (rk.setP k { x with state := 4 }).parties.length ≤ 4352 := by rw [setP_len, Hhlen.out]; exact hnp
        clear hlt2 hcb
        have Hhyes := Lib.hid hyes; clear hyes; have Hhrs := Lib.hid hrs; clear hrs; have Hhfs := Lib.hid hfs; clear hfs; have Hhki2 := Lib.hid hki2; clear hki2; have Hhnp2 := Lib.hid hnp2; clear hnp2; have Hhrc := Lib.hid hrc; clear hrc; have Hhpbc := Lib.hid hpbc; clear hpbc; have Hhpb0c := Lib.hid hpb0c; clear hpb0c; have Hhhsc := Lib.hid hhsc; clear hhsc; have Hhbxc := Lib.hid hbxc; clear hbxc; have Hhfrc := Lib.hid hfrc; clear hfrc
        go_wp2_with (go_at_call 102; refine (tell_any T _ _ _ _ _ _ _ _ p _ _ _ _ B A J HhN.out _ _ s (some m) P1 3 x.place k Hhrs.out Hhki2.out Hhnp2.out Hhlgk.out).mono ?_; rintro e w5 ⟨⟨u, rfl⟩, P2, hrj2, hfr2⟩; have hfr3 := Hhfrc.out.trans (by have := Hhfs.out.trans (by have := hfr2; rw [setP_len] at this; exact this); rw [Hhlen.out, ← Hhnp'.out, Hhlen2.out] at this; exact this); have Hhrj2 := Lib.hid hrj2; clear hrj2; have Hhfr2 := Lib.hid hfr2; clear hfr2; have Hhfr3 := Lib.hid hfr3; clear hfr3)
        go_roundw
        case rel => exact ⟨k + 1, P2, by omega, by go_num, by rw [Hhnx.out, Hhyes.out]; exact Hhrj2.out, Hhfr3.out⟩
        case measure => simp [intOf]; omega
      have hge : ¬ min T.steps wy.till < en := of_decide_eq_false hcb
      have hbg2 := Hhbg.out
      rw [if_neg hge] at hbg2
      obtain ⟨tb, htb⟩ : ∃ v, takesIs T rk x h0.way = v := ⟨_, rfl⟩
      have HT := takes_any T _ _ _ _ _ _ _ _ p _ _ _ _ B A J HhN.out HhG.out wc rk s m P1 k h0.way hrc HhRk.out hki hmB hu.1 hu.2
      rw [Hhx.out, htb] at HT
      clear hge hcb Hhbg
      cases tb
      · have hno : beginAt T s k rk = rk := by rw [hbg2, htb]; rfl
        have hres : takesRes T rk x h0.way = rk := by unfold takesRes; rw [htb]; rfl
        rw [hres, Hhlen.out, ← Hhnp'.out, Hhlen2.out] at HT
        clear hbg2 hres htb
        have HHT := Lib.hid HT; clear HT; have Hhno := Lib.hid hno; clear hno; have Hhrc := Lib.hid hrc; clear hrc; have Hhpbc := Lib.hid hpbc; clear hpbc; have Hhpb0c := Lib.hid hpb0c; clear hpb0c; have Hhhsc := Lib.hid hhsc; clear hhsc; have Hhbxc := Lib.hid hbxc; clear hbxc; have Hhfrc := Lib.hid hfrc; clear hfrc
        go_wp2_with (go_at_call 106; refine HHT.out.mono ?_; rintro e w5 ⟨rfl, hrj5, hfr5⟩; have Hhrj5 := Lib.hid hrj5; clear hrj5; have Hhfr5 := Lib.hid hfr5; clear hfr5)
        go_roundw
        case rel => exact ⟨k + 1, P1, by omega, by go_num, by rw [Hhnx.out, Hhno.out]; exact Hhrj5.out, Hhfrc.out.trans Hhfr5.out⟩
        case measure => simp [intOf]; omega
      have hyes : beginAt T s k rk = beginMove T s k ((boardAll k (takesUse rk x h0.way)).tell s 4 k h0.way) x := by rw [hbg2, htb]; rfl
      have hres : takesRes T rk x h0.way = takesUse rk x h0.way := by unfold takesRes; rw [htb]; rfl
      rw [hres] at HT
      have hRu := takesUse_good HhG.out HhRk.out x Hhpg.out.people h0.way hu.1 hu.2 htb
      obtain ⟨ru, hru⟩ : ∃ q, takesUse rk x h0.way = q := ⟨_, rfl⟩
      have hul : ru.parties.length = np := by rw [← hru]; exact Hhlen.out
      have huw : ru.waits.length = nw := by rw [← hru]; exact Hhlen2.out.trans Hhnw'.out
      have huh : (ru.pt k).hops = x.hops := by rw [← hru, ← Hhx.out]; rfl
      rw [hru] at HT hRu hyes
      obtain ⟨hRb, hbl, hbw⟩ := Keep.each nw (fun j hj => board_keep T np nw k (by omega) j hj) nw (Nat.le_refl _) ru hRu hul huw
      have hball : boardAll k ru = eachI (boardAt k) nw ru := by unfold boardAll; rw [huw]
      rw [← hball] at hRb hbl hbw
      have hbh : ((boardAll k ru).pt k).hops = x.hops := (boardAll_hops k ru).trans huh
      have hlgb : (boardAll k ru).log.length ≤ 1000000000 := by rw [boardAll_log, ← hru]; exact Hhlgk.out
      obtain ⟨rb, hrb⟩ : ∃ q, boardAll k ru = q := ⟨_, rfl⟩
      rw [hrb] at hRb hbl hbw hbh hyes hlgb
      have Hhlgb := Lib.hid hlgb; clear hlgb
      have hkb : k < rb.parties.length := by omega
      have hbnp : rb.parties.length ≤ 4352 := by omega
      have hku : k < ru.parties.length := by omega
      clear hball htb hres hbg2
      have HHT := Lib.hid HT; clear HT; have Hhyes := Lib.hid hyes; clear hyes; have Hhrc := Lib.hid hrc; clear hrc; have Hhpbc := Lib.hid hpbc; clear hpbc; have Hhpb0c := Lib.hid hpb0c; clear hpb0c; have Hhhsc := Lib.hid hhsc; clear hhsc; have Hhbxc := Lib.hid hbxc; clear hbxc; have Hhfrc := Lib.hid hfrc; clear hfrc; have HhRu := Lib.hid hRu; clear hRu; have Hhru := Lib.hid hru; clear hru; have Hhul := Lib.hid hul; clear hul; have Hhuw := Lib.hid huw; clear huw; have Hhuh := Lib.hid huh; clear huh; have HhRb := Lib.hid hRb; clear hRb; have Hhbl := Lib.hid hbl; clear hbl; have Hhbw := Lib.hid hbw; clear hbw; have Hhbh := Lib.hid hbh; clear hbh; have Hhrb := Lib.hid hrb; clear hrb; have Hhkb := Lib.hid hkb; clear hkb; have Hhbnp := Lib.hid hbnp; clear hbnp; have Hhku := Lib.hid hku; clear hku
      go_upto_region 13 with (first | (go_at_call 106; refine HHT.out.mono ?_; rintro e w5 ⟨rfl, hrj5, hfr5⟩; have Hhrj5 := Lib.hid hrj5; clear hrj5; have Hhfr5 := Lib.hid hfr5; clear hfr5) |
        (go_at_call 107; refine (board_any T _ _ _ _ _ _ _ _ p _ _ _ _ B A J HhN.out _ ru s (some m) P1 k Hhrj5.out HhRu.out Hhku.out).mono ?_; rintro e w6 ⟨⟨u, rfl⟩, hrj6, hfr6⟩; rw [Hhrb.out] at hrj6; have Hhrj6 := Lib.hid hrj6; clear hrj6; have Hhfr6 := Lib.hid hfr6; clear hfr6) |
        (go_at_call 102; refine (tell_any T _ _ _ _ _ _ _ _ p _ _ _ _ B A J HhN.out _ rb s (some m) P1 4 h0.way k Hhrj6.out Hhkb.out Hhbnp.out Hhlgb.out).mono ?_; rintro e w7 ⟨⟨u, rfl⟩, P2, hrj7, hfr7⟩; have Hhrj7 := Lib.hid hrj7; clear hrj7; have Hhfr7 := Lib.hid hfr7; clear hfr7))
      have hnow' : ¬ A.own r.parties.length r.waits.length q := by have := Hhnow.out; rw [Hhlen.out, ← Hhnp'.out, Hhlen2.out] at this; exact this
      have hfr5 : Fr A r.parties.length r.waits.length (some m) P1 P1 wc w5 := by have := Hhfr5.out; rw [Hhlen.out, ← Hhnp'.out, Hhlen2.out] at this; exact this
      have hfr6 : Fr A r.parties.length r.waits.length (some m) P1 P1 w5 w6 := by have := Hhfr6.out; rw [Hhul.out, ← Hhnp'.out, Hhuw.out, ← Hhnw'.out] at this; exact this
      have hfr7 : Fr A r.parties.length r.waits.length (some m) P1 P2 w6 w7 := by have := Hhfr7.out; rw [Hhbl.out, ← Hhnp'.out, Hhbw.out, ← Hhnw'.out] at this; exact this
      have hbx7 := hfr7.keep (hfr6.keep (hfr5.keep Hhbxc.out hnow' Hhnom.out HhnoP.out) hnow' Hhnom.out HhnoP.out) hnow' Hhnom.out HhnoP.out
      have hfra := ((Hhfrc.out.trans hfr5).trans hfr6).trans hfr7
      have hk7 : k < (rb.tell s 4 k h0.way).parties.length := Hhkb.out
      obtain ⟨ha8, hc8, hpb8, hhs8⟩ := Hhrj7.out.run.pt k hk7
      have hpt8 : (rb.tell s 4 k h0.way).pt k = rb.pt k := rfl
      rw [hpt8] at hpb8 hhs8
      obtain ⟨y, hy⟩ : ∃ y, rb.pt k = y := ⟨_, rfl⟩
      have hyh : y.hops = x.hops := by rw [← hy]; exact Hhbh.out
      rw [hy] at hpb8 hhs8
      have hyl : y.hops.length = nh := by rw [hyh]; exact Hhnhq.out
      obtain ⟨b8, off8, rfl, hb8, _⟩ := hhs8.at (i := 0) (by omega) (by rw [hyl]; exact hhl) Hop.z
      have hS : BegS (A.pb k) q (.slice (some ⟨b8, off8, none⟩) nh (nh + hc8)) (.int .i64 wy.dst) w7.drew := ⟨⟨_, heap_drew' hpb8, by simp [partyCells, hyl], rfl⟩, ⟨_, heap_drew' hbx7, rfl⟩⟩
      have hp7 := hS.facts
      clear hpc hpf hpl hbxl hwal hnow' hfr5 hfr6 hfr7 Hhfr5 Hhfr6 Hhfr7 Hhrj5 Hhrj6 Hhbxc Hhfrc Hhrc Hhpbc Hhpb0c Hhhsc HHT
      obtain ⟨z0, hz0⟩ : ∃ W, w7.drew = W := ⟨_, rfl⟩
      rw [hz0] at hS hp7
      have Hhpb8 := Lib.hid hpb8; clear hpb8; have Hhhs8 := Lib.hid hhs8; clear hhs8; have Hhy := Lib.hid hy; clear hy; have Hhyh := Lib.hid hyh; clear hyh; have Hhyl := Lib.hid hyl; clear hyl; have Hhbx7 := Lib.hid hbx7; clear hbx7; have Hhfra := Lib.hid hfra; clear hfra; have Hhpt8 := Lib.hid hpt8; clear hpt8
      have hI13 : BegS (A.pb k) q (.slice (some ⟨b8, off8, none⟩) nh (nh + hc8)) (.int .i64 wy.dst) w7.drew := by rw [hz0]; exact hS
      refine wp_region_ord (BegS (A.pb k) q (.slice (some ⟨b8, off8, none⟩) nh (nh + hc8)) (.int .i64 wy.dst)) [([0, 1, 2, 3, 4, 5, 6, 7, 8, 9, 10, 11, 12, 13, 14, 15], 16), ([17, 18], 19), ([20, 21, 22], 23), ([24, 25, 26], 27)] [28, 29, 30] (some 31) (by kernel_rfl) (by kernel_rfl) hI13 ?_
      rw [hz0]
      refine OrdI_cons ?_
      have hnh1 : (1 : Int) ≤ (nh : Int) := by omega
      (apply StI_plain (w0 := z0) hS rfl rfl rfl rfl; (focus (intro W hW K hK; obtain ⟨_, _, _, _, _⟩ := hW.facts; go_step; exact hK)); (focus rfl)); (apply StI_plain (w0 := z0) hS rfl rfl rfl rfl; (focus (intro W hW K hK; obtain ⟨_, _, _, _, _⟩ := hW.facts; go_step; exact hK)); (focus rfl)); (apply StI_plain (w0 := z0) hS rfl rfl rfl rfl; (focus (intro W hW K hK; obtain ⟨_, _, _, _, _⟩ := hW.facts; go_step; exact hK)); (focus rfl)); (apply StI_plain (w0 := z0) hS rfl rfl rfl rfl; (focus (intro W hW K hK; obtain ⟨_, _, _, _, _⟩ := hW.facts; go_step; exact hK)); (focus rfl)); (apply StI_plain (w0 := z0) hS rfl rfl rfl rfl; (focus (intro W hW K hK; obtain ⟨_, _, _, _, _⟩ := hW.facts; go_step; exact hK)); (focus rfl)); (apply StI_plain (w0 := z0) hS rfl rfl rfl rfl; (focus (intro W hW K hK; obtain ⟨_, _, _, _, _⟩ := hW.facts; go_step; exact hK)); (focus rfl)); (apply StI_plain (w0 := z0) hS rfl rfl rfl rfl; (focus (intro W hW K hK; obtain ⟨_, _, _, _, _⟩ := hW.facts; go_step; exact hK)); (focus rfl)); (apply StI_plain (w0 := z0) hS rfl rfl rfl rfl; (focus (intro W hW K hK; obtain ⟨_, _, _, _, _⟩ := hW.facts; go_step; exact hK)); (focus rfl)); (apply StI_plain (w0 := z0) hS rfl rfl rfl rfl; (focus (intro W hW K hK; obtain ⟨_, _, _, _, _⟩ := hW.facts; go_step; exact hK)); (focus rfl)); (apply StI_plain (w0 := z0) hS rfl rfl rfl rfl; (focus (intro W hW K hK; obtain ⟨_, _, _, _, _⟩ := hW.facts; go_step; exact hK)); (focus rfl)); (apply StI_plain (w0 := z0) hS rfl rfl rfl rfl; (focus (intro W hW K hK; obtain ⟨_, _, _, _, _⟩ := hW.facts; go_step; exact hK)); (focus rfl)); (apply StI_plain (w0 := z0) hS rfl rfl rfl rfl; (focus (intro W hW K hK; obtain ⟨_, _, _, _, _⟩ := hW.facts; go_step; exact hK)); (focus rfl)); (apply StI_plain (w0 := z0) hS rfl rfl rfl rfl; (focus (intro W hW K hK; obtain ⟨_, _, _, _, _⟩ := hW.facts; go_step; exact hK)); (focus rfl)); (apply StI_plain (w0 := z0) hS rfl rfl rfl rfl; (focus (intro W hW K hK; obtain ⟨_, _, _, _, _⟩ := hW.facts; go_step; exact hK)); (focus rfl)); (apply StI_plain (w0 := z0) hS rfl rfl rfl rfl; (focus (intro W hW K hK; obtain ⟨_, _, _, _, _⟩ := hW.facts; go_step; exact hK)); (focus rfl)); (apply StI_plain (w0 := z0) hS rfl rfl rfl rfl; (focus (intro W hW K hK; obtain ⟨_, _, _, _, _⟩ := hW.facts; go_step; exact hK)); (focus rfl))
      obtain ⟨a9, ha9⟩ : ∃ a, (if nh + hc8 = 1 then some (⟨b8, off8, none⟩ : Addr) else some ⟨b8, off8 + 2, none⟩) = a := ⟨_, rfl⟩
      try rw [ha9]
      obtain ⟨f1, f2, f3, f4, f5⟩ := hp7
      obtain ⟨_, f6⟩ := hS.cell 11 (by omega)
      (apply StI_eff rfl; go_wp2_with fail)
      have hS1 := hS.set 11 (.int .i64 2) (by omega)
      refine onNormal_mk hS1 (OrdI_cons ?_)
      obtain ⟨z1, hz1⟩ : ∃ W, z0.setCell ⟨A.pb k, 11, none⟩ (.int .i64 2) = W := ⟨_, rfl⟩
      rw [hz1] at hS1 ⊢
      clear f1 f2 f3 f4 f5 f6
      have hp1 := hS1.facts
      (apply StI_plain (w0 := z1) hS1 rfl rfl rfl rfl; (focus (intro W hW K hK; obtain ⟨_, _, _, _, _⟩ := hW.facts; go_step; exact hK)); (focus rfl)); (apply StI_plain (w0 := z1) hS1 rfl rfl rfl rfl; (focus (intro W hW K hK; obtain ⟨_, _, _, _, _⟩ := hW.facts; go_step; exact hK)); (focus rfl))
      obtain ⟨f1, f2, f3, f4, f5⟩ := hp1
      obtain ⟨_, f6⟩ := hS1.cell 10 (by omega)
      (apply StI_eff rfl; go_wp2_with fail)
      have hS2 := hS1.set 10 (.bool true) (by omega)
      refine onNormal_mk hS2 (OrdI_cons ?_)
      obtain ⟨z2, hz2⟩ : ∃ W, z1.setCell ⟨A.pb k, 10, none⟩ (.bool true) = W := ⟨_, rfl⟩
      rw [hz2] at hS2 ⊢
      clear f1 f2 f3 f4 f5 f6
      have hp2 := hS2.facts
      (apply StI_plain (w0 := z2) hS2 rfl rfl rfl rfl; (focus (intro W hW K hK; obtain ⟨_, _, _, _, _⟩ := hW.facts; go_step; exact hK)); (focus rfl)); (apply StI_plain (w0 := z2) hS2 rfl rfl rfl rfl; (focus (intro W hW K hK; obtain ⟨_, _, _, _, _⟩ := hW.facts; go_step; exact hK)); (focus rfl)); (apply StI_plain (w0 := z2) hS2 rfl rfl rfl rfl; (focus (intro W hW K hK; obtain ⟨_, _, _, _, _⟩ := hW.facts; go_step; exact hK)); (focus rfl))
      obtain ⟨f1, f2, f3, f4, f5⟩ := hp2
      obtain ⟨_, f6⟩ := hS2.cell 3 (by omega)
      (apply StI_eff rfl; go_wp2_with fail)
      have hS3 := hS2.set 3 (.int .i64 wy.dst) (by omega)
      refine onNormal_mk hS3 (OrdI_cons ?_)
      obtain ⟨z3, hz3⟩ : ∃ W, z2.setCell ⟨A.pb k, 3, none⟩ (.int .i64 wy.dst) = W := ⟨_, rfl⟩
      rw [hz3] at hS3 ⊢
      clear f1 f2 f3 f4 f5 f6
      have hp3 := hS3.facts
      (apply StI_plain (w0 := z3) hS3 rfl rfl rfl rfl; (focus (intro W hW K hK; obtain ⟨_, _, _, _, _⟩ := hW.facts; go_step; exact hK)); (focus rfl)); (apply StI_plain (w0 := z3) hS3 rfl rfl rfl rfl; (focus (intro W hW K hK; obtain ⟨_, _, _, _, _⟩ := hW.facts; go_step; exact hK)); (focus rfl)); (apply StI_plain (w0 := z3) hS3 rfl rfl rfl rfl; (focus (intro W hW K hK; obtain ⟨_, _, _, _, _⟩ := hW.facts; go_step; exact hK)); (focus rfl))
      obtain ⟨f1, f2, f3, f4, f5⟩ := hp3
      obtain ⟨_, f6⟩ := hS3.cell 4 (by omega)
      (apply StI_eff rfl; go_wp2_with fail)
      have hS4 := hS3.set 4 (.int .i64 en) (by omega)
      refine onNormal_mk hS4 (OrdI_snk ?_)
      obtain ⟨z4, hz4⟩ : ∃ W, z3.setCell ⟨A.pb k, 4, none⟩ (.int .i64 en) = W := ⟨_, rfl⟩
      rw [hz4] at hS4 ⊢
      clear f1 f2 f3 f4 f5 f6
      have hp4 := hS4.facts
      (apply StI_plain (w0 := z4) hS4 rfl rfl rfl rfl; (focus (intro W hW K hK; obtain ⟨_, _, _, _, _⟩ := hW.facts; go_step; exact hK)); (focus rfl)); (apply StI_plain (w0 := z4) hS4 rfl rfl rfl rfl; (focus (intro W hW K hK; obtain ⟨_, _, _, _, _⟩ := hW.facts; go_step; exact hK)); (focus rfl)); (apply StI_plain (w0 := z4) hS4 rfl rfl rfl rfl; (focus (intro W hW K hK; obtain ⟨_, _, _, _, _⟩ := hW.facts; go_step; exact hK)); (focus rfl))
      obtain ⟨f1, f2, f3, f4, f5⟩ := hp4
      (apply StI_eff rfl; go_wp2_with fail)
      refine onNormal_last ?_
      have hdl : (y.hops.drop 1).length = nh - 1 := by rw [List.length_drop, Hhyl.out]
      have hcl : nh - 1 + hc8 = nh + hc8 - 1 := by omega
      have hsl : Sl HopE 2 B w7.drew a9 (y.hops.drop 1) := by
        have h8 := Hhhs8.out.drew (ek_hop B)
        by_cases e : nh + hc8 = 1
        · have e2 : y.hops.drop 1 = [] := by apply List.eq_nil_of_length_eq_zero; omega
          rw [e2]
          exact ⟨by simp, fun k hk => by simp at hk⟩
        · rw [if_neg e] at ha9
          rw [← ha9]
          exact h8.drop1
      have hcell := (heap_setCell_at (heap_setCell_at (heap_setCell_at (heap_setCell_at (heap_setCell_at (heap_drew' Hhpb8.out) (.int .i64 2) (o := 11)) (.bool true) (o := 10)) (.int .i64 wy.dst) (o := 3)) (.int .i64 en) (o := 4)) (.slice a9 (nh - 1) (nh + hc8 - 1)) (o := 0))
      obtain ⟨zf, hzf⟩ : ∃ W, z4.setCell ⟨A.pb k, 0, none⟩ (.slice a9 (nh - 1) (nh + hc8 - 1)) = W := ⟨_, rfl⟩
      rw [hzf]
      rw [← hz4, ← hz3, ← hz2, ← hz1, ← hz0] at hzf
      rw [hzf] at hcell
      obtain ⟨y', hy'⟩ : ∃ q : Party, q = { y with state := 2, moved := true, place := wy.dst, fin := en, hops := y.hops.drop 1 } := ⟨_, rfl⟩
      have hx' : zf.heap[A.pb k]? = some (.cells (partyCells y' a9 hc8) 168 (0, 0)) := by
        rw [hcell, hy']
        unfold partyCells
        simp only [hdl, hcl]
        rfl
      obtain ⟨hput, hpfr⟩ := (Hhrj7.out.drew HhN.out).put HhN.out hk7 y' hx' (by rw [hy']; exact hsl) (fun j hj => by
        rw [← hzf]
        exact (setCell_other _ _ _ _ hj).trans ((setCell_other _ _ _ _ hj).trans ((setCell_other _ _ _ _ hj).trans ((setCell_other _ _ _ _ hj).trans (setCell_other _ _ _ _ hj))))) (by rw [← hzf]; exact ⟨rfl, rfl, rfl, by simp [World.setCell]⟩)
      have hmv : beginMove T s k (rb.tell s 4 k h0.way) x = (rb.tell s 4 k h0.way).setP k y' := by
        unfold beginMove
        rw [Hhwy'.out, Hhpt8.out, Hhy.out, Hhen.out, hy']
      have hpfr' : Fr A rb.parties.length rb.waits.length (some m) P2 P2 w7.drew zf := hpfr
      rw [Hhbl.out, ← Hhnp'.out, Hhbw.out, ← Hhnw'.out] at hpfr'
      have hfrz := Hhfra.out.trans ((Fr.of_below (Below.refl w7.heap.size w7).drew).trans hpfr')
      clear hz0 hz1 hz2 hz3 hz4 hS hS1 hS2 hS3 hS4 hI13 hcell hzf hx' hsl hpfr hpfr' f1 f2 f3 f4 f5
      have Hhput := Lib.hid hput; clear hput; have Hhmv := Lib.hid hmv; clear hmv; have Hhfrz := Lib.hid hfrz; clear hfrz
      go_wp2_with fail
      go_roundw
      case rel => exact ⟨k + 1, P2, by omega, by go_num, by rw [Hhnx.out, Hhyes.out, Hhmv.out]; exact Hhput.out, Hhfrz.out⟩
      case measure => simp [intOf]; omega
    · obtain rfl : k = np := by omega
      go_wp2_with fail
      (try simp only [Exit.inBlock, Exit.then]); refine bodyPost_end (results_none rfl _ _ _) rfl ?_
      exact ⟨⟨_, rfl⟩, P1, by rw [Hhnp'.out, hrk]; exact hrj, hfr⟩

end Go.Proofs.Ytjoihijlcpnhoaa
