/- drill: flood, the parties; those who wait in memory. -/
import Derived.Test.YtjoihijlcpnhoaaDrO
namespace Go.Proofs.Ytjoihijlcpnhoaa
open Go.RowKit

theorem wt_setW (r : RunS) (i j : Nat) (y : Wait) : (r.setW i y).wt j = if j = i ∧ i < r.waits.length then y else r.wt j := by
  unfold RunS.setW RunS.wt
  simp only [List.getD_eq_getElem?_getD, List.getElem?_set]
  by_cases h : i = j
  · subst h
    by_cases h2 : i < r.waits.length
    · simp [h2]
    · simp [h2]
  · have : ¬ j = i := fun e => h e.symm
    simp [h, this]
theorem setW_len (r : RunS) (i : Nat) (y : Wait) : (r.setW i y).waits.length = r.waits.length := by simp [RunS.setW]

/-- One who waits is written. -/
theorem RunM.setW {T : Town} {a1 a2 a3 a4 : Option Addr} {c1 c2 c3 c4 : Nat} {p : Plan} {p1 p2 : Option Addr} {d1 d2 B : Nat} {A : RA} {w w' : World} {r : RunS} {s : Int} {um : Option Nat} (h : RunM T a1 a2 a3 a4 c1 c2 c3 c4 p p1 p2 d1 d2 B A w r s um)
    {j : Nat} (hj : j < r.waits.length) (y : Wait) (hy : w'.heap[A.wb j]? = some (.cells (waitCells y) 172 (0, 0)))
    (ho : ∀ k, k ≠ A.wb j → w'.heap[k]? = w.heap[k]?) (hB : Below B w w') : RunM T a1 a2 a3 a4 c1 c2 c3 c4 p p1 p2 d1 d2 B A w' (r.setW j y) s um := by
  have h0 := h.wt j hj
  have hl := setW_len r j y
  refine ⟨(ho _ (cells_ne h.blk h0 (by decide))).trans h.blk, fun i hi => ?_, fun i hi => ?_, row_same h.rowp (fun g hg => ho g (fun e => row_ne h.rowp h0 (by decide) (by rw [← e]; exact hg))), ?_,
    row_same h.rowr (fun g hg => ho g (fun e => row_ne h.rowr h0 (by decide) (by rw [← e]; exact hg))), ?_, h.dp, ?_, ?_, h.town.below hB, h.plan.below hB⟩
  · obtain ⟨ha, hc, h1, h2⟩ := h.pt i hi
    exact ⟨ha, hc, (ho _ (cells_ne h1 h0 (by decide))).trans h1, h2.below (ek_hop B) hB⟩
  · rw [hl] at hi
    rw [wt_setW]
    by_cases e : i = j
    · subst e
      rw [if_pos ⟨rfl, hj⟩]
      exact hy
    · rw [if_neg (fun k => e k.1)]
      exact (ho _ (fun k => e (h.dw i j hi hj k))).trans (h.wt i hi)
  · rw [hl]
    exact row_same h.roww (fun g hg => ho g (fun e => row_ne h.roww h0 (by decide) (by rw [← e]; exact hg)))
  · have := h.used
    cases um with
    | none => exact this
    | some m => exact MapE.same this (ho m (fun e => map_ne h0 this e.symm))
  · rw [hl]; exact h.dw
  · rw [hl]; exact h.lo

theorem RunJ.setw {T : Town} {a1 a2 a3 a4 : Option Addr} {c1 c2 c3 c4 : Nat} {p : Plan} {p1 p2 : Option Addr} {d1 d2 B : Nat} {A : RA} {J : World → (Nat → Prop) → List Entry → Prop} {w : World} {r : RunS} {s : Int} {um : Option Nat} {P : Nat → Prop} (hN : NoteC B A.k A.lb J)
    (h : RunJ T a1 a2 a3 a4 c1 c2 c3 c4 p p1 p2 d1 d2 B A J w r s um P) {j : Nat} (hj : j < r.waits.length) (y : Wait) (o : Nat) (v : Value) (hx : (waitCells (r.wt j)).setIfInBounds o v = waitCells y) :
    RunJ T a1 a2 a3 a4 c1 c2 c3 c4 p p1 p2 d1 d2 B A J (w.setCell ⟨A.wb j, o, none⟩ v) (r.setW j y) s um P ∧ Fr A r.parties.length r.waits.length um P P w (w.setCell ⟨A.wb j, o, none⟩ v) := by
  have hle := h.run.le
  have hlo := h.run.lo (A.wb j) (.inr (.inr (.inl ⟨j, hj, rfl⟩)))
  have hsz : (w.setCell ⟨A.wb j, o, none⟩ v).heap.size = w.heap.size := by simp [World.setCell]
  have ho : ∀ k, k ≠ A.wb j → (w.setCell ⟨A.wb j, o, none⟩ v).heap[k]? = w.heap[k]? := fun k hk => setCell_other w _ _ _ hk
  have hB : Below B w (w.setCell ⟨A.wb j, o, none⟩ v) := ⟨rfl, rfl, rfl, by rw [hsz]; exact Nat.le_refl _, fun k hk => ho k (by omega)⟩
  refine ⟨⟨h.run.setW hj y (by rw [← hx]; exact heap_setCell_at (h.run.wt j hj) v) ho hB, hN.stable _ _ _ _ h.note (fun q hq => ho q (fun e => (h.sep q hq).1 (.inr (.inr (.inl ⟨j, hj, e⟩))))) hB.block (by rw [hsz]; exact Nat.le_refl _), fun q hq => by rw [setW_len]; exact h.sep q hq⟩,
    ⟨rfl, rfl, rfl, by rw [hsz]; exact Nat.le_refl _, fun q _ hq _ _ => ho q (fun e => hq (.inr (.inr (.inl ⟨j, hj, e⟩)))), fun _ hq => .inl hq⟩⟩

theorem RunM.ptrw {T : Town} {a1 a2 a3 a4 : Option Addr} {c1 c2 c3 c4 : Nat} {p : Plan} {p1 p2 : Option Addr} {d1 d2 B : Nat} {A : RA} {w : World} {r : RunS} {s : Int} {um : Option Nat} (h : RunM T a1 a2 a3 a4 c1 c2 c3 c4 p p1 p2 d1 d2 B A w r s um) {i : Nat} (hi : i < r.waits.length)
    {g n cap : Nat} (hv : A.vw = .slice (some ⟨g, 0, none⟩) n cap) : w.cell? ⟨g, i, none⟩ = some (.pointer (some ⟨A.wb i, 0, none⟩)) ∧ g < w.heap.size := by
  have hrow := h.roww
  obtain ⟨g', cap', hv', _, hgl⟩ := hrow.form (by omega)
  rw [hv'] at hv
  simp only [Value.slice.injEq, Option.some.injEq, Addr.mk.injEq] at hv
  obtain ⟨⟨rfl, _⟩, _, _⟩ := hv
  rw [hv'] at hrow
  refine ⟨(hrow.cellAt i (by omega)).trans ?_, hgl⟩
  rw [List.getElem?_map, List.getElem?_range hi]
  rfl

/-- Behind a note. -/
theorem RunJ.noted {T : Town} {a1 a2 a3 a4 : Option Addr} {c1 c2 c3 c4 : Nat} {p : Plan} {p1 p2 : Option Addr} {d1 d2 B : Nat} {A : RA} {J : World → (Nat → Prop) → List Entry → Prop} {w w' : World} {r : RunS} {s : Int} {um : Option Nat} {P : Nat → Prop} (hN : NoteC B A.k A.lb J)
    (h : RunJ T a1 a2 a3 a4 c1 c2 c3 c4 p p1 p2 d1 d2 B A J w r s um P) (e : Entry) (hk : w'.os = w.os ∧ w'.tape = w.tape ∧ w'.output = w.output ∧ w.heap.size ≤ w'.heap.size) (hblk : ∀ q, q < w.heap.size → ¬ P q → w'.heap[q]? = w.heap[q]?)
    (P' : Nat → Prop) (hJ : J w' P' (r.log ++ [e])) (hP' : ∀ q, P' q → P q ∨ w.heap.size ≤ q) : RunJ T a1 a2 a3 a4 c1 c2 c3 c4 p p1 p2 d1 d2 B A J w' (r.note e) s um P' ∧ Fr A r.parties.length r.waits.length um P P' w w' := by
  obtain ⟨hos, htape, hout, hsz⟩ := hk
  have hB := h.run.le
  have hBw : BelowL B w w' := fun q hq => by
    by_cases hp : P q
    · rcases hN.lone _ _ _ _ h.note hp with h1 | h1
      · omega
      · exact .inr h1
    · exact .inl (hblk q (by omega) hp)
  have hrun' : RunM T a1 a2 a3 a4 c1 c2 c3 c4 p p1 p2 d1 d2 B A w' r s um := by
    refine h.run.same (fun q hq => hblk q (h.run.lt hq) (fun hp => (h.sep q hp).1 hq)) (fun m hm => ?_) hBw
    have := h.run.used
    subst hm
    exact hblk m (MapE.lt this) (fun hp => (h.sep m hp).2.1 rfl)
  refine ⟨⟨⟨hrun'.blk, hrun'.pt, hrun'.wt, hrun'.rowp, hrun'.roww, hrun'.rowr, hrun'.used, hrun'.dp, hrun'.dw, hrun'.lo, hrun'.town, hrun'.plan⟩, hJ, fun q hq => ?_⟩, ⟨hos, htape, hout, hsz, fun q hq _ _ hp => hblk q hq hp, hP'⟩⟩
  rcases hP' q hq with h1 | h1
  · exact h.sep q h1
  · refine ⟨fun ho => by have := h.run.lt ho; omega, fun hm => ?_, trivial⟩
    have := h.run.used
    subst hm
    have := MapE.lt this
    omega

end Go.Proofs.Ytjoihijlcpnhoaa
namespace Go.Proofs.Ytjoihijlcpnhoaa
open Go.RowKit

set_option maxHeartbeats 16000000 in
set_option maxRecDepth 100000 in
theorem flood_any (T : Town) (a1 a2 a3 a4 : Option Addr) (c1 c2 c3 c4 : Nat) (p : Plan) (p1 p2 : Option Addr) (d1 d2 : Nat) (B : Nat) (A : RA) (J : World → (Nat → Prop) → List Entry → Prop) (hN : NoteC B A.k A.lb J) (w : World) (r : RunS) (s : Int) (um : Option Nat) (P : Nat → Prop)
    (h : RunJ T a1 a2 a3 a4 c1 c2 c3 c4 p p1 p2 d1 d2 B A J w r s um P) (hR : RunG T r) (hnt : p.trips.length ≤ 4096) (hlog : r.log.length + r.parties.length + r.waits.length ≤ 1000000000) :
    Calls Try.prog 68 #[.pointer (some ⟨A.rb, 0, none⟩)] w
      fun e w' => (∃ u, e = .returned u) ∧ ∃ P', RunJ T a1 a2 a3 a4 c1 c2 c3 c4 p p1 p2 d1 d2 B A J w' (eachI (floodW T p.trips.length s) r.waits.length (eachI (floodAt T s) r.parties.length r)) s um P' ∧ Fr A r.parties.length r.waits.length um P P' w w' := by
  have hac := cells_of h.run.blk
  have hal := lt_of_heap h.run.blk
  simp only [runCells] at hac
  obtain ⟨va, vc, hvp⟩ := row_len h.run.rowp
  obtain ⟨wa, wc, hvw⟩ := row_len h.run.roww
  have hnp := hR.np
  have hnw := hR.nw
  obtain ⟨np, hnp'⟩ : ∃ n, r.parties.length = n := ⟨_, rfl⟩
  obtain ⟨nw, hnw'⟩ : ∃ n, r.waits.length = n := ⟨_, rfl⟩
  rw [hnp'] at hvp hnp
  rw [hnw'] at hvw hnw
  rw [hvp] at hac
  have Hh := Lib.hid h; clear h; have Hhvp := Lib.hid hvp; clear hvp; have Hhvw := Lib.hid hvw; clear hvw; have HhN := Lib.hid hN; clear hN; have Hhnp' := Lib.hid hnp'; clear hnp'; have Hhnw' := Lib.hid hnw'; clear hnw'; have HhR := Lib.hid hR; clear hR; have Hhlog := Lib.hid hlog; clear hlog
  go_enter Try.func68, Try.ntmps68
  go_wp2_with fail
  go_loopw [11] (fun i wr => ∃ (k : Nat) (P' : Nat → Prop), k ≤ np ∧ i = .int .i64 k ∧ RunJ T a1 a2 a3 a4 c1 c2 c3 c4 p p1 p2 d1 d2 B A J wr (eachI (floodAt T s) k r) s um P' ∧ Fr A r.parties.length r.waits.length um P P' w wr) (fun i _ => np - (intOf i).toNat)
  case atStart => exact ⟨0, P, Nat.zero_le _, rfl, Hh.out, Fr.refl _ _ _ _ _ _⟩
  case round =>
    obtain ⟨k, P1, hk, rfl, hrj, hfr⟩ := hrel
    have hlgk : (eachI (floodAt T s) k r).log.length ≤ r.log.length + k := each1_log (flood_log T s) k r
    obtain ⟨rk, hrk⟩ : ∃ q, eachI (floodAt T s) k r = q := ⟨_, rfl⟩
    obtain ⟨hRk, hlen, hlen2'⟩ := Keep.each np (fun i hi => flood_keep T np nw s i hi) k hk r HhR.out Hhnp'.out Hhnw'.out
    rw [hrk] at hrj hRk hlen hlen2' hlgk
    have hlgk2 : rk.log.length ≤ 1000000000 := by have := Hhlog.out; have := Hhnp'.out; omega
    have Hhlgk := Lib.hid hlgk; clear hlgk; have Hhlgk2 := Lib.hid hlgk2; clear hlgk2
    have hlen2 : rk.waits.length = r.waits.length := hlen2'.trans Hhnw'.out.symm
    have hwac := cells_of hrj.run.blk
    have hwal := lt_of_heap hrj.run.blk
    simp only [runCells] at hwac
    by_cases hlt : k < np
    · have hnx : eachI (floodAt T s) (k + 1) r = floodAt T s k rk := by rw [← hrk]; rfl
      have hki : k < rk.parties.length := by omega
      obtain ⟨ha, hc, hpb, hhs⟩ := hrj.run.pt k hki
      have hpg := hRk.pt hki
      obtain ⟨x, hx⟩ : ∃ x, rk.pt k = x := ⟨_, rfl⟩
      obtain ⟨g, cap, hvp2, _, hgl⟩ := hrj.run.rowp.form (by omega)
      have hvas : va = some ⟨g, 0, none⟩ := by have := Hhvp.out; rw [hvp2] at this; simp only [Value.slice.injEq] at this; exact this.1.symm
      have hg := (hrj.run.ptr hki hvp2).1
      have hfl : floodAt T s k rk = if (x.state = 1 ∨ x.state = 4) ∧ T.dry x.place s = false then (rk.setP k { x with state := 5 }).tell s 2 k x.place else rk := by unfold floodAt; rw [hx]
      rw [hx] at hpb hhs hpg
      subst hvas
      rw [Hhvp.out] at hwac
      have hpc := cells_of hpb
      have hpf := frozen_of hpb
      simp only [partyCells] at hpc
      have hpl := lt_of_heap hpb
      obtain ⟨v1, hv1⟩ : ∃ v, (x.state == 1) = v := ⟨_, rfl⟩
      obtain ⟨v2, hv2⟩ : ∃ v, (x.state == 4) = v := ⟨_, rfl⟩
      obtain ⟨dv, hdv'⟩ : ∃ v, T.dry x.place s = v := ⟨_, rfl⟩
      have hpb0 : wr.heap[A.pb k]? = some (.cells (partyCells (rk.pt k) ha hc) 168 (0, 0)) := by rw [hx]; exact hpb
      have HD : ∀ W, Below wr.heap.size wr W → Calls Try.prog 103 #[.pointer (some ⟨A.rb, 0, none⟩), .int .i64 x.place] W fun e w' => e = .returned (.bool dv) ∧ Below W.heap.size W w' := by
        intro W hW
        rw [← hdv']
        exact rdry_any T _ _ _ _ _ _ _ _ p _ _ _ _ B A W rk s um x.place (hrj.run.below hW) (Nat.le_trans hrj.run.le hW.size) hpg.place.1 hpg.place.2
      clear hvp2 hlen2'
      have Hhrk := Lib.hid hrk; clear hrk; have Hhnx := Lib.hid hnx; clear hnx; have Hhrj := Lib.hid hrj; clear hrj; have Hhfr := Lib.hid hfr; clear hfr; have Hhpb := Lib.hid hpb; clear hpb; have Hhhs := Lib.hid hhs; clear hhs; have Hhfl := Lib.hid hfl; clear hfl; have Hhx := Lib.hid hx; clear hx; have Hhlen := Lib.hid hlen; clear hlen; have Hhlen2 := Lib.hid hlen2; clear hlen2; have Hhpb0 := Lib.hid hpb0; clear hpb0; have Hhdv' := Lib.hid hdv'; clear hdv'; have HHD := Lib.hid HD; clear HD; have HhRk := Lib.hid hRk; clear hRk; have Hhpg := Lib.hid hpg; clear hpg
      cases v1
      · cases v2
        · have hno : floodAt T s k rk = rk := by
            rw [Hhfl.out, if_neg]
            rintro ⟨h1 | h1, _⟩
            · rw [h1] at hv1; simp at hv1
            · rw [h1] at hv2; simp at hv2
          have Hhno := Lib.hid hno; clear hno
          go_wp2_with fail
          go_roundw
          case rel => exact ⟨k + 1, P1, by omega, by go_num, by rw [Hhnx.out, Hhno.out]; exact Hhrj.out, Hhfr.out⟩
          case measure => simp [intOf]; omega
        · have hst : x.state = 4 := by simpa using hv2
          have Hst := Lib.hid hst
          clear hst
          cases hdv : dv
          · have hyes : floodAt T s k rk = (rk.setP k { x with state := 5 }).tell s 2 k x.place := by rw [Hhfl.out, if_pos ⟨.inr Hst.out, by rw [← hdv]; exact Hhdv'.out⟩]
            have HJ : ∀ W, Below wr.heap.size wr W → RunJ T a1 a2 a3 a4 c1 c2 c3 c4 p p1 p2 d1 d2 B A J (W.setCell ⟨A.pb k, 11, none⟩ (.int .i64 5)) (rk.setP k { x with state := 5 }) s um P1 ∧ Fr A rk.parties.length rk.waits.length um P1 P1 wr (W.setCell ⟨A.pb k, 11, none⟩ (.int .i64 5)) := by
              intro W hW
              have h1 := Hhrj.out.below HhN.out hW
              obtain ⟨h2, h3⟩ := h1.set HhN.out hki { x with state := 5 } (ha := ha) (hc := hc) 11 (.int .i64 5) (heap_below hW Hhpb0.out) (by rw [Hhx.out]; rfl) (Hhhs.out.below (ek_hop B) (hW.mono Hhrj.out.run.le))
              exact ⟨h2, (Fr.of_below hW).trans h3⟩
            have hki2 : k < (rk.setP k { x with state := 5 }).parties.length := by rw [setP_len]; omega
            have hnp2 : (rk.setP k { x with state := 5 }).parties.length ≤ 4352 := by rw [setP_len, Hhlen.out]; exact hnp
            subst hdv
            have Hhyes := Lib.hid hyes; clear hyes; have HHJ := Lib.hid HJ; clear HJ; have Hhki2 := Lib.hid hki2; clear hki2; have Hhnp2 := Lib.hid hnp2; clear hnp2
            go_wp2_with (first | (go_at_call 103; refine (HHD.out _ (Below.refl _ _)).mono ?_; rintro e w5 ⟨rfl, hb5⟩; obtain ⟨_, _, _⟩ := bk (A.pb k) hb5 (by (first | omega | (simp; done) | (simp; omega))); obtain ⟨_, _, _⟩ := bk (A.rb) hb5 (by (first | omega | (simp; done) | (simp; omega))); obtain ⟨_, _, _⟩ := bk (g) hb5 (by (first | omega | (simp; done) | (simp; omega))); have hzhb5 := bsz hb5; (try simp only [World.size_alloc] at hzhb5); have Hb5 := Lib.hid hb5; clear hb5) | (go_at_call 102; refine (tell_any T _ _ _ _ _ _ _ _ p _ _ _ _ B A J HhN.out _ _ s um P1 2 x.place k (HHJ.out _ Hb5.out).1 Hhki2.out Hhnp2.out Hhlgk2.out).mono ?_; rintro e w6 ⟨⟨u, rfl⟩, P2, hrj2, hfr2⟩; have hfr3 := Hhfr.out.trans (by have := (HHJ.out _ Hb5.out).2.trans (by have := hfr2; rw [setP_len] at this; exact this); rw [Hhlen.out, ← Hhnp'.out, Hhlen2.out] at this; exact this); have Hhrj2 := Lib.hid hrj2; clear hrj2; have Hhfr2 := Lib.hid hfr2; clear hfr2; have Hhfr3 := Lib.hid hfr3; clear hfr3))
            go_roundw
            case rel => exact ⟨k + 1, P2, by omega, by go_num, by rw [Hhnx.out, Hhyes.out]; exact Hhrj2.out, Hhfr3.out⟩
            case measure => simp [intOf]; omega
          · have hno : floodAt T s k rk = rk := by rw [Hhfl.out, if_neg (by intro e; have := e.2; rw [Hhdv'.out, hdv] at this; cases this)]
            subst hdv
            have Hhno := Lib.hid hno; clear hno
            go_wp2_with (go_at_call 103; refine (HHD.out _ (Below.refl _ _)).mono ?_; rintro e w5 ⟨rfl, hb5⟩; obtain ⟨_, _, _⟩ := bk (A.pb k) hb5 (by (first | omega | (simp; done) | (simp; omega))); obtain ⟨_, _, _⟩ := bk (A.rb) hb5 (by (first | omega | (simp; done) | (simp; omega))); obtain ⟨_, _, _⟩ := bk (g) hb5 (by (first | omega | (simp; done) | (simp; omega))); have hzhb5 := bsz hb5; (try simp only [World.size_alloc] at hzhb5))
            go_roundw
            case rel => exact ⟨k + 1, P1, by omega, by go_num, by rw [Hhnx.out, Hhno.out]; exact Hhrj.out.below HhN.out hb5, Hhfr.out.trans (Fr.of_below hb5)⟩
            case measure => simp [intOf]; omega
      · have hst : x.state = 1 := by simpa using hv1
        have Hst := Lib.hid hst
        clear hst
        cases hdv : dv
        · have hyes : floodAt T s k rk = (rk.setP k { x with state := 5 }).tell s 2 k x.place := by rw [Hhfl.out, if_pos ⟨.inl Hst.out, by rw [← hdv]; exact Hhdv'.out⟩]
          have HJ : ∀ W, Below wr.heap.size wr W → RunJ T a1 a2 a3 a4 c1 c2 c3 c4 p p1 p2 d1 d2 B A J (W.setCell ⟨A.pb k, 11, none⟩ (.int .i64 5)) (rk.setP k { x with state := 5 }) s um P1 ∧ Fr A rk.parties.length rk.waits.length um P1 P1 wr (W.setCell ⟨A.pb k, 11, none⟩ (.int .i64 5)) := by
            intro W hW
            have h1 := Hhrj.out.below HhN.out hW
            obtain ⟨h2, h3⟩ := h1.set HhN.out hki { x with state := 5 } (ha := ha) (hc := hc) 11 (.int .i64 5) (heap_below hW Hhpb0.out) (by rw [Hhx.out]; rfl) (Hhhs.out.below (ek_hop B) (hW.mono Hhrj.out.run.le))
            exact ⟨h2, (Fr.of_below hW).trans h3⟩
          have hki2 : k < (rk.setP k { x with state := 5 }).parties.length := by rw [setP_len]; omega
          have hnp2 : (rk.setP k { x with state := 5 }).parties.length ≤ 4352 := by rw [setP_len, Hhlen.out]; exact hnp
          subst hdv
          have Hhyes := Lib.hid hyes; clear hyes; have HHJ := Lib.hid HJ; clear HJ; have Hhki2 := Lib.hid hki2; clear hki2; have Hhnp2 := Lib.hid hnp2; clear hnp2
          go_wp2_with (first | (go_at_call 103; refine (HHD.out _ (Below.refl _ _)).mono ?_; rintro e w5 ⟨rfl, hb5⟩; obtain ⟨_, _, _⟩ := bk (A.pb k) hb5 (by (first | omega | (simp; done) | (simp; omega))); obtain ⟨_, _, _⟩ := bk (A.rb) hb5 (by (first | omega | (simp; done) | (simp; omega))); obtain ⟨_, _, _⟩ := bk (g) hb5 (by (first | omega | (simp; done) | (simp; omega))); have hzhb5 := bsz hb5; (try simp only [World.size_alloc] at hzhb5); have Hb5 := Lib.hid hb5; clear hb5) | (go_at_call 102; refine (tell_any T _ _ _ _ _ _ _ _ p _ _ _ _ B A J HhN.out _ _ s um P1 2 x.place k (HHJ.out _ Hb5.out).1 Hhki2.out Hhnp2.out Hhlgk2.out).mono ?_; rintro e w6 ⟨⟨u, rfl⟩, P2, hrj2, hfr2⟩; have hfr3 := Hhfr.out.trans (by have := (HHJ.out _ Hb5.out).2.trans (by have := hfr2; rw [setP_len] at this; exact this); rw [Hhlen.out, ← Hhnp'.out, Hhlen2.out] at this; exact this); have Hhrj2 := Lib.hid hrj2; clear hrj2; have Hhfr2 := Lib.hid hfr2; clear hfr2; have Hhfr3 := Lib.hid hfr3; clear hfr3))
          go_roundw
          case rel => exact ⟨k + 1, P2, by omega, by go_num, by rw [Hhnx.out, Hhyes.out]; exact Hhrj2.out, Hhfr3.out⟩
          case measure => simp [intOf]; omega
        · have hno : floodAt T s k rk = rk := by rw [Hhfl.out, if_neg (by intro e; have := e.2; rw [Hhdv'.out, hdv] at this; cases this)]
          subst hdv
          have Hhno := Lib.hid hno; clear hno
          go_wp2_with (go_at_call 103; refine (HHD.out _ (Below.refl _ _)).mono ?_; rintro e w5 ⟨rfl, hb5⟩; obtain ⟨_, _, _⟩ := bk (A.pb k) hb5 (by (first | omega | (simp; done) | (simp; omega))); obtain ⟨_, _, _⟩ := bk (A.rb) hb5 (by (first | omega | (simp; done) | (simp; omega))); obtain ⟨_, _, _⟩ := bk (g) hb5 (by (first | omega | (simp; done) | (simp; omega))); have hzhb5 := bsz hb5; (try simp only [World.size_alloc] at hzhb5))
          go_roundw
          case rel => exact ⟨k + 1, P1, by omega, by go_num, by rw [Hhnx.out, Hhno.out]; exact Hhrj.out.below HhN.out hb5, Hhfr.out.trans (Fr.of_below hb5)⟩
          case measure => simp [intOf]; omega
    · obtain rfl : k = np := by omega
      rw [Hhvw.out] at hwac
      obtain ⟨w1, hw1⟩ : ∃ W, wr = W := ⟨_, rfl⟩
      obtain ⟨r1, hr1⟩ : ∃ q, rk = q := ⟨_, rfl⟩
      have Hhrkq := Lib.hid hr1
      have hfin : eachI (floodAt T s) k r = r1 := hrk.trans hr1
      rw [hw1] at hrj hfr hwac hwal ⊢
      rw [hr1] at hrj hRk hlen hlen2
      clear hw1 hr1 hrk hlt hlen2'
      have Hhrj := Lib.hid hrj; clear hrj; have Hhfr := Lib.hid hfr; clear hfr; have HhRk := Lib.hid hRk; clear hRk; have Hhlen := Lib.hid hlen; clear hlen; have Hhlen2 := Lib.hid hlen2; clear hlen2; have Hhfin := Lib.hid hfin; clear hfin
      go_wp2_with fail
      go_loopw [55] (fun i wr => ∃ (j : Nat) (P' : Nat → Prop), j ≤ nw ∧ i = .int .i64 j ∧ RunJ T a1 a2 a3 a4 c1 c2 c3 c4 p p1 p2 d1 d2 B A J wr (eachI (floodW T p.trips.length s) j r1) s um P' ∧ Fr A r.parties.length r.waits.length um P P' w wr) (fun i _ => nw - (intOf i).toNat)
      case atStart => exact ⟨0, P1, Nat.zero_le _, rfl, Hhrj.out, Hhfr.out⟩
      case round =>
        clear hwac hwal Hhrj Hhfr
        obtain ⟨j, P2, hj, rfl, hrjj, hfrj⟩ := hrel
        have hlgj : (eachI (floodW T p.trips.length s) j r1).log.length ≤ r1.log.length + j := each1_log (floodW_log T p.trips.length s) j r1
        obtain ⟨rj, hrjq⟩ : ∃ q, eachI (floodW T p.trips.length s) j r1 = q := ⟨_, rfl⟩
        obtain ⟨hRj, hlenj, hlenj2⟩ := Keep.each nw (fun i hi => floodW_keep T k nw p.trips.length s i hi) j hj r1 HhRk.out Hhlen.out (Hhlen2.out.trans Hhnw'.out)
        rw [hrjq] at hrjj hRj hlenj hlenj2 hlgj
        have hlgj2 : rj.log.length ≤ 1000000000 := by
          have h1 := Hhlgk.out
          have h2 := Hhlog.out
          have h3 := Hhnp'.out
          have h4 := Hhnw'.out
          rw [← Hhrkq.out] at hlgj
          omega
        clear hlgj
        have Hhlgj2 := Lib.hid hlgj2; clear hlgj2
        have hwac := cells_of hrjj.run.blk
        have hwal := lt_of_heap hrjj.run.blk
        simp only [runCells] at hwac
        rw [Hhvw.out] at hwac
        by_cases hltj : j < nw
        · have hnx : eachI (floodW T p.trips.length s) (j + 1) r1 = floodW T p.trips.length s j rj := by rw [← hrjq]; rfl
          have hji : j < rj.waits.length := by omega
          have hwb := hrjj.run.wt j hji
          have hwg := hRj.wt hji
          have hcnt := hRj.count hji
          obtain ⟨y, hy⟩ : ∃ y, rj.wt j = y := ⟨_, rfl⟩
          obtain ⟨g, cap, hvw2, _, hgl⟩ := hrjj.run.roww.form (by omega)
          have hwas : wa = some ⟨g, 0, none⟩ := by have := Hhvw.out; rw [hvw2] at this; simp only [Value.slice.injEq] at this; exact this.1.symm
          have hg := (hrjj.run.ptrw hji hvw2).1
          have hfl : floodW T p.trips.length s j rj = if 0 < y.count ∧ y.lost = false ∧ T.dry y.place s = false then (rj.setW j { y with lost := true }).note ⟨s, 6, p.trips.length + y.ride, y.place, y.count⟩ else rj := by unfold floodW; rw [hy]
          have hxc : (waitCells (rj.wt j)).setIfInBounds 5 (.bool true) = waitCells { y with lost := true } := by rw [hy]; rfl
          rw [hy] at hwb hwg hcnt
          subst hwas
          have hpc := cells_of hwb
          have hpf := frozen_of hwb
          simp only [waitCells] at hpc
          have hpl := lt_of_heap hwb
          have hyr := hwg.ride
          obtain ⟨v1, hv1⟩ : ∃ v, decide (0 < y.count) = v := ⟨_, rfl⟩
          obtain ⟨v2, hv2⟩ : ∃ v, y.lost = v := ⟨_, rfl⟩
          rw [hv2] at hpc
          obtain ⟨dv, hdv'⟩ : ∃ v, T.dry y.place s = v := ⟨_, rfl⟩
          have HD : ∀ W, Below wr.heap.size wr W → Calls Try.prog 103 #[.pointer (some ⟨A.rb, 0, none⟩), .int .i64 y.place] W fun e w' => e = .returned (.bool dv) ∧ Below W.heap.size W w' := by
            intro W hW
            rw [← hdv']
            exact rdry_any T _ _ _ _ _ _ _ _ p _ _ _ _ B A W rj s um y.place (hrjj.run.below hW) (Nat.le_trans hrjj.run.le hW.size) hwg.place.1 hwg.place.2
          clear hvw2
          have Hhrjq := Lib.hid hrjq; clear hrjq; have Hhnx := Lib.hid hnx; clear hnx; have Hhrjj := Lib.hid hrjj; clear hrjj; have Hhfrj := Lib.hid hfrj; clear hfrj; have Hhwb := Lib.hid hwb; clear hwb; have Hhfl := Lib.hid hfl; clear hfl; have Hhy := Lib.hid hy; clear hy; have Hhlenj := Lib.hid hlenj; clear hlenj; have Hhlenj2 := Lib.hid hlenj2; clear hlenj2; have Hhdv' := Lib.hid hdv'; clear hdv'; have HHD := Lib.hid HD; clear HD; have HhRj := Lib.hid hRj; clear hRj; have Hhwg := Lib.hid hwg; clear hwg; have Hhxc := Lib.hid hxc; clear hxc; have Hhv2 := Lib.hid hv2; clear hv2
          cases v1
          · have hno : floodW T p.trips.length s j rj = rj := by
              rw [Hhfl.out, if_neg]
              rintro ⟨h1, _⟩
              simp [h1] at hv1
            have Hhno := Lib.hid hno; clear hno
            go_wp2_with fail
            go_roundw
            case rel => exact ⟨j + 1, P2, by omega, by go_num, by rw [Hhnx.out, Hhno.out]; exact Hhrjj.out, Hhfrj.out⟩
            case measure => simp [intOf]; omega
          · cases v2
            · cases hdv : dv
              · have hyes : floodW T p.trips.length s j rj = (rj.setW j { y with lost := true }).note ⟨s, 6, p.trips.length + y.ride, y.place, y.count⟩ := by rw [Hhfl.out, if_pos ⟨of_decide_eq_true hv1, Hhv2.out, by rw [← hdv]; exact Hhdv'.out⟩]
                have HJ : ∀ W, Below wr.heap.size wr W → RunJ T a1 a2 a3 a4 c1 c2 c3 c4 p p1 p2 d1 d2 B A J (W.setCell ⟨A.wb j, 5, none⟩ (.bool true)) (rj.setW j { y with lost := true }) s um P2 ∧ Fr A rj.parties.length rj.waits.length um P2 P2 wr (W.setCell ⟨A.wb j, 5, none⟩ (.bool true)) := by
                  intro W hW
                  have h1 := Hhrjj.out.below HhN.out hW
                  obtain ⟨h2, h3⟩ := h1.setw HhN.out hji { y with lost := true } 5 (.bool true) Hhxc.out
                  exact ⟨h2, (Fr.of_below hW).trans h3⟩
                subst hdv
                have Hhyes := Lib.hid hyes; clear hyes; have HHJ := Lib.hid HJ; clear HJ
                go_upto_region 12 with (go_at_call 103; refine (HHD.out _ (Below.refl _ _)).mono ?_; rintro e w5 ⟨rfl, hb5⟩; obtain ⟨_, _, _⟩ := bk (A.wb j) hb5 (by (first | omega | (simp; done) | (simp; omega))); obtain ⟨_, _, _⟩ := bk (A.rb) hb5 (by (first | omega | (simp; done) | (simp; omega))); obtain ⟨_, _, _⟩ := bk (g) hb5 (by (first | omega | (simp; done) | (simp; omega))); have hzhb5 := bsz hb5; (try simp only [World.size_alloc] at hzhb5); have Hb5 := Lib.hid hb5; clear hb5)
                obtain ⟨hrj6, hfr6⟩ := HHJ.out _ Hb5.out
                obtain ⟨w6, hw6⟩ : ∃ W, w5.setCell ⟨A.wb j, 5, none⟩ (.bool true) = W := ⟨_, rfl⟩
                rw [hw6] at hrj6 hfr6 ⊢
                have hji6 : j < (rj.setW j { y with lost := true }).waits.length := by rw [setW_len]; exact hji
                have hwb6 := hrj6.run.wt j hji6
                rw [wt_setW, if_pos ⟨rfl, hji⟩] at hwb6
                have hac6 := cells_of hrj6.run.blk
                have hal6 := lt_of_heap hrj6.run.blk
                simp only [runCells] at hac6
                have hpc6 := cells_of hwb6
                simp only [waitCells] at hpc6
                have hpl6 := lt_of_heap hwb6
                have heg := HhN.out.enters
                have hlg : ((rj.setW j { y with lost := true }).note ⟨s, 6, p.trips.length + y.ride, y.place, y.count⟩).log = (rj.setW j { y with lost := true }).log ++ [⟨s, 6, p.trips.length + y.ride, y.place, y.count⟩] := rfl
                have hI : Below w6.heap.size w6 w6.drew := (Below.refl _ _).drew
                clear hw6 hpc hpf hwac
                have Hhrj6 := Lib.hid hrj6; clear hrj6; have Hhfr6 := Lib.hid hfr6; clear hfr6; have Hhwb6 := Lib.hid hwb6; clear hwb6; have Hhlg := Lib.hid hlg; clear hlg
                refine wp_region_ord (fun W => Below w6.heap.size w6 W) [] [0, 1, 2, 3, 4, 5, 6, 7, 8, 9, 10, 11, 12, 13, 14, 15, 16, 17, 18, 19, 20, 21, 22, 23, 24, 25, 26, 27] (some 28) (by kernel_rfl) (by kernel_rfl) hI ?_
                refine OrdI_snk ?_
                (apply StI_plain (w0 := w6.drew) hI rfl rfl rfl rfl; (focus (intro W hW K hK; obtain ⟨_, _, _⟩ := bk A.rb hW hal6; obtain ⟨_, _, _⟩ := bk (A.wb j) hW hpl6; go_step; exact hK)); (focus rfl)); (apply StI_plain (w0 := w6.drew) hI rfl rfl rfl rfl; (focus (intro W hW K hK; obtain ⟨_, _, _⟩ := bk A.rb hW hal6; obtain ⟨_, _, _⟩ := bk (A.wb j) hW hpl6; go_step; exact hK)); (focus rfl)); (apply StI_plain (w0 := w6.drew) hI rfl rfl rfl rfl; (focus (intro W hW K hK; obtain ⟨_, _, _⟩ := bk A.rb hW hal6; obtain ⟨_, _, _⟩ := bk (A.wb j) hW hpl6; go_step; exact hK)); (focus rfl)); (apply StI_plain (w0 := w6.drew) hI rfl rfl rfl rfl; (focus (intro W hW K hK; obtain ⟨_, _, _⟩ := bk A.rb hW hal6; obtain ⟨_, _, _⟩ := bk (A.wb j) hW hpl6; go_step; exact hK)); (focus rfl)); (apply StI_plain (w0 := w6.drew) hI rfl rfl rfl rfl; (focus (intro W hW K hK; obtain ⟨_, _, _⟩ := bk A.rb hW hal6; obtain ⟨_, _, _⟩ := bk (A.wb j) hW hpl6; go_step; exact hK)); (focus rfl)); (apply StI_plain (w0 := w6.drew) hI rfl rfl rfl rfl; (focus (intro W hW K hK; obtain ⟨_, _, _⟩ := bk A.rb hW hal6; obtain ⟨_, _, _⟩ := bk (A.wb j) hW hpl6; go_step; exact hK)); (focus rfl)); (apply StI_plain (w0 := w6.drew) hI rfl rfl rfl rfl; (focus (intro W hW K hK; obtain ⟨_, _, _⟩ := bk A.rb hW hal6; obtain ⟨_, _, _⟩ := bk (A.wb j) hW hpl6; go_step; exact hK)); (focus rfl)); (apply StI_plain (w0 := w6.drew) hI rfl rfl rfl rfl; (focus (intro W hW K hK; obtain ⟨_, _, _⟩ := bk A.rb hW hal6; obtain ⟨_, _, _⟩ := bk (A.wb j) hW hpl6; go_step; exact hK)); (focus rfl)); (apply StI_plain (w0 := w6.drew) hI rfl rfl rfl rfl; (focus (intro W hW K hK; obtain ⟨_, _, _⟩ := bk A.rb hW hal6; obtain ⟨_, _, _⟩ := bk (A.wb j) hW hpl6; go_step; exact hK)); (focus rfl)); (apply StI_plain (w0 := w6.drew) hI rfl rfl rfl rfl; (focus (intro W hW K hK; obtain ⟨_, _, _⟩ := bk A.rb hW hal6; obtain ⟨_, _, _⟩ := bk (A.wb j) hW hpl6; go_step; exact hK)); (focus rfl)); (apply StI_plain (w0 := w6.drew) hI rfl rfl rfl rfl; (focus (intro W hW K hK; obtain ⟨_, _, _⟩ := bk A.rb hW hal6; obtain ⟨_, _, _⟩ := bk (A.wb j) hW hpl6; go_step; exact hK)); (focus rfl)); (apply StI_plain (w0 := w6.drew) hI rfl rfl rfl rfl; (focus (intro W hW K hK; obtain ⟨_, _, _⟩ := bk A.rb hW hal6; obtain ⟨_, _, _⟩ := bk (A.wb j) hW hpl6; go_step; exact hK)); (focus rfl)); (apply StI_plain (w0 := w6.drew) hI rfl rfl rfl rfl; (focus (intro W hW K hK; obtain ⟨_, _, _⟩ := bk A.rb hW hal6; obtain ⟨_, _, _⟩ := bk (A.wb j) hW hpl6; go_step; exact hK)); (focus rfl)); (apply StI_plain (w0 := w6.drew) hI rfl rfl rfl rfl; (focus (intro W hW K hK; obtain ⟨_, _, _⟩ := bk A.rb hW hal6; obtain ⟨_, _, _⟩ := bk (A.wb j) hW hpl6; go_step; exact hK)); (focus rfl)); (apply StI_plain (w0 := w6.drew) hI rfl rfl rfl rfl; (focus (intro W hW K hK; obtain ⟨_, _, _⟩ := bk A.rb hW hal6; obtain ⟨_, _, _⟩ := bk (A.wb j) hW hpl6; go_step; exact hK)); (focus rfl)); (apply StI_plain (w0 := w6.drew) hI rfl rfl rfl rfl; (focus (intro W hW K hK; obtain ⟨_, _, _⟩ := bk A.rb hW hal6; obtain ⟨_, _, _⟩ := bk (A.wb j) hW hpl6; go_step; exact hK)); (focus rfl)); (apply StI_plain (w0 := w6.drew) hI rfl rfl rfl rfl; (focus (intro W hW K hK; obtain ⟨_, _, _⟩ := bk A.rb hW hal6; obtain ⟨_, _, _⟩ := bk (A.wb j) hW hpl6; go_step; exact hK)); (focus rfl)); (apply StI_plain (w0 := w6.drew) hI rfl rfl rfl rfl; (focus (intro W hW K hK; obtain ⟨_, _, _⟩ := bk A.rb hW hal6; obtain ⟨_, _, _⟩ := bk (A.wb j) hW hpl6; go_step; exact hK)); (focus rfl)); (apply StI_plain (w0 := w6.drew) hI rfl rfl rfl rfl; (focus (intro W hW K hK; obtain ⟨_, _, _⟩ := bk A.rb hW hal6; obtain ⟨_, _, _⟩ := bk (A.wb j) hW hpl6; go_step; exact hK)); (focus rfl)); (apply StI_plain (w0 := w6.drew) hI rfl rfl rfl rfl; (focus (intro W hW K hK; obtain ⟨_, _, _⟩ := bk A.rb hW hal6; obtain ⟨_, _, _⟩ := bk (A.wb j) hW hpl6; go_step; exact hK)); (focus rfl)); (apply StI_plain (w0 := w6.drew) hI rfl rfl rfl rfl; (focus (intro W hW K hK; obtain ⟨_, _, _⟩ := bk A.rb hW hal6; obtain ⟨_, _, _⟩ := bk (A.wb j) hW hpl6; go_step; exact hK)); (focus rfl)); (apply StI_plain (w0 := w6.drew) hI rfl rfl rfl rfl; (focus (intro W hW K hK; obtain ⟨_, _, _⟩ := bk A.rb hW hal6; obtain ⟨_, _, _⟩ := bk (A.wb j) hW hpl6; go_step; exact hK)); (focus rfl)); (apply StI_plain (w0 := w6.drew) hI rfl rfl rfl rfl; (focus (intro W hW K hK; obtain ⟨_, _, _⟩ := bk A.rb hW hal6; obtain ⟨_, _, _⟩ := bk (A.wb j) hW hpl6; go_step; exact hK)); (focus rfl)); (apply StI_plain (w0 := w6.drew) hI rfl rfl rfl rfl; (focus (intro W hW K hK; obtain ⟨_, _, _⟩ := bk A.rb hW hal6; obtain ⟨_, _, _⟩ := bk (A.wb j) hW hpl6; go_step; exact hK)); (focus rfl)); (apply StI_plain (w0 := w6.drew) hI rfl rfl rfl rfl; (focus (intro W hW K hK; obtain ⟨_, _, _⟩ := bk A.rb hW hal6; obtain ⟨_, _, _⟩ := bk (A.wb j) hW hpl6; go_step; exact hK)); (focus rfl)); (apply StI_plain (w0 := w6.drew) hI rfl rfl rfl rfl; (focus (intro W hW K hK; obtain ⟨_, _, _⟩ := bk A.rb hW hal6; obtain ⟨_, _, _⟩ := bk (A.wb j) hW hpl6; go_step; exact hK)); (focus rfl)); (apply StI_plain (w0 := w6.drew) hI rfl rfl rfl rfl; (focus (intro W hW K hK; obtain ⟨_, _, _⟩ := bk A.rb hW hal6; obtain ⟨_, _, _⟩ := bk (A.wb j) hW hpl6; go_step; exact hK)); (focus rfl)); (apply StI_plain (w0 := w6.drew) hI rfl rfl rfl rfl; (focus (intro W hW K hK; obtain ⟨_, _, _⟩ := bk A.rb hW hal6; obtain ⟨_, _, _⟩ := bk (A.wb j) hW hpl6; go_step; exact hK)); (focus rfl))
                (apply StI_eff rfl; go_wp2_with fail)
                refine (HhN.out.call w6.drew P2 (rj.setW j { y with lost := true }).log ⟨s, 6, p.trips.length + y.ride, y.place, y.count⟩ (HhN.out.stable _ _ _ _ Hhrj6.out.note (fun _ _ => rfl) (fun _ _ => rfl) (Nat.le_refl _)) Hhlgj2.out).mono ?_
                rintro e w7 ⟨⟨u, rfl⟩, hkk, hblk, P3, hJ3, hP3⟩
                have hnt7 := RunJ.noted HhN.out (Hhrj6.out.drew HhN.out) ⟨s, 6, p.trips.length + y.ride, y.place, y.count⟩ hkk hblk P3 hJ3 hP3
                have hfr7 : Fr A r.parties.length r.waits.length um P P3 w w7 := by
                  have h1 := Hhfr6.out.trans ((Fr.of_below (Below.refl w6.heap.size w6).drew).trans (by have := hnt7.2; rw [setW_len] at this; exact this))
                  rw [Hhlenj.out, Hhlenj2.out, ← Hhnp'.out, ← Hhnw'.out] at h1
                  exact Hhfrj.out.trans h1
                have hrj7 := hnt7.1
                clear hnt7 hkk hblk hJ3 hP3 heg
                have Hhrj7 := Lib.hid hrj7; clear hrj7; have Hhfr7 := Lib.hid hfr7; clear hfr7
                go_wp2_with fail
                refine onNormal_last ?_
                go_wp2_with fail
                go_roundw
                case rel => exact ⟨j + 1, P3, by omega, by go_num, by rw [Hhnx.out, Hhyes.out]; exact Hhrj7.out, Hhfr7.out⟩
                case measure => simp [intOf]; omega
              · have hno : floodW T p.trips.length s j rj = rj := by rw [Hhfl.out, if_neg (by intro e; have := e.2.2; rw [Hhdv'.out, hdv] at this; cases this)]
                subst hdv
                have Hhno := Lib.hid hno; clear hno
                go_wp2_with (go_at_call 103; refine (HHD.out _ (Below.refl _ _)).mono ?_; rintro e w5 ⟨rfl, hb5⟩; obtain ⟨_, _, _⟩ := bk (A.wb j) hb5 (by (first | omega | (simp; done) | (simp; omega))); obtain ⟨_, _, _⟩ := bk (A.rb) hb5 (by (first | omega | (simp; done) | (simp; omega))); obtain ⟨_, _, _⟩ := bk (g) hb5 (by (first | omega | (simp; done) | (simp; omega))); have hzhb5 := bsz hb5; (try simp only [World.size_alloc] at hzhb5))
                go_roundw
                case rel => exact ⟨j + 1, P2, by omega, by go_num, by rw [Hhnx.out, Hhno.out]; exact Hhrjj.out.below HhN.out hb5, Hhfrj.out.trans (Fr.of_below hb5)⟩
                case measure => simp [intOf]; omega
            · have hno : floodW T p.trips.length s j rj = rj := by rw [Hhfl.out, if_neg (by intro e; rw [Hhv2.out] at e; cases e.2.1)]
              have Hhno := Lib.hid hno; clear hno
              go_wp2_with fail
              go_roundw
              case rel => exact ⟨j + 1, P2, by omega, by go_num, by rw [Hhnx.out, Hhno.out]; exact Hhrjj.out, Hhfrj.out⟩
              case measure => simp [intOf]; omega
        · obtain rfl : j = nw := by omega
          go_wp2_with fail
          (try simp only [Exit.inBlock, Exit.then]); refine bodyPost_end (results_none rfl _ _ _) rfl ?_
          exact ⟨⟨_, rfl⟩, P2, by rw [Hhnw'.out, Hhnp'.out, Hhfin.out, hrjq]; exact hrjj, hfrj⟩

end Go.Proofs.Ytjoihijlcpnhoaa
namespace Go.Proofs.Ytjoihijlcpnhoaa
open Go.RowKit

def goodU (x : Use) : Prop := I64 x.kind ∧ I64 x.id
theorem use_row : (210 : TypeId) < Try.prog.types.size := of_decide_eq_true (by kernel_rfl)
theorem use_wide : (match Try.prog.underlying 210 with | some (.array _ _) | some (.struct _) => true | _ => false) = true := by rw [Try.underlying210]
set_option maxRecDepth 100000 in
theorem use_law : WideMaps.KeyLaw Try.prog 210 := deep_law_laid laidOutP (m := 2) (by omega) use_row (by kernel_rfl) use_wide
theorem use_cells : Try.prog.cellsOf 210 = 2 := by kernel_rfl
theorem use_key (x : Use) (h : goodU x) : ∃ l, keyOf Try.prog 210 (encU x) = some l := by
  obtain ⟨m, hm⟩ := types_size
  obtain ⟨h0, h1⟩ := h
  have hkt : Try.prog.keyType 210 = true := by kernel_rfl
  have hfm : (encU x).formed Try.prog 210 = true := by simp [encU, Value.formed, Try.underlying210, use_cells]
  have hc : (encU x).cells.toList = [.int .i64 x.kind, .int .i64 x.id] := rfl
  have hl : Try.prog.keyLits (Try.prog.types.size + 1) 210 [.int .i64 x.kind, .int .i64 x.id] = some [.int .i64 x.kind, .int .i64 x.id] := by
    rw [hm]
    simp only [Program.keyLits, Try.underlying210]
    simp [use_cells, int_cells, wf_i64 h0, wf_i64 h1]
  unfold keyOf
  rw [Try.underlying210]
  simp only [hkt, hfm, hc, hl, Bool.and_self, if_true, Option.map_some]
  exact ⟨_, rfl⟩
theorem use_ok : KeyOK Try.prog 210 goodU encU := ⟨Maps.Keyed.of_law use_law, use_key, fun a b h => by
  obtain ⟨k, i⟩ := a
  obtain ⟨k', i'⟩ := b
  simp [encU] at h
  obtain ⟨rfl, rfl⟩ := h
  rfl⟩

theorem kgetU_mget (l : List (Use × Int)) (x : Use) : kget l x = (mget l x).getD 0 := by
  induction l with
  | nil => rfl
  | cons p l ih =>
    obtain ⟨y, n⟩ := p
    unfold kget mget
    split
    · rfl
    · exact ih
theorem kaddU_mput (l : List (Use × Int)) (x : Use) (n : Int) : kadd l x n = mput l x (kget l x + n) := by
  induction l with
  | nil => simp [kadd, mput, kget]
  | cons p l ih =>
    obtain ⟨y, m⟩ := p
    unfold kadd mput kget
    by_cases h : x = y
    · simp [h]
    · simp [h, ih]

set_option maxHeartbeats 16000000 in
set_option maxRecDepth 100000 in
theorem board_any (T : Town) (a1 a2 a3 a4 : Option Addr) (c1 c2 c3 c4 : Nat) (p : Plan) (p1 p2 : Option Addr) (d1 d2 : Nat) (B : Nat) (A : RA) (J : World → (Nat → Prop) → List Entry → Prop) (hN : NoteC B A.k A.lb J) (w : World) (r : RunS) (s : Int) (um : Option Nat) (P : Nat → Prop) (i : Nat)
    (h : RunJ T a1 a2 a3 a4 c1 c2 c3 c4 p p1 p2 d1 d2 B A J w r s um P) (hR : RunG T r) (hi : i < r.parties.length) :
    Calls Try.prog 107 #[.pointer (some ⟨A.rb, 0, none⟩), .pointer (some ⟨A.pb i, 0, none⟩)] w
      fun e w' => (∃ u, e = .returned u) ∧ RunJ T a1 a2 a3 a4 c1 c2 c3 c4 p p1 p2 d1 d2 B A J w' (boardAll i r) s um P ∧ Fr A r.parties.length r.waits.length um P P w w' := by
  have hac := cells_of h.run.blk
  have hal := lt_of_heap h.run.blk
  simp only [runCells] at hac
  obtain ⟨wa, wc, hvw⟩ := row_len h.run.roww
  have hnw := hR.nw
  obtain ⟨np, hnp'⟩ : ∃ n, r.parties.length = n := ⟨_, rfl⟩
  obtain ⟨nw, hnw'⟩ : ∃ n, r.waits.length = n := ⟨_, rfl⟩
  rw [hnp'] at hi
  rw [hnw'] at hvw hnw
  rw [hvw] at hac
  have hall : boardAll i r = eachI (boardAt i) nw r := by unfold boardAll; rw [hnw']
  have Hh := Lib.hid h; clear h; have Hhvw := Lib.hid hvw; clear hvw; have HhN := Lib.hid hN; clear hN; have Hhnp' := Lib.hid hnp'; clear hnp'; have Hhnw' := Lib.hid hnw'; clear hnw'; have HhR := Lib.hid hR; clear hR; have Hhall := Lib.hid hall; clear hall
  go_enter Try.func107, Try.ntmps107
  go_wp2_with fail
  go_loopw [11] (fun q wr => ∃ (j : Nat), j ≤ nw ∧ q = .int .i64 j ∧ RunJ T a1 a2 a3 a4 c1 c2 c3 c4 p p1 p2 d1 d2 B A J wr (eachI (boardAt i) j r) s um P ∧ Fr A r.parties.length r.waits.length um P P w wr) (fun q _ => nw - (intOf q).toNat)
  case atStart => exact ⟨0, Nat.zero_le _, rfl, Hh.out, Fr.refl _ _ _ _ _ _⟩
  case round =>
    obtain ⟨j, hj, rfl, hrjj, hfrj⟩ := hrel
    obtain ⟨rj, hrjq⟩ : ∃ q, eachI (boardAt i) j r = q := ⟨_, rfl⟩
    obtain ⟨hRj, hlenj, hlenj2⟩ := Keep.each nw (fun k hk => board_keep T np nw i hi k hk) j hj r HhR.out Hhnp'.out Hhnw'.out
    rw [hrjq] at hrjj hRj hlenj hlenj2
    by_cases hltj : j < nw
    · have hnx : eachI (boardAt i) (j + 1) r = boardAt i j rj := by rw [← hrjq]; rfl
      have hji : j < rj.waits.length := by omega
      have hii : i < rj.parties.length := by omega
      have hwb := hrjj.run.wt j hji
      obtain ⟨ha, hc, hpb, hhs⟩ := hrjj.run.pt i hii
      have hcnt := hRj.count hji
      have hppl := hRj.people hii
      obtain ⟨y, hy⟩ : ∃ y, rj.wt j = y := ⟨_, rfl⟩
      obtain ⟨x, hx⟩ : ∃ y, rj.pt i = y := ⟨_, rfl⟩
      obtain ⟨g, cap, hvw2, _, hgl⟩ := hrjj.run.roww.form (by omega)
      have hwas : wa = some ⟨g, 0, none⟩ := by have := Hhvw.out; rw [hvw2] at this; simp only [Value.slice.injEq] at this; exact this.1.symm
      have hg := (hrjj.run.ptrw hji hvw2).1
      have hfl : boardAt i j rj = if boards x y then (rj.setP i { x with people := x.people + y.count }).setW j { y with count := 0 } else rj := by unfold boardAt; rw [hx, hy]
      have hpb0 : wr.heap[A.pb i]? = some (.cells (partyCells (rj.pt i) ha hc) 168 (0, 0)) := hpb
      have hxp : (partyCells (rj.pt i) ha hc).setIfInBounds 12 (.int .i64 (x.people + y.count)) = partyCells { x with people := x.people + y.count } ha hc := by rw [hx]; rfl
      have hxc : (waitCells (rj.wt j)).setIfInBounds 4 (.int .i64 0) = waitCells { y with count := 0 } := by rw [hy]; rfl
      have hnh := (hRj.pt hii).nh
      rw [hy] at hwb hcnt
      rw [hx] at hpb hhs hppl hnh
      subst hwas
      have hwc := cells_of hwb
      have hwf := frozen_of hwb
      simp only [waitCells] at hwc
      have hwl := lt_of_heap hwb
      have hpc := cells_of hpb
      have hpf := frozen_of hpb
      simp only [partyCells] at hpc
      have hpl := lt_of_heap hpb
      have hne : A.pb i ≠ A.wb j := cells_ne hpb hwb (by decide)
      obtain ⟨v1, hv1⟩ : ∃ v, x.ride = v := ⟨_, rfl⟩
      obtain ⟨v2, hv2⟩ : ∃ v, (y.ride == x.index) = v := ⟨_, rfl⟩
      obtain ⟨v3, hv3⟩ : ∃ v, (y.hop == (x.hops.length : Int)) = v := ⟨_, rfl⟩
      obtain ⟨v4, hv4⟩ : ∃ v, y.lost = v := ⟨_, rfl⟩
      have hbd : boards x y = (v1 && v2 && v3 && !v4) := by unfold boards; rw [hv1, hv2, hv3, hv4]
      rw [hv1] at hpc
      rw [hv4] at hwc
      clear hvw2
      have Hhrjq := Lib.hid hrjq; clear hrjq; have Hhnx := Lib.hid hnx; clear hnx; have Hhrjj := Lib.hid hrjj; clear hrjj; have Hhfrj := Lib.hid hfrj; clear hfrj; have Hhwb := Lib.hid hwb; clear hwb; have Hhpb := Lib.hid hpb; clear hpb; have Hhhs := Lib.hid hhs; clear hhs; have Hhfl := Lib.hid hfl; clear hfl; have Hhy := Lib.hid hy; clear hy; have Hhx := Lib.hid hx; clear hx; have Hhlenj := Lib.hid hlenj; clear hlenj; have Hhlenj2 := Lib.hid hlenj2; clear hlenj2; have HhRj := Lib.hid hRj; clear hRj; have Hhxp := Lib.hid hxp; clear hxp; have Hhxc := Lib.hid hxc; clear hxc; have Hhv1 := Lib.hid hv1; clear hv1; have Hhv4 := Lib.hid hv4; clear hv4; have Hhbd := Lib.hid hbd; clear hbd; have Hhpb0 := Lib.hid hpb0; clear hpb0
      cases v1
      · have hno : boardAt i j rj = rj := by rw [Hhfl.out, if_neg (by rw [Hhbd.out, show (false && v2 && v3 && !v4) = false from rfl]; simp)]
        have Hhno := Lib.hid hno; clear hno
        go_upto_region 3 with fail
        go_quiet (fail)
        go_wp2_with fail
        go_roundw
        case rel => exact ⟨j + 1, by omega, by go_num, by rw [Hhnx.out, Hhno.out]; exact Hhrjj.out.below HhN.out (bl_drewN (Below.refl _ _) _), Hhfrj.out.trans (Fr.of_below (bl_drewN (Below.refl _ _) _))⟩
        case measure => simp [intOf]; omega
      cases v2
      · have hno : boardAt i j rj = rj := by rw [Hhfl.out, if_neg (by rw [Hhbd.out, show (true && false && v3 && !v4) = false from rfl]; simp)]
        have Hhno := Lib.hid hno; clear hno
        go_upto_region 3 with fail
        go_quiet (fail)
        go_wp2_with fail
        go_roundw
        case rel => exact ⟨j + 1, by omega, by go_num, by rw [Hhnx.out, Hhno.out]; exact Hhrjj.out.below HhN.out (bl_drewN (Below.refl _ _) _), Hhfrj.out.trans (Fr.of_below (bl_drewN (Below.refl _ _) _))⟩
        case measure => simp [intOf]; omega
      cases v3
      · have hno : boardAt i j rj = rj := by rw [Hhfl.out, if_neg (by rw [Hhbd.out, show (true && true && false && !v4) = false from rfl]; simp)]
        have Hhno := Lib.hid hno; clear hno
        go_upto_region 3 with fail
        go_quiet (fail)
        go_wp2_with fail
        go_roundw
        case rel => exact ⟨j + 1, by omega, by go_num, by rw [Hhnx.out, Hhno.out]; exact Hhrjj.out.below HhN.out (bl_drewN (Below.refl _ _) _), Hhfrj.out.trans (Fr.of_below (bl_drewN (Below.refl _ _) _))⟩
        case measure => simp [intOf]; omega
      cases v4
      rotate_left
      · have hno : boardAt i j rj = rj := by rw [Hhfl.out, if_neg (by rw [Hhbd.out, show (true && true && true && !true) = false from rfl]; simp)]
        have Hhno := Lib.hid hno; clear hno
        go_upto_region 3 with fail
        go_quiet (fail)
        go_wp2_with fail
        go_roundw
        case rel => exact ⟨j + 1, by omega, by go_num, by rw [Hhnx.out, Hhno.out]; exact Hhrjj.out.below HhN.out (bl_drewN (Below.refl _ _) _), Hhfrj.out.trans (Fr.of_below (bl_drewN (Below.refl _ _) _))⟩
        case measure => simp [intOf]; omega
      have hyes : boardAt i j rj = (rj.setP i { x with people := x.people + y.count }).setW j { y with count := 0 } := by rw [Hhfl.out, if_pos (by rw [Hhbd.out]; rfl)]
      have HJ : ∀ n, RunJ T a1 a2 a3 a4 c1 c2 c3 c4 p p1 p2 d1 d2 B A J (((wr.drewN n).setCell ⟨A.pb i, 12, none⟩ (.int .i64 (x.people + y.count))).setCell ⟨A.wb j, 4, none⟩ (.int .i64 0)) ((rj.setP i { x with people := x.people + y.count }).setW j { y with count := 0 }) s um P ∧
          Fr A r.parties.length r.waits.length um P P wr (((wr.drewN n).setCell ⟨A.pb i, 12, none⟩ (.int .i64 (x.people + y.count))).setCell ⟨A.wb j, 4, none⟩ (.int .i64 0)) := by
        intro n
        have hbn : Below wr.heap.size wr (wr.drewN n) := bl_drewN (Below.refl _ _) n
        obtain ⟨h2, h3⟩ := (Hhrjj.out.below HhN.out hbn).set HhN.out hii { x with people := x.people + y.count } 12 (.int .i64 (x.people + y.count)) (heap_below hbn Hhpb0.out) Hhxp.out (Hhhs.out.below (ek_hop B) (hbn.mono Hhrjj.out.run.le))
        obtain ⟨h4, h5⟩ := h2.setw HhN.out (j := j) hji { y with count := 0 } 4 (.int .i64 0) Hhxc.out
        rw [setP_len] at h5
        have h9 := ((Fr.of_below hbn).trans h3).trans h5
        rw [Hhlenj.out, Hhlenj2.out, ← Hhnp'.out, ← Hhnw'.out] at h9
        exact ⟨h4, h9⟩
      have Hhyes := Lib.hid hyes; clear hyes; have HHJ := Lib.hid HJ; clear HJ
      go_upto_region 3 with fail
      go_quiet (fail)
      go_upto_region 4 with fail
      go_region
      all_goals (go_wp2_with fail)
      go_roundw
      case rel => exact ⟨j + 1, by omega, by go_num, by rw [Hhnx.out, Hhyes.out]; exact (HHJ.out _).1, Hhfrj.out.trans (HHJ.out _).2⟩
      case measure => simp [intOf]; omega
    · obtain rfl : j = nw := by omega
      go_wp2_with fail
      (try simp only [Exit.inBlock, Exit.then]); refine bodyPost_end (results_none rfl _ _ _) rfl ?_
      exact ⟨⟨_, rfl⟩, by rw [Hhall.out, hrjq]; exact hrjj, hfrj⟩

end Go.Proofs.Ytjoihijlcpnhoaa
namespace Go.Proofs.Ytjoihijlcpnhoaa
open Go.RowKit
open Go.ChangeMaps (setBlock)

theorem RunM.look {T : Town} {a1 a2 a3 a4 : Option Addr} {c1 c2 c3 c4 : Nat} {p : Plan} {p1 p2 : Option Addr} {d1 d2 B : Nat} {A : RA} {w : World} {r : RunS} {s : Int} {m : Nat} (h : RunM T a1 a2 a3 a4 c1 c2 c3 c4 p p1 p2 d1 d2 B A w r s (some m)) (hR : UsedG r.used) (u : Use) (hu : goodU u) :
    (Instr.lookup 159 (.map (some m)) (.agg #[.int .i64 u.kind, .int .i64 u.id]) false).run Try.prog w = .ok (.int .i64 (kget r.used u)) w := by
  have hkeys : GoodKeys goodU r.used := fun y hy => by have := hR.key y hy; unfold goodU I64; omega
  have h1 := MapE.look use_ok Try.underlying159 h.used hkeys hR.nodup (zero_int w) u hu false
  rw [kgetU_mget]
  refine h1.trans ?_
  cases mget r.used u <;> rfl

/-- The uses are written. -/
theorem RunM.setUsed {T : Town} {a1 a2 a3 a4 : Option Addr} {c1 c2 c3 c4 : Nat} {p : Plan} {p1 p2 : Option Addr} {d1 d2 B : Nat} {A : RA} {w w' : World} {r : RunS} {s : Int} {m : Nat} (h : RunM T a1 a2 a3 a4 c1 c2 c3 c4 p p1 p2 d1 d2 B A w r s (some m)) (l : List (Use × Int))
    (hm : MapE encU intV w' m l) (ho : ∀ k, k ≠ m → w'.heap[k]? = w.heap[k]?) (hB : Below B w w') : RunM T a1 a2 a3 a4 c1 c2 c3 c4 p p1 p2 d1 d2 B A w' { r with used := l } s (some m) := by
  have h0 : MapE encU intV w m r.used := h.used
  have hrow : ∀ {base n size : Nat} {e : TypeId} {v : Value} {xs : List Value}, w.ownsRow base e size v n xs → ∀ g, v.ownBlock = some g → w'.heap[g]? = w.heap[g]? := by
    intro base n size e v xs hr g hg
    refine ho g ?_
    rcases hr.2 with ⟨rfl, _⟩ | ⟨g', cap, cur, rfl, _, hgc, _⟩
    · simp [Value.ownBlock] at hg
    · obtain rfl : g' = g := by simpa [Value.ownBlock] using hg
      exact map_ne hgc h0
  refine ⟨(ho _ (map_ne h.blk h0)).trans h.blk, fun i hi => ?_, fun j hj => (ho _ (map_ne (h.wt j hj) h0)).trans (h.wt j hj), row_same h.rowp (hrow h.rowp), row_same h.roww (hrow h.roww), row_same h.rowr (hrow h.rowr), hm, h.dp, h.dw, h.lo, h.town.below hB, h.plan.below hB⟩
  obtain ⟨ha, hc, h1, h2⟩ := h.pt i hi
  exact ⟨ha, hc, (ho _ (map_ne h1 h0)).trans h1, h2.below (ek_hop B) hB⟩

theorem RunJ.setUsed {T : Town} {a1 a2 a3 a4 : Option Addr} {c1 c2 c3 c4 : Nat} {p : Plan} {p1 p2 : Option Addr} {d1 d2 B : Nat} {A : RA} {J : World → (Nat → Prop) → List Entry → Prop} {w w' : World} {r : RunS} {s : Int} {m : Nat} {P : Nat → Prop} (hN : NoteC B A.k A.lb J)
    (h : RunJ T a1 a2 a3 a4 c1 c2 c3 c4 p p1 p2 d1 d2 B A J w r s (some m) P) (hmB : B ≤ m) (l : List (Use × Int)) (hm : MapE encU intV w' m l) (hk : Keeps [m] w w') :
    RunJ T a1 a2 a3 a4 c1 c2 c3 c4 p p1 p2 d1 d2 B A J w' { r with used := l } s (some m) P ∧ Fr A r.parties.length r.waits.length (some m) P P w w' := by
  have hle := h.run.le
  have hB : Below B w w' := hk.below hle (by simpa using hmB)
  -- blocks that the world did not have are not asked for
  have ho : ∀ k, k < w.heap.size → k ≠ m → w'.heap[k]? = w.heap[k]? := fun k hk' hne => hk.block k hk' (by simpa using hne)
  have h0 : MapE encU intV w m r.used := h.run.used
  refine ⟨⟨?_, hN.stable _ _ _ _ h.note (fun q hq => ho q (hN.lt _ _ _ _ h.note hq) (fun e => (h.sep q hq).2.1 (by rw [e]))) hB.block hk.size, h.sep⟩, ⟨hk.os, hk.tape, hk.output, hk.size, fun q hq _ hu _ => ho q hq (fun e => hu (by rw [e])), fun _ hq => .inl hq⟩⟩
  have hrow : ∀ {base n size : Nat} {e : TypeId} {v : Value} {xs : List Value}, w.ownsRow base e size v n xs → ∀ g, v.ownBlock = some g → w'.heap[g]? = w.heap[g]? := by
    intro base n size e v xs hr g hg
    refine ho g (hr.lt g hg).2 ?_
    rcases hr.2 with ⟨rfl, _⟩ | ⟨g', cap, cur, rfl, _, hgc, _⟩
    · simp [Value.ownBlock] at hg
    · obtain rfl : g' = g := by simpa [Value.ownBlock] using hg
      exact map_ne hgc h0
  have hr := h.run
  refine ⟨(ho _ (lt_of_heap hr.blk) (map_ne hr.blk h0)).trans hr.blk, fun i hi => ?_, fun j hj => (ho _ (lt_of_heap (hr.wt j hj)) (map_ne (hr.wt j hj) h0)).trans (hr.wt j hj), row_same hr.rowp (hrow hr.rowp), row_same hr.roww (hrow hr.roww), row_same hr.rowr (hrow hr.rowr), hm, hr.dp, hr.dw, hr.lo, hr.town.below hB, hr.plan.below hB⟩
  obtain ⟨ha, hc, h1, h2⟩ := hr.pt i hi
  exact ⟨ha, hc, (ho _ (lt_of_heap h1) (map_ne h1 h0)).trans h1, h2.below (ek_hop B) hB⟩

end Go.Proofs.Ytjoihijlcpnhoaa
