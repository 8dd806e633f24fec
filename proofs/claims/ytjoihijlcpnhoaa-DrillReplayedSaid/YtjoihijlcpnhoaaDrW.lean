/- drill: the run's block is written anew; frames over steps; phases. -/
import Derived.Test.YtjoihijlcpnhoaaDrT
namespace Go.Proofs.Ytjoihijlcpnhoaa
open Go.RowKit

/-- What the map of uses holds. -/
def UsesM (w : World) (um : Option Nat) (l : List (Use × Int)) : Prop :=
  match um with
  | none => l = []
  | some m => MapE encU intV w m l

/-- The run's own block is another one. -/
theorem RunM.turn {T : Town} {a1 a2 a3 a4 : Option Addr} {c1 c2 c3 c4 : Nat} {p : Plan} {p1 p2 : Option Addr} {d1 d2 B : Nat} {A : RA} {w w' : World} {r : RunS} {s : Int} {um : Option Nat} (h : RunM T a1 a2 a3 a4 c1 c2 c3 c4 p p1 p2 d1 d2 B A w r s um)
    (k' : FuncId) (lb' : Array Value) (l : List (Use × Int)) (um' : Option Nat) (s' : Int) (hblk : w'.heap[A.rb]? = some (.cells (runCells T a1 a2 a3 a4 c1 c2 c3 c4 p p1 p2 d1 d2 { A with k := k', lb := lb' } um' s') 161 (0, 0)))
    (ho : ∀ q, q < w.heap.size → q ≠ A.rb → w'.heap[q]? = w.heap[q]?)
    (hu : UsesM w' um' l) (hB : Below B w w') :
    RunM T a1 a2 a3 a4 c1 c2 c3 c4 p p1 p2 d1 d2 B { A with k := k', lb := lb' } w' { r with used := l } s' um' := by
  have hrow : ∀ {n size : Nat} {e : TypeId} {v : Value} {xs : List Value}, w.ownsRow B e size v n xs → 161 ≠ e → ∀ g, v.ownBlock = some g → w'.heap[g]? = w.heap[g]? := by
    intro n size e v xs hr ht g hg
    exact ho g (hr.lt g hg).2 (fun e' => row_ne hr h.blk ht (by rw [← e']; exact hg))
  refine ⟨hblk, fun i hi => ?_, fun j hj => (ho _ (lt_of_heap (h.wt j hj)) (cells_ne (h.wt j hj) h.blk (by decide))).trans (h.wt j hj), row_same h.rowp (hrow h.rowp (by decide)), row_same h.roww (hrow h.roww (by decide)), row_same h.rowr (hrow h.rowr (by decide)), (by cases um' <;> exact hu), h.dp, h.dw, h.lo, h.town.below hB, h.plan.below hB⟩
  obtain ⟨ha, hc, h1, h2⟩ := h.pt i hi
  exact ⟨ha, hc, (ho _ (lt_of_heap h1) (cells_ne h1 h.blk (by decide))).trans h1, h2.below (ek_hop B) hB⟩

theorem RunJ.turn {T : Town} {a1 a2 a3 a4 : Option Addr} {c1 c2 c3 c4 : Nat} {p : Plan} {p1 p2 : Option Addr} {d1 d2 B : Nat} {A : RA} {J : World → (Nat → Prop) → List Entry → Prop} {w w' : World} {r : RunS} {s : Int} {um : Option Nat} {P : Nat → Prop} (hN : NoteC B A.k A.lb J)
    (h : RunJ T a1 a2 a3 a4 c1 c2 c3 c4 p p1 p2 d1 d2 B A J w r s um P) (l : List (Use × Int)) (um' : Option Nat) (s' : Int) (hblk : w'.heap[A.rb]? = some (.cells (runCells T a1 a2 a3 a4 c1 c2 c3 c4 p p1 p2 d1 d2 A um' s') 161 (0, 0)))
    (ho : ∀ q, q < w.heap.size → q ≠ A.rb → w'.heap[q]? = w.heap[q]?)
    (hu : UsesM w' um' l)
    (hm : um' = um ∨ ∀ m, um' = some m → w.heap.size ≤ m) (hk : w'.os = w.os ∧ w'.tape = w.tape ∧ w'.output = w.output ∧ w.heap.size ≤ w'.heap.size) :
    RunJ T a1 a2 a3 a4 c1 c2 c3 c4 p p1 p2 d1 d2 B A J w' { r with used := l } s' um' P ∧ Fr A r.parties.length r.waits.length um P P w w' := by
  have hrb : A.own r.parties.length r.waits.length A.rb := .inl rfl
  have hle := h.run.le
  have hlo := h.run.lo _ hrb
  obtain ⟨k1, k2, k3, k4⟩ := hk
  have hB : Below B w w' := ⟨k1, k2, k3, k4, fun q hq => ho q (by omega) (by omega)⟩
  have hp : ∀ q, P q → q < w.heap.size := fun q hq => hN.lt _ _ _ _ h.note hq
  refine ⟨⟨h.run.turn A.k A.lb l um' s' hblk ho hu hB, hN.stable _ _ _ _ h.note (fun q hq => ho q (hp q hq) (fun e => (h.sep q hq).1 (by rw [e]; exact hrb))) hB.block k4, fun q hq => ?_⟩, ⟨k1, k2, k3, k4, fun q hq hn _ _ => ho q hq (fun e => hn (by rw [e]; exact hrb)), fun _ hq => .inl hq⟩⟩
  obtain ⟨s1, s2, s3⟩ := h.sep q hq
  refine ⟨s1, fun e => ?_, s3⟩
  rcases hm with hm | hm
  · exact s2 (by rw [← hm]; exact e)
  · have := hm q e
    have := hp q hq
    omega

/-- A later call may write another map, laid since. -/
theorem Fr.step {A : RA} {np nw : Nat} {um um' : Option Nat} {P P' P'' : Nat → Prop} {w w' w'' : World} (h : Fr A np nw um P P' w w') (k : Fr A np nw um' P' P'' w' w'') (hm : ∀ m, um' = some m → um = some m ∨ w.heap.size ≤ m) : Fr A np nw um P P'' w w'' :=
  ⟨k.os.trans h.os, k.tape.trans h.tape, k.output.trans h.output, Nat.le_trans h.size k.size, fun q hq ho hu hp => (k.block q (Nat.lt_of_lt_of_le hq h.size) ho (fun e => by
    rcases hm q e with h1 | h1
    · exact hu h1
    · omega) (fun hp' => by
    rcases h.grow q hp' with h1 | h1
    · exact hp h1
    · omega)).trans (h.block q hq ho hu hp), fun q hq => by
    rcases k.grow q hq with h1 | h1
    · exact h.grow q h1
    · exact .inr (Nat.le_trans h.size h1)⟩

/-- The phases of a step. -/
def phaseN (T : Town) (n s : Int) (np nw : Nat) (r : RunS) : Nat → RunS
  | 0 => { r with used := [] }
  | 1 => eachI (arriveAt s) np { r with used := [] }
  | 2 => eachI (floodW T n s) nw (eachI (floodAt T s) np (eachI (arriveAt s) np { r with used := [] }))
  | 3 => eachI (enterAt T s) np (eachI (floodW T n s) nw (eachI (floodAt T s) np (eachI (arriveAt s) np { r with used := [] })))
  | _ => eachI (beginAt T s) np (eachI (enterAt T s) np (eachI (floodW T n s) nw (eachI (floodAt T s) np (eachI (arriveAt s) np { r with used := [] }))))

theorem phaseN_all (T : Town) (n s : Int) (r : RunS) : phaseN T n s r.parties.length r.waits.length r 4 = stepRun T n s r := rfl

theorem phase_good {T : Town} (hG : TownG T) (n s : Int) (hs : 0 ≤ s ∧ s ≤ 200) (np nw : Nat) (r : RunS) (hr : RunG T r) (h1 : r.parties.length = np) (h2 : r.waits.length = nw) :
    ∀ i, RunG T (phaseN T n s np nw r i) ∧ (phaseN T n s np nw r i).parties.length = np ∧ (phaseN T n s np nw r i).waits.length = nw := by
  have g0 : RunG T { r with used := [] } := ⟨hr.parties, hr.waits, hr.np, hr.nw, hr.room, ⟨by simp, by simp, by simp⟩, hr.pot⟩
  obtain ⟨a1, a2, a3⟩ := Keep.each np (fun i hi => arrive_keep T np nw s i hi) np (Nat.le_refl np) _ g0 h1 h2
  obtain ⟨b1, b2, b3⟩ := Keep.each np (fun i hi => flood_keep T np nw s i hi) np (Nat.le_refl np) _ a1 a2 a3
  obtain ⟨c1, c2, c3⟩ := Keep.each nw (fun i hi => floodW_keep T np nw n s i hi) nw (Nat.le_refl nw) _ b1 b2 b3
  obtain ⟨d1, d2, d3⟩ := Keep.each np (fun i hi => enter_keep hG np nw s i hi) np (Nat.le_refl np) _ c1 c2 c3
  intro i
  match i with
  | 0 => exact ⟨g0, h1, h2⟩
  | 1 => exact ⟨a1, a2, a3⟩
  | 2 => exact ⟨c1, c2, c3⟩
  | 3 => exact ⟨d1, d2, d3⟩
  | _ + 4 => exact Keep.each np (fun i hi => begin_keep hG np nw s hs i hi) np (Nat.le_refl np) _ d1 d2 d3

theorem playN_good {T : Town} (hG : TownG T) (n : Int) (np nw : Nat) (r : RunS) (hr : RunG T r) (h1 : r.parties.length = np) (h2 : r.waits.length = nw) : ∀ k, k ≤ 201 → RunG T (playN T n k r) ∧ (playN T n k r).parties.length = np ∧ (playN T n k r).waits.length = nw
  | 0, _ => ⟨hr, h1, h2⟩
  | k + 1, hk => by
    obtain ⟨g1, g2, g3⟩ := playN_good hG n np nw r hr h1 h2 k (by omega)
    exact step_keep hG np nw n k (by omega) _ g1 g2 g3

end Go.Proofs.Ytjoihijlcpnhoaa
namespace Go.Proofs.Ytjoihijlcpnhoaa
open Go.RowKit

set_option maxHeartbeats 4000000 in
set_option maxRecDepth 100000 in
theorem indexPtr_any {α : Type} (l : List α) (q : Nat → Nat) (a : Option Addr) (cap : Nat) (g : FuncId) (fi lb : Array Value) (p : α → Bool) (w : World) (hl : l.length ≤ 140737488355328)
    (hs : ∀ j (_ : j < l.length), ∃ b off, a = some ⟨b, off, none⟩ ∧ b < w.heap.size ∧ w.cell? ⟨b, off + j, none⟩ = some (.pointer (some ⟨q j, 0, none⟩)))
    (heg : ∀ (args : Array Value) (w : World), (callFunc g args).run Try.prog w = .ok (.enter g args) w)
    (hp : ∀ j (h : j < l.length) (W : World), Below w.heap.size w W → Calls Try.prog g (fi ++ #[.pointer (some ⟨q j, 0, none⟩)] ++ lb) W fun e W' => e = .returned (.bool (p l[j])) ∧ Below W.heap.size W W') :
    Calls Try.prog 104 #[.slice a l.length cap, .func (.func g) fi lb] w
      fun e w' => e = .returned (.int .i64 (findI p l)) ∧ Below w.heap.size w w' := by
  have HP := Lib.hid hp
  clear hp
  have HS := Lib.hid hs
  clear hs
  go_enter Try.func104, Try.ntmps104
  go_wp2_with (fail)
  go_loopw [8] (fun i wr => ∃ k : Nat, k ≤ l.length ∧ i = .int .i64 k ∧ Below w.heap.size w wr ∧ NoneTo p l k) (fun i _ => l.length - (intOf i).toNat)
  case atStart => exact ⟨0, Nat.zero_le _, rfl, Below.refl _ _, fun j hj => by omega⟩
  case round =>
    obtain ⟨k, hk, rfl, hb, hno⟩ := hrel
    by_cases hlt : k < l.length
    · obtain ⟨b, off, rfl, hbb, he⟩ := HS.out k hlt
      have he' := (bk b hb hbb).1 (off + k)
      rw [he] at he'
      clear he
      obtain ⟨v, hv⟩ : ∃ v, p l[k] = v := ⟨_, rfl⟩
      have hcall := HP.out k hlt wr hb
      rw [hv] at hcall
      have Hhno := Lib.hid hno; clear hno; have Hhcall := Lib.hid hcall; clear hcall; have Hhv := Lib.hid hv; clear hv
      cases v
      · go_wp2_with (refine Hhcall.out.mono ?_; rintro e w5 ⟨rfl, hb5⟩)
        go_roundw
        case rel => exact ⟨k + 1, by omega, by go_num, hb.trans (hb5.mono hb.size), Hhno.out.succ hlt Hhv.out⟩
        case measure => simp [intOf]; omega
      · go_wp2_with (refine Hhcall.out.mono ?_; rintro e w5 ⟨rfl, hb5⟩)
        go_ret
        exact ⟨by rw [findI_at hlt Hhno.out Hhv.out]; rfl, hb.trans (hb5.mono hb.size)⟩
    · go_wp2_with (fail)
      go_ret
      exact ⟨by rw [findI_none hno (by omega)]; rfl, hb⟩

set_option maxHeartbeats 4000000 in
set_option maxRecDepth 100000 in
theorem enter1_any (w : World) (qb qx qy : Nat) (x y : Party) (hax hay : Option Addr) (hcx hcy : Nat) (hb : w.cell? ⟨qb, 0, none⟩ = some (.pointer (some ⟨qx, 0, none⟩))) (_hbl : qb < w.heap.size)
    (hx : w.heap[qx]? = some (.cells (partyCells x hax hcx) 168 (0, 0))) (hy : w.heap[qy]? = some (.cells (partyCells y hay hcy) 168 (0, 0))) :
    Calls Try.prog 105 #[.pointer (some ⟨qy, 0, none⟩), .pointer (some ⟨qb, 0, none⟩)] w
      fun e w' => e = .returned (.bool (x.ride && y.vehicle == x.vehicle)) ∧ Below w.heap.size w w' := by
  have hxc := cells_of hx
  have hyc := cells_of hy
  have hxl := lt_of_heap hx
  have hyl := lt_of_heap hy
  simp only [partyCells] at hxc hyc
  obtain ⟨v, hv⟩ : ∃ v, x.ride = v := ⟨_, rfl⟩
  rw [hv] at hxc
  rw [hv]
  clear hx hy
  have Hhv := Lib.hid hv; clear hv
  go_enter Try.func105, Try.ntmps105
  go_upto_region 1 with fail
  cases v
  · go_quiet (fail)
    go_wp2_with fail
    go_ret
    exact ⟨by first | rfl | simp, (by repeat (first | exact Below.refl _ _ | (refine bl_setCell ?_ _ _ ?_; rotate_left; focus (first | omega | (simp; done) | (simp; omega))) | refine bl_alloc ?_ _ | refine bl_step ?_ (by assumption) | refine bl_drew ?_ | refine bl_drewN ?_ _))⟩
  · go_quiet (fail)
    go_wp2_with fail
    go_ret
    exact ⟨by first | rfl | simp, (by repeat (first | exact Below.refl _ _ | (refine bl_setCell ?_ _ _ ?_; rotate_left; focus (first | omega | (simp; done) | (simp; omega))) | refine bl_alloc ?_ _ | refine bl_step ?_ (by assumption) | refine bl_drew ?_ | refine bl_drewN ?_ _))⟩

end Go.Proofs.Ytjoihijlcpnhoaa
namespace Go.Proofs.Ytjoihijlcpnhoaa
open Go.RowKit

theorem rows_ne {w : World} {base n size base' n' size' : Nat} {e e' : TypeId} {v v' : Value} {xs xs' : List Value} (h : w.ownsRow base e size v n xs) (h' : w.ownsRow base' e' size' v' n' xs') (ht : e ≠ e') {g : Nat} (hg : v.ownBlock = some g) : v'.ownBlock ≠ some g := by
  rcases h.2 with ⟨rfl, _⟩ | ⟨g1, cap, cur, rfl, _, hgc, _⟩
  · simp [Value.ownBlock] at hg
  · obtain rfl : g1 = g := by simpa [Value.ownBlock] using hg
    exact row_ne h' hgc ht

theorem RunM.setRoom {T : Town} {a1 a2 a3 a4 : Option Addr} {c1 c2 c3 c4 : Nat} {p : Plan} {p1 p2 : Option Addr} {d1 d2 B : Nat} {A : RA} {w : World} {r : RunS} {s : Int} {um : Option Nat} (h : RunM T a1 a2 a3 a4 c1 c2 c3 c4 p p1 p2 d1 d2 B A w r s um)
    {g cap : Nat} (hv : A.vr = .slice (some ⟨g, 0, none⟩) r.room.length cap) (k : Nat) (n : Int) : RunM T a1 a2 a3 a4 c1 c2 c3 c4 p p1 p2 d1 d2 B A (w.setCell ⟨g, k, none⟩ (.int .i64 n)) { r with room := r.room.set k n } s um := by
  have hob : A.vr.ownBlock = some g := by rw [hv]; rfl
  have ho : ∀ q, q ≠ g → (w.setCell ⟨g, k, none⟩ (.int .i64 n)).heap[q]? = w.heap[q]? := fun q hq => setCell_other w g k _ hq
  have hgB : B ≤ g := h.lo g (.inr (.inr (.inr (.inr (.inr hob)))))
  have hB : Below B w (w.setCell ⟨g, k, none⟩ (.int .i64 n)) := ⟨rfl, rfl, rfl, by simp [World.setCell], fun q hq => ho q (by omega)⟩
  have hne : ∀ {q : Nat} {c : Array Value} {t : TypeId} {f : Nat × Nat}, w.heap[q]? = some (.cells c t f) → t ≠ 3 → q ≠ g := fun hq ht e => row_ne h.rowr hq ht (by rw [hob, e])
  refine ⟨(ho _ (hne h.blk (by decide))).trans h.blk, fun i hi => ?_, fun j hj => (ho _ (hne (h.wt j hj) (by decide))).trans (h.wt j hj), row_same h.rowp (fun q hq => ho q (fun e => rows_ne h.rowp h.rowr (by decide) hq (by rw [hob, e]))),
    row_same h.roww (fun q hq => ho q (fun e => rows_ne h.roww h.rowr (by decide) hq (by rw [hob, e]))), ?_, ?_, h.dp, h.dw, h.lo, h.town.below hB, h.plan.below hB⟩
  · obtain ⟨ha, hc, h1, h2⟩ := h.pt i hi
    exact ⟨ha, hc, (ho _ (hne h1 (by decide))).trans h1, h2.below (ek_hop B) hB⟩
  · have hr := h.rowr
    rw [hv] at hr
    have h1 := (hr.stored k (.int .i64 n)).1
    rw [hv]
    simp only [List.length_set, List.map_set]
    exact h1
  · have := h.used
    cases um with
    | none => exact this
    | some m => exact MapE.same this (ho m (fun e => by
        rcases h.rowr.2 with ⟨h1, _⟩ | ⟨g', cap', cur, h1, _, hgc, _⟩
        · rw [hv] at h1; cases h1
        · rw [hv] at h1
          simp only [Value.slice.injEq, Option.some.injEq, Addr.mk.injEq] at h1
          obtain ⟨⟨rfl, _⟩, _⟩ := h1
          exact map_ne hgc this e.symm))

theorem RunJ.setRoom {T : Town} {a1 a2 a3 a4 : Option Addr} {c1 c2 c3 c4 : Nat} {p : Plan} {p1 p2 : Option Addr} {d1 d2 B : Nat} {A : RA} {J : World → (Nat → Prop) → List Entry → Prop} {w : World} {r : RunS} {s : Int} {um : Option Nat} {P : Nat → Prop} (hN : NoteC B A.k A.lb J)
    (h : RunJ T a1 a2 a3 a4 c1 c2 c3 c4 p p1 p2 d1 d2 B A J w r s um P) {g cap : Nat} (hv : A.vr = .slice (some ⟨g, 0, none⟩) r.room.length cap) (k : Nat) (n : Int) :
    RunJ T a1 a2 a3 a4 c1 c2 c3 c4 p p1 p2 d1 d2 B A J (w.setCell ⟨g, k, none⟩ (.int .i64 n)) { r with room := r.room.set k n } s um P ∧ Fr A r.parties.length r.waits.length um P P w (w.setCell ⟨g, k, none⟩ (.int .i64 n)) := by
  have hob : A.vr.ownBlock = some g := by rw [hv]; rfl
  have how : A.own r.parties.length r.waits.length g := .inr (.inr (.inr (.inr (.inr hob))))
  have ho : ∀ q, q ≠ g → (w.setCell ⟨g, k, none⟩ (.int .i64 n)).heap[q]? = w.heap[q]? := fun q hq => setCell_other w g k _ hq
  have hsz : (w.setCell ⟨g, k, none⟩ (.int .i64 n)).heap.size = w.heap.size := by simp [World.setCell]
  exact ⟨⟨h.run.setRoom hv k n, hN.stable _ _ _ _ h.note (fun q hq => ho q (fun e => (h.sep q hq).1 (by rw [e]; exact how))) (fun q hq => ho q (fun e => by have := h.run.lo g how; omega)) (by rw [hsz]; exact Nat.le_refl _), h.sep⟩,
    ⟨rfl, rfl, rfl, by rw [hsz]; exact Nat.le_refl _, fun q _ hq _ _ => ho q (fun e => hq (by rw [e]; exact how)), fun _ hq => .inl hq⟩⟩

end Go.Proofs.Ytjoihijlcpnhoaa
