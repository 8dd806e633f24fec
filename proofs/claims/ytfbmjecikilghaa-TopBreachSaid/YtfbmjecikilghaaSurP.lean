/- surge: the terms of a rise. -/
import Derived.Test.YtfbmjecikilghaaSurY
namespace Go.Proofs.Ytfbmjecikilghaa
open Go.RowKit

abbrev placeC (W H sz : Int) (ga : Option Addr) (n gc : Nat) (s0 s1 d0 d1 l0 l1 cell : Int) : Array Value := #[.int .i64 W, .int .i64 H, .int .i64 sz, .slice ga n gc, .int .i64 s0, .int .i64 s1, .int .i64 d0, .int .i64 d1, .int .i64 l0, .int .i64 l1, .int .i64 cell]
theorem prod_bd {a b c : Int} (ha : 0 ≤ a) (ha1 : a ≤ 10000) (hb : 0 ≤ b) (hb1 : b ≤ 10000) (hc : 0 ≤ c) (hc1 : c ≤ 2000000) : (0 ≤ a * b ∧ a * b ≤ 100000000) ∧ (0 ≤ a * b * b ∧ a * b * b ≤ 1000000000000) ∧ (0 ≤ a * b * b * c ∧ a * b * b * c ≤ 2000000000000000000) := by
  have h1 : a * b ≤ 10000 * 10000 := Int.mul_le_mul ha1 hb1 hb (by omega)
  have h2 := Int.mul_nonneg ha hb
  have h3 : a * b * b ≤ 100000000 * 10000 := Int.mul_le_mul (by omega) hb1 hb (by omega)
  have h4 := Int.mul_nonneg h2 hb
  have h5 : a * b * b * c ≤ 1000000000000 * 2000000 := Int.mul_le_mul (by omega) hc1 hc (by omega)
  have h6 := Int.mul_nonneg h4 hc
  omega

set_option maxHeartbeats 4000000 in
set_option maxRecDepth 100000 in
theorem termlo_any (bp bs bl : Nat) (W H sz : Int) (ga : Option Addr) (n gc : Nat) (s0 s1 d0 d1 l0 l1 cell v0 v1 long a b : Int) (w : World)
    (hp : w.heap[bp]? = some (.cells #[.int .i64 W, .int .i64 H, .int .i64 sz, .slice ga n gc, .int .i64 s0, .int .i64 s1, .int .i64 d0, .int .i64 d1, .int .i64 l0, .int .i64 l1, .int .i64 cell] 119 (0, 0)))
    (hs : w.heap[bs]? = some (.cells #[.int .i64 v0, .int .i64 v1] 122 (0, 0))) (hl : w.heap[bl]? = some (.cells #[.int .i64 long] 3 (0, 0)))
    (hd0 : 0 ≤ d0 ∧ d0 ≤ 10000) (hv0 : 0 ≤ v0 ∧ v0 ≤ 10000) (hlg : 0 ≤ long ∧ long ≤ 2000000) (hb0 : 1 ≤ b) (hb1 : b ≤ 100000000) :
    Calls Try.prog 101 #[.agg #[.int .i64 a, .int .i64 b], .pointer (some ⟨bp, 0, none⟩), .pointer (some ⟨bs, 0, none⟩), .pointer (some ⟨bl, 0, none⟩)] w fun e w' => e = .returned (.int .i64 (termLo d0 v0 long (a, b))) ∧ Below w.heap.size w w' := by
  obtain ⟨⟨m10, m11⟩, ⟨m20, m21⟩, ⟨m30, m31⟩⟩ := prod_bd hd0.1 hd0.2 hv0.1 hv0.2 hlg.1 hlg.2
  obtain ⟨p1, hp1⟩ : ∃ x, d0 * v0 = x := ⟨_, rfl⟩
  obtain ⟨t, ht⟩ : ∃ x, termLo d0 v0 long (a, b) = x := ⟨_, rfl⟩
  unfold termLo unitS at ht
  rw [hp1] at m10 m11 m20 m21 m30 m31 ht
  obtain ⟨p2, hp2⟩ : ∃ x, p1 * v0 = x := ⟨_, rfl⟩
  rw [hp2] at m20 m21 m30 m31 ht
  obtain ⟨p3, hp3⟩ : ∃ x, p2 * long = x := ⟨_, rfl⟩
  rw [hp3] at m30 m31 ht
  obtain ⟨u, hu⟩ : ∃ x, 3832031250 * b = x := ⟨_, rfl⟩
  simp only at ht
  rw [hu] at ht
  have hf := ufloor_any p3 u (by omega) (by omega) (by omega) (by omega)
  rw [ht] at hf
  have hpc := cells_of hp
  have hpl := lt_of_heap hp
  have hsc := cells_of hs
  have hsl := lt_of_heap hs
  have hlc := cells_of hl
  have hll := lt_of_heap hl
  have hu0 : 0 ≤ u := by omega
  have hu1 : u ≤ 400000000000000000 := by omega
  have ht' : termLo d0 v0 long (a, b) = t := by unfold termLo unitS; rw [hp1, hp2, hp3]; simp only; rw [hu]; exact ht
  rw [ht']
  clear hd0 hv0 hlg ht ht' hb0 hb1
  have Hhp := Lib.hid hp; clear hp; have Hhs := Lib.hid hs; clear hs; have Hhl := Lib.hid hl; clear hl
  go_enter Try.func101, Try.ntmps101
  go_wp2_with fail
  refine (hf _).mono ?_
  rintro e w1 ⟨rfl, rfl⟩
  go_wp2_with fail
  go_ret
  exact ⟨rfl, (by repeat (first | exact Below.refl _ _ | (refine bl_setCell ?_ _ _ ?_; rotate_left; focus (first | omega | (simp; done) | (simp; omega))) | refine bl_alloc ?_ _ | refine bl_step ?_ (by assumption) | refine bl_drew ?_ | refine bl_drewN ?_ _))⟩

set_option maxHeartbeats 4000000 in
set_option maxRecDepth 100000 in
theorem termhi_any (bp bs bl : Nat) (W H sz : Int) (ga : Option Addr) (n gc : Nat) (s0 s1 d0 d1 l0 l1 cell v0 v1 wide a b : Int) (w : World)
    (hp : w.heap[bp]? = some (.cells #[.int .i64 W, .int .i64 H, .int .i64 sz, .slice ga n gc, .int .i64 s0, .int .i64 s1, .int .i64 d0, .int .i64 d1, .int .i64 l0, .int .i64 l1, .int .i64 cell] 119 (0, 0)))
    (hs : w.heap[bs]? = some (.cells #[.int .i64 v0, .int .i64 v1] 122 (0, 0))) (hl : w.heap[bl]? = some (.cells #[.int .i64 wide] 3 (0, 0)))
    (hd1 : 0 ≤ d1 ∧ d1 ≤ 10000) (hv1 : 0 ≤ v1 ∧ v1 ≤ 10000) (hlg : 0 ≤ wide ∧ wide ≤ 2000000) (ha1 : a ≤ 100000000) :
    Calls Try.prog 102 #[.agg #[.int .i64 a, .int .i64 b], .pointer (some ⟨bp, 0, none⟩), .pointer (some ⟨bs, 0, none⟩), .pointer (some ⟨bl, 0, none⟩)] w fun e w' => e = .returned (.int .i64 (termHi d1 v1 wide (a, b))) ∧ Below w.heap.size w w' := by
  obtain ⟨⟨m10, m11⟩, ⟨m20, m21⟩, ⟨m30, m31⟩⟩ := prod_bd hd1.1 hd1.2 hv1.1 hv1.2 hlg.1 hlg.2
  obtain ⟨p1, hp1⟩ : ∃ x, d1 * v1 = x := ⟨_, rfl⟩
  obtain ⟨t, ht⟩ : ∃ x, termHi d1 v1 wide (a, b) = x := ⟨_, rfl⟩
  have ht' := ht
  unfold termHi unitS at ht
  rw [hp1] at m10 m11 m20 m21 m30 m31 ht
  obtain ⟨p2, hp2⟩ : ∃ x, p1 * v1 = x := ⟨_, rfl⟩
  rw [hp2] at m20 m21 m30 m31 ht
  obtain ⟨p3, hp3⟩ : ∃ x, p2 * wide = x := ⟨_, rfl⟩
  rw [hp3] at m30 m31 ht
  simp only at ht
  obtain ⟨mx, hmx⟩ : ∃ x, max 1 a = x := ⟨_, rfl⟩
  rw [hmx] at ht
  have mx0 : 1 ≤ mx := by omega
  have mx1 : mx ≤ 100000000 := by omega
  obtain ⟨u, hu⟩ : ∃ x, 3832031250 * mx = x := ⟨_, rfl⟩
  rw [hu] at ht
  have hf := uceil_any p3 u (by omega) (by omega) (by omega) (by omega)
  rw [ht] at hf
  have hpc := cells_of hp
  have hpl := lt_of_heap hp
  have hsc := cells_of hs
  have hsl := lt_of_heap hs
  have hlc := cells_of hl
  have hll := lt_of_heap hl
  have hu0 : 0 ≤ u := by omega
  have hu1 : u ≤ 400000000000000000 := by omega
  rw [ht']
  clear hd1 hv1 hlg ht ht' mx0 mx1
  have Hhp := Lib.hid hp; clear hp; have Hhs := Lib.hid hs; clear hs; have Hhl := Lib.hid hl; clear hl
  go_enter Try.func102, Try.ntmps102
  go_wp2_with fail
  refine (hf _).mono ?_
  rintro e w1 ⟨rfl, rfl⟩
  go_wp2_with fail
  go_ret
  exact ⟨rfl, (by repeat (first | exact Below.refl _ _ | (refine bl_setCell ?_ _ _ ?_; rotate_left; focus (first | omega | (simp; done) | (simp; omega))) | refine bl_alloc ?_ _ | refine bl_step ?_ (by assumption) | refine bl_drew ?_ | refine bl_drewN ?_ _))⟩
end Go.Proofs.Ytfbmjecikilghaa
namespace Go.Proofs.Ytfbmjecikilghaa
open Go.RowKit Go.Shelf
attribute [local go_sem] Oper.semAt_some

abbrev placeV (W H sz : Int) (g n cap : Nat) (s0 s1 d0 d1 l0 l1 cell : Int) : Array Value := #[.int .i64 W, .int .i64 H, .int .i64 sz, .slice (some ⟨g, 0, none⟩) n cap, .int .i64 s0, .int .i64 s1, .int .i64 d0, .int .i64 d1, .int .i64 l0, .int .i64 l1, .int .i64 cell]
/-- What the sum reads, and what it has come to. -/
structure SumM (w : World) (pc : Array Value) (bp bs bl : Nat) (v0 v1 lg : Int) (fv : Value) (tot : Int) (X : World) : Prop where
  hp : X.heap[bp]? = some (.cells pc 119 (0, 0))
  hs : X.heap[bs]? = some (.cells #[.int .i64 v0, .int .i64 v1] 122 (0, 0))
  hl : X.heap[bl]? = some (.cells #[.int .i64 lg] 3 (0, 0))
  hf : X.heap[w.heap.size]? = some (.cells #[fv] 176 (0, 0))
  hn : X.heap[w.heap.size + 1]? = some (.cells #[.int .i64 tot] 3 (0, 0))
  below : Below w.heap.size w X
theorem SumM.own {w w1 : World} (hw : w.heap.size ≤ w1.heap.size) {pc : Array Value} {bp bs bl : Nat} {v0 v1 lg : Int} {fv : Value} {α : Type} (tot : α → Int) : OwnFrom w1.heap.size (fun pre X => SumM w pc bp bs bl v0 v1 lg fv (tot pre) X) := fun _ X X' row h hg hr =>
  ⟨cells_grown hg (fun r e => (hr r e).2) h.hp, cells_grown hg (fun r e => (hr r e).2) h.hs, cells_grown hg (fun r e => (hr r e).2) h.hl, cells_grown hg (fun r e => (hr r e).2) h.hf, cells_grown hg (fun r e => (hr r e).2) h.hn,
    ownFrom_below (β := Unit) (Nat.le_refl _) hw () X X' row h.below hg hr⟩

def totLo (d0 v0 lg : Int) (xs : List (Nat × (Int × Int))) : Int := ((xs.map Prod.snd).map (termLo d0 v0 lg)).sum

theorem totLo_snoc (d0 v0 lg : Int) (xs : List (Nat × (Int × Int))) (x : Nat × (Int × Int)) : totLo d0 v0 lg (xs ++ [x]) = totLo d0 v0 lg xs + termLo d0 v0 lg x.2 := by simp [totLo]
theorem termLo_bd {d0 v0 lg : Int} (hd0 : 0 ≤ d0 ∧ d0 ≤ 10000) (hv0 : 0 ≤ v0 ∧ v0 ≤ 10000) (hlg : 0 ≤ lg ∧ lg ≤ 2000000) {d : Int × Int} (h : 1 ≤ d.2) : 0 ≤ termLo d0 v0 lg d ∧ termLo d0 v0 lg d ≤ 2000000000000000000 / 3832031250 := by
  obtain ⟨_, _, m30, m31⟩ := prod_bd hd0.1 hd0.2 hv0.1 hv0.2 hlg.1 hlg.2
  refine ⟨termLo_nn hd0.1 hv0.1 hlg.1 h, ?_⟩
  unfold termLo
  have h1 := sfloor_anti m30 (show (0 : Int) < 3832031250 by omega) (show 3832031250 ≤ unitS * d.2 by unfold unitS; omega)
  have h2 := Int.ediv_le_ediv (show (0 : Int) < 3832031250 by omega) m31
  omega
theorem totLo_bd {d0 v0 lg : Int} (hd0 : 0 ≤ d0 ∧ d0 ≤ 10000) (hv0 : 0 ≤ v0 ∧ v0 ≤ 10000) (hlg : 0 ≤ lg ∧ lg ≤ 2000000) : ∀ xs : List (Nat × (Int × Int)), (∀ x ∈ xs, 1 ≤ x.2.2) → 0 ≤ totLo d0 v0 lg xs ∧ totLo d0 v0 lg xs ≤ (xs.length : Int) * 1000000000
  | [], _ => by simp [totLo]
  | x :: xs, h => by
    have ih := totLo_bd hd0 hv0 hlg xs fun y hy => h y (by simp [hy])
    have hx := termLo_bd hd0 hv0 hlg (h x (by simp))
    have e : totLo d0 v0 lg (x :: xs) = termLo d0 v0 lg x.2 + totLo d0 v0 lg xs := by simp [totLo]
    rw [e]
    simp only [List.length_cons]
    push_cast
    omega

set_option maxHeartbeats 8000000 in
set_option maxRecDepth 100000 in
theorem rise1lo_ok (W H cell dir : Nat) (sz s0 s1 d0 d1 l0 l1 v0 v1 lg : Int) (h0 : 1 ≤ W) (h1 : W ≤ 4) (h2 : 1 ≤ H) (h3 : H ≤ 4) (hc : cell < W * H) (hd8 : dir < 8) (gr : List (Int × Int)) (g cap : Nat) (gcs : Array Value) (gf : Nat × Nat) (hR : RowAt g (.cells gcs 46 gf) gr) (hgk : ∀ u ∈ gr, gok u) (hgl : gr.length = W * H)
    (bp bd bs bl : Nat) (w : World) (hs0 : -1000000 ≤ s0 ∧ s0 ≤ 1000000) (hs1 : -1000000 ≤ s1 ∧ s1 ≤ 1000000) (hd0 : 0 ≤ d0 ∧ d0 ≤ 10000) (hv0 : 0 ≤ v0 ∧ v0 ≤ 10000) (hlg : 0 ≤ lg ∧ lg ≤ 2000000)
    (x1 : w.heap[bp]? = some (.cells (placeV W H sz g gr.length cap s0 s1 d0 d1 l0 l1 cell) 119 (0, 0))) (x2 : w.heap[bs]? = some (.cells #[.int .i64 v0, .int .i64 v1] 122 (0, 0))) (x3 : w.heap[bl]? = some (.cells #[.int .i64 lg] 3 (0, 0))) (x4 : w.heap[bd]? = some (.cells #[.int .i64 dir] 3 (0, 0)))
    (x5 : w.heap[g]? = some (.cells gcs 46 gf)) :
    Calls Try.prog 99 #[.bool true, .func (.func 101) #[] #[.pointer (some ⟨bp, 0, none⟩), .pointer (some ⟨bs, 0, none⟩), .pointer (some ⟨bl, 0, none⟩)], .pointer (some ⟨bp, 0, none⟩), .pointer (some ⟨bd, 0, none⟩)] w fun e w' =>
      e = .returned (.int .i64 (totLo d0 v0 lg (fetchX (s0, s1) (grOf gr) true (rayL W H cell dir)))) ∧ Below w.heap.size w w' := by
  have x1' : w.heap[bp]? = some (.cells #[.int .i64 W, .int .i64 H, .int .i64 sz, .slice (some ⟨g, 0, none⟩) gr.length cap, .int .i64 s0, .int .i64 s1, .int .i64 d0, .int .i64 d1, .int .i64 l0, .int .i64 l1, .int .i64 cell] 119 (0, 0)) := x1
  have y1c := cells_of x1'
  have y1l := lt_of_heap x1'
  have y4c := cells_of x4
  have y4l := lt_of_heap x4
  have hll0 := lt_of_heap x3
  have Hx1 := Lib.hid x1; clear x1; have Hx1' := Lib.hid x1'; clear x1'; have Hx2 := Lib.hid x2; clear x2; have Hx3 := Lib.hid x3; clear x3; have Hx4 := Lib.hid x4; clear x4; have Hx5 := Lib.hid x5; clear x5; have HhR := Lib.hid hR; clear hR; have Hhgk := Lib.hid hgk; clear hgk; have Hhgl := Lib.hid hgl; clear hgl
  refine (callsIn_wide (n := 6)).1 ?_
  refine callsIn_of_wp_marks Try.func99 rfl trivial ?_ rfl
  simp only [Try.ntmps99, List.size_toArray, List.length_cons, List.length_nil, Nat.reduceAdd, Nat.reduceSub, Array.replicate_succ, Array.replicate_zero, List.push_toArray, List.append_toArray, List.nil_append, List.cons_append]
  refine wpIn_wide.2 ?_
  go_wp2_with fail
  refine (fetch_any W H sz s0 s1 cell dir true _ _ _ _).mono ?_
  rintro e w1 ⟨rfl, hb1, hz1, f0, f1, f2, f3⟩
  have hbV : Below w.heap.size w w1 := (by repeat (first | exact Below.refl _ _ | (refine bl_setCell ?_ _ _ ?_; rotate_left; focus (first | omega | (simp; done) | (simp; omega))) | refine bl_alloc ?_ _ | refine bl_step ?_ (by assumption) | refine bl_drew ?_ | refine bl_drewN ?_ _))
  have q0 : w1.heap[w.heap.size]? = some (.cells #[.func (.func 101) #[] #[.pointer (some ⟨bp, 0, none⟩), .pointer (some ⟨bs, 0, none⟩), .pointer (some ⟨bl, 0, none⟩)]] 176 (0, 0)) := heap_below hb1 (by repeat (first | (refine heap_alloc_at' _ _ ?_; focus (simp; done)) | refine heap_alloc_off ?_ _))
  have q1 : w1.heap[w.heap.size + 1]? = some (.cells #[.int .i64 0] 3 (0, 0)) := heap_below hb1 (by repeat (first | (refine heap_alloc_at' _ _ ?_; focus (simp; done)) | refine heap_alloc_off ?_ _))
  obtain ⟨s, hs⟩ : ∃ k, w.heap.size + 1 + 1 = k := ⟨_, rfl⟩
  simp only [World.size_alloc] at hz1 f0 f1 f2 f3
  rw [hs] at hz1 f0 f1 f2 f3
  have hSM : SumM w (placeV W H sz g gr.length cap s0 s1 d0 d1 l0 l1 cell) bp bs bl v0 v1 lg (.func (.func 101) #[] #[.pointer (some ⟨bp, 0, none⟩), .pointer (some ⟨bs, 0, none⟩), .pointer (some ⟨bl, 0, none⟩)]) (totLo d0 v0 lg (([] : List (Fx (s0, s1) (grOf gr) true (rayL W H cell dir))).map Subtype.val)) w1 :=
    ⟨heap_below hbV Hx1.out, heap_below hbV Hx2.out, heap_below hbV Hx3.out, q0, q1, hbV⟩
  have g5 := heap_below hbV Hx5.out
  clear y1c y1l y4c y4l hb1 q0 q1
  have HhSM := Lib.hid hSM; clear hSM
  go_wp2_with fail
  refine (wpIn_wide (n := 6)).1 ?_
  refine rangeThrough rfl (by omega) (gf := 106) (lb := #[.pointer (some ⟨s, 0, none⟩), .pointer (some ⟨s + 1, 0, none⟩), .pointer (some ⟨s + 2, 0, none⟩), .pointer (some ⟨s + 3, 0, none⟩)]) rfl trivial (enters_of Try.func106 (by kernel_rfl) rfl) (fun _ => rfl)
    (fetch1_iter 5 (by omega) W H cell dir sz s0 s1 h0 h1 h2 h3 hc hd8 gr g cap gcs gf HhR.out Hhgk.out Hhgl.out true s (s + 1) (s + 2) (s + 3) (w.heap.size + 1) w1 hs0 hs1 f0 f1 f2 f3 g5 (by omega))
    (fun pre X => SumM w (placeV W H sz g gr.length cap s0 s1 d0 d1 l0 l1 cell) bp bs bl v0 v1 lg (.func (.func 101) #[] #[.pointer (some ⟨bp, 0, none⟩), .pointer (some ⟨bs, 0, none⟩), .pointer (some ⟨bl, 0, none⟩)]) (totLo d0 v0 lg (pre.map Subtype.val)) X)
    (SumM.own hbV.size _) HhSM.out ?round ?done
  case round =>
    rintro l2 pre ⟨⟨c, a, b⟩, hx1, hx2⟩ W2 K hl2 ⟨r2, hr2⟩ hM hpl hK
    have hb1 : 1 ≤ b := (over_true.1 hx2).2
    have hb9 : b ≤ 100000000 := by
      obtain ⟨c', hc', he'⟩ := List.mem_map.1 hx1
      have hlt : c' < gr.length := by rw [Hhgl.out]; have := rayF_lt _ _ _ c' hc'; exact_mod_cast this
      have hg' := Hhgk.out gr[c'] (List.getElem_mem hlt)
      have e2 : s1 - (gr.getD c' (0, 0)).1 = b := congrArg (fun z => z.2.2) he'
      rw [List.getD_eq_getElem?_getD, List.getElem?_eq_getElem hlt] at e2
      simp only [Option.getD_some] at e2
      have := hg'.2.1
      omega
    have hbd := totLo_bd hd0 hv0 hlg (pre.map Subtype.val) (fun x hx => by
      obtain ⟨y, _, rfl⟩ := List.mem_map.1 hx
      exact (over_true.1 y.2.2).2)
    have htb := termLo_bd hd0 hv0 hlg (d := (a, b)) hb1
    have hsn := totLo_snoc d0 v0 lg (pre.map Subtype.val) (c, a, b)
    rw [List.length_map] at hbd
    obtain ⟨tot, htot⟩ : ∃ x, totLo d0 v0 lg (pre.map Subtype.val) = x := ⟨_, rfl⟩
    rw [htot] at hM hbd hsn
    obtain ⟨bd0, bd1⟩ := hbd
    obtain ⟨tb0, tb1⟩ := htb
    have tot1 : tot ≤ 5000000000 := by omega
    have HM := Lib.hid hM
    have HK := Lib.hid hK
    clear hM hK
    gi_wp2_with fail
    refine HK.out _ _ ⟨by simp, fun k o _ h _ => heap_alloc_off h _⟩ fun r hr => ?_
    have hMa : SumM w (placeV W H sz g gr.length cap s0 s1 d0 d1 l0 l1 cell) bp bs bl v0 v1 lg (.func (.func 101) #[] #[.pointer (some ⟨bp, 0, none⟩), .pointer (some ⟨bs, 0, none⟩), .pointer (some ⟨bl, 0, none⟩)]) tot (W2.alloc (.cells #[.int .i64 a, .int .i64 b] 122)) :=
      ⟨heap_alloc_off HM.out.hp _, heap_alloc_off HM.out.hs _, heap_alloc_off HM.out.hl _, heap_alloc_off HM.out.hf _, heap_alloc_off HM.out.hn _, bl_alloc HM.out.below _⟩
    have hl2n : l2 < W2.heap.size := lt_of_heap hr2
    have hgr := grownBy_putObj' (W2.alloc (.cells #[.int .i64 a, .int .i64 b] 122)) l2 (.loop { r with state := .busy })
    have hMc := SumM.own (w := w) (w1 := w1) hbV.size (fun _ : Unit => tot) () _ _ _ hMa hgr (fun r' e => by cases e; exact ⟨by omega, _, hr, rfl⟩)
    have hzc : ((W2.alloc (.cells #[.int .i64 a, .int .i64 b] 122)).putObj l2 (.loop { r with state := .busy })).heap[W2.heap.size]? = some (.cells #[.int .i64 a, .int .i64 b] 122 (0, 0)) := (World.putObj_heap_other (by omega)).trans (heap_alloc_at _ _)
    have hkq : ∀ (k : Nat) (cs : Array Value) (ty : TypeId) (f : Nat × Nat), W2.heap[k]? = some (.cells cs ty f) → ((W2.alloc (.cells #[.int .i64 a, .int .i64 b] 122)).putObj l2 (.loop { r with state := .busy })).heap[k]? = some (.cells cs ty f) := fun k cs ty f h => (World.putObj_heap_other (fun e => by rw [e, hr2] at h; cases h)).trans (heap_alloc_off h _)
    have hsz : W2.heap.size + 1 = ((W2.alloc (.cells #[.int .i64 a, .int .i64 b] 122)).putObj l2 (.loop { r with state := .busy })).heap.size := by simp
    generalize (W2.alloc (.cells #[.int .i64 a, .int .i64 b] 122)).putObj l2 (.loop { r with state := .busy }) = Wc at hMc hzc hkq hsz ⊢
    obtain ⟨qd, hqd⟩ : ∃ x, W2.heap.size = x := ⟨_, rfl⟩
    rw [hqd] at hzc hsz ⊢
    have hT := fun X (hX : Below Wc.heap.size Wc X) => termlo_any bp bs bl W H sz (some ⟨g, 0, none⟩) gr.length cap s0 s1 d0 d1 l0 l1 cell v0 v1 lg a b X (heap_below hX hMc.hp) (heap_below hX hMc.hs) (heap_below hX hMc.hl) hd0 hv0 hlg hb1 hb9
    obtain ⟨tm, htm⟩ : ∃ x, termLo d0 v0 lg (a, b) = x := ⟨_, rfl⟩
    rw [htm] at hT tb0 tb1 hsn
    have tb2 : tm ≤ 1000000000 := by omega
    clear tb1
    have hnc := cells_of hMc.hn
    have hnl := lt_of_heap hMc.hn
    have hnf := frozen_of hMc.hn
    have hfc := cells_of hMc.hf
    have hfl := lt_of_heap hMc.hf
    have hzcc := cells_of hzc
    have hzl := lt_of_heap hzc
    have hnd : w.heap.size + 1 ≠ qd := by have := lt_of_heap HM.out.hn; omega
    clear hMa hgr hr
    have HhMc := Lib.hid hMc; clear hMc; have Hhzc := Lib.hid hzc; clear hzc; have Hhkq := Lib.hid hkq; clear hkq; have Hhtm := Lib.hid htm; clear htm
    gi_wp2_with fail
    have hwr : IntKind.i64.wrap (tot + tm) = tot + tm := by simp [IntKind.wrap, IntKind.bits, IntKind.signed]; omega
    have hmix : Try.prog.follows .mixedOrders = true := by kernel_rfl
    refine wpIn_mono (Q := fun e _ W3 => e = .normal ∧ ∃ w3, Below Wc.heap.size Wc w3 ∧ W3 = w3.setCell ⟨w.heap.size + 1, 0, none⟩ (.int .i64 (tot + tm))) ?_ ?_
    · gi_region_with_o (refine ⟨trivial, ?_⟩; gi_at_call 101; refine (CallsIn.inRound l2 (callsIn_wide.2 (hT _ (by repeat (first | exact Below.refl _ _ | (refine bl_setCell ?_ _ _ ?_; rotate_left; focus (first | omega | (simp; done) | (simp; omega))) | refine bl_alloc ?_ _ | refine bl_step ?_ (by assumption) | refine bl_drew ?_ | refine bl_drewN ?_ _))))).mono ?_; rintro e w3 ⟨rfl, hb3⟩; obtain ⟨_, _, _⟩ := bk (w.heap.size + 1) hb3 hnl)
      all_goals exact ⟨rfl, w3, below_mid (Below.refl Wc.heap.size Wc).drew (Nat.le_refl _) hb3, by first | rfl | rw [hwr]⟩
    · rintro e a4 W3 ⟨rfl, w3, hb3, rfl⟩
      refine ⟨rfl, ?_, ?_, ?_⟩
      · refine ⟨by have := hb3.size; simpa using this, fun k o hB hk ho => ?_⟩
        have h1 := heap_below hb3 hk
        exact heap_setCell_off h1 _ (fun e => by have := heap_below hb3 HhMc.out.hn; rw [e] at this; rw [h1] at this; cases this; cases ho)
      · have hn3 := heap_below hb3 HhMc.out.hn
        have c1 : bp ≠ w.heap.size + 1 := fun e => by have := HM.out.hp; rw [e, HM.out.hn] at this; cases this
        have c2 : bs ≠ w.heap.size + 1 := fun e => by have := HM.out.hs; rw [e, HM.out.hn] at this; cases this
        have c3 : bl < w.heap.size := hll0
        rw [List.map_append]
        simp only [List.map_cons, List.map_nil]
        rw [hsn]
        exact ⟨heap_setCell_off (heap_below hb3 HhMc.out.hp) _ (Ne.symm c1), heap_setCell_off (heap_below hb3 HhMc.out.hs) _ (Ne.symm c2), heap_setCell_off (heap_below hb3 HhMc.out.hl) _ (by omega), heap_setCell_off (heap_below hb3 HhMc.out.hf) _ (by omega), (heap_setCell_at hn3 _).trans rfl, bl_setCell (bl_step HhMc.out.below hb3) _ _ (by show _ ≤ w.heap.size + 1; omega)⟩
      · intro o
        refine ⟨by have := hb3.size; simp; omega, fun k cs ty f hk h => ?_⟩
        have hkl : k ≠ l2 := fun e => by rw [e, hr2] at h; cases h
        refine (World.putObj_heap_other hkl).trans (heap_setCell_off (heap_below hb3 (Hhkq.out k cs ty f h)) _ ?_)
        rintro rfl
        rcases hk with hk | hk
        · exact hk rfl
        · rw [HM.out.hn] at h; cases h; exact hk rfl
  case done =>
    rintro D xs X hD hS hM hK
    have hnc := cells_of hM.hn
    have hnl := lt_of_heap hM.hn
    rw [hS] at hnc
    go_wp2_with fail
    refine ⟨by simp, .inl ⟨_, _, rfl, run_takeDeferred hK, ?_⟩⟩
    have hDw : w.heap.size ≤ D := by have := hbV.size; omega
    exact ⟨_, results_tmp rfl _ _ _, rfl, hM.below.trans (belowK_b (w := w) (Nat.le_refl _) X D _ _ hDw hK rfl rfl)⟩
end Go.Proofs.Ytfbmjecikilghaa
namespace Go.Proofs.Ytfbmjecikilghaa
open Go.RowKit Go.Shelf
attribute [local go_sem] Oper.semAt_some

def totHi (d0 v0 lg : Int) (xs : List (Nat × (Int × Int))) : Int := ((xs.map Prod.snd).map (termHi d0 v0 lg)).sum

theorem totHi_snoc (d0 v0 lg : Int) (xs : List (Nat × (Int × Int))) (x : Nat × (Int × Int)) : totHi d0 v0 lg (xs ++ [x]) = totHi d0 v0 lg xs + termHi d0 v0 lg x.2 := by simp [totHi]
theorem termHi_bd {d0 v0 lg : Int} (hd0 : 0 ≤ d0 ∧ d0 ≤ 10000) (hv0 : 0 ≤ v0 ∧ v0 ≤ 10000) (hlg : 0 ≤ lg ∧ lg ≤ 2000000) {d : Int × Int} (_ : 1 ≤ d.2) : 0 ≤ termHi d0 v0 lg d ∧ termHi d0 v0 lg d ≤ 1000000000 := by
  obtain ⟨_, _, m30, m31⟩ := prod_bd hd0.1 hd0.2 hv0.1 hv0.2 hlg.1 hlg.2
  refine ⟨termHi_nn hd0.1 hv0.1 hlg.1, ?_⟩
  unfold termHi
  have h1 := sceil_anti m30 (show (0 : Int) < 3832031250 by omega) (show 3832031250 ≤ unitS * max 1 d.1 by unfold unitS; omega)
  have h2 := sceil_mono (show (0 : Int) < 3832031250 by omega) m31
  have h3 : sceil 2000000000000000000 3832031250 ≤ 1000000000 := by decide
  omega
theorem totHi_bd {d0 v0 lg : Int} (hd0 : 0 ≤ d0 ∧ d0 ≤ 10000) (hv0 : 0 ≤ v0 ∧ v0 ≤ 10000) (hlg : 0 ≤ lg ∧ lg ≤ 2000000) : ∀ xs : List (Nat × (Int × Int)), (∀ x ∈ xs, 1 ≤ x.2.2) → 0 ≤ totHi d0 v0 lg xs ∧ totHi d0 v0 lg xs ≤ (xs.length : Int) * 1000000000
  | [], _ => by simp [totHi]
  | x :: xs, h => by
    have ih := totHi_bd hd0 hv0 hlg xs fun y hy => h y (by simp [hy])
    have hx := termHi_bd hd0 hv0 hlg (h x (by simp))
    have e : totHi d0 v0 lg (x :: xs) = termHi d0 v0 lg x.2 + totHi d0 v0 lg xs := by simp [totHi]
    rw [e]
    simp only [List.length_cons]
    push_cast
    omega

set_option maxHeartbeats 8000000 in
set_option maxRecDepth 100000 in
theorem rise1hi_ok (W H cell dir : Nat) (sz s0 s1 d0 d1 l0 l1 v0 v1 lg : Int) (h0 : 1 ≤ W) (h1 : W ≤ 4) (h2 : 1 ≤ H) (h3 : H ≤ 4) (hc : cell < W * H) (hd8 : dir < 8) (gr : List (Int × Int)) (g cap : Nat) (gcs : Array Value) (gf : Nat × Nat) (hR : RowAt g (.cells gcs 46 gf) gr) (hgk : ∀ u ∈ gr, gok u) (hgl : gr.length = W * H)
    (bp bd bs bl : Nat) (w : World) (hs0 : -1000000 ≤ s0 ∧ s0 ≤ 1000000) (hs1 : -1000000 ≤ s1 ∧ s1 ≤ 1000000) (hd0 : 0 ≤ d1 ∧ d1 ≤ 10000) (hv0 : 0 ≤ v1 ∧ v1 ≤ 10000) (hlg : 0 ≤ lg ∧ lg ≤ 2000000)
    (x1 : w.heap[bp]? = some (.cells (placeV W H sz g gr.length cap s0 s1 d0 d1 l0 l1 cell) 119 (0, 0))) (x2 : w.heap[bs]? = some (.cells #[.int .i64 v0, .int .i64 v1] 122 (0, 0))) (x3 : w.heap[bl]? = some (.cells #[.int .i64 lg] 3 (0, 0))) (x4 : w.heap[bd]? = some (.cells #[.int .i64 dir] 3 (0, 0)))
    (x5 : w.heap[g]? = some (.cells gcs 46 gf)) :
    Calls Try.prog 99 #[.bool false, .func (.func 102) #[] #[.pointer (some ⟨bp, 0, none⟩), .pointer (some ⟨bs, 0, none⟩), .pointer (some ⟨bl, 0, none⟩)], .pointer (some ⟨bp, 0, none⟩), .pointer (some ⟨bd, 0, none⟩)] w fun e w' =>
      e = .returned (.int .i64 (totHi d1 v1 lg (fetchX (s0, s1) (grOf gr) false (rayL W H cell dir)))) ∧ Below w.heap.size w w' := by
  have x1' : w.heap[bp]? = some (.cells #[.int .i64 W, .int .i64 H, .int .i64 sz, .slice (some ⟨g, 0, none⟩) gr.length cap, .int .i64 s0, .int .i64 s1, .int .i64 d0, .int .i64 d1, .int .i64 l0, .int .i64 l1, .int .i64 cell] 119 (0, 0)) := x1
  have y1c := cells_of x1'
  have y1l := lt_of_heap x1'
  have y4c := cells_of x4
  have y4l := lt_of_heap x4
  have hll0 := lt_of_heap x3
  have Hx1 := Lib.hid x1; clear x1; have Hx1' := Lib.hid x1'; clear x1'; have Hx2 := Lib.hid x2; clear x2; have Hx3 := Lib.hid x3; clear x3; have Hx4 := Lib.hid x4; clear x4; have Hx5 := Lib.hid x5; clear x5; have HhR := Lib.hid hR; clear hR; have Hhgk := Lib.hid hgk; clear hgk; have Hhgl := Lib.hid hgl; clear hgl
  refine (callsIn_wide (n := 6)).1 ?_
  refine callsIn_of_wp_marks Try.func99 rfl trivial ?_ rfl
  simp only [Try.ntmps99, List.size_toArray, List.length_cons, List.length_nil, Nat.reduceAdd, Nat.reduceSub, Array.replicate_succ, Array.replicate_zero, List.push_toArray, List.append_toArray, List.nil_append, List.cons_append]
  refine wpIn_wide.2 ?_
  go_wp2_with fail
  refine (fetch_any W H sz s0 s1 cell dir false _ _ _ _).mono ?_
  rintro e w1 ⟨rfl, hb1, hz1, f0, f1, f2, f3⟩
  have hbV : Below w.heap.size w w1 := (by repeat (first | exact Below.refl _ _ | (refine bl_setCell ?_ _ _ ?_; rotate_left; focus (first | omega | (simp; done) | (simp; omega))) | refine bl_alloc ?_ _ | refine bl_step ?_ (by assumption) | refine bl_drew ?_ | refine bl_drewN ?_ _))
  have q0 : w1.heap[w.heap.size]? = some (.cells #[.func (.func 102) #[] #[.pointer (some ⟨bp, 0, none⟩), .pointer (some ⟨bs, 0, none⟩), .pointer (some ⟨bl, 0, none⟩)]] 176 (0, 0)) := heap_below hb1 (by repeat (first | (refine heap_alloc_at' _ _ ?_; focus (simp; done)) | refine heap_alloc_off ?_ _))
  have q1 : w1.heap[w.heap.size + 1]? = some (.cells #[.int .i64 0] 3 (0, 0)) := heap_below hb1 (by repeat (first | (refine heap_alloc_at' _ _ ?_; focus (simp; done)) | refine heap_alloc_off ?_ _))
  obtain ⟨s, hs⟩ : ∃ k, w.heap.size + 1 + 1 = k := ⟨_, rfl⟩
  simp only [World.size_alloc] at hz1 f0 f1 f2 f3
  rw [hs] at hz1 f0 f1 f2 f3
  have hSM : SumM w (placeV W H sz g gr.length cap s0 s1 d0 d1 l0 l1 cell) bp bs bl v0 v1 lg (.func (.func 102) #[] #[.pointer (some ⟨bp, 0, none⟩), .pointer (some ⟨bs, 0, none⟩), .pointer (some ⟨bl, 0, none⟩)]) (totHi d1 v1 lg (([] : List (Fx (s0, s1) (grOf gr) false (rayL W H cell dir))).map Subtype.val)) w1 :=
    ⟨heap_below hbV Hx1.out, heap_below hbV Hx2.out, heap_below hbV Hx3.out, q0, q1, hbV⟩
  have g5 := heap_below hbV Hx5.out
  clear y1c y1l y4c y4l hb1 q0 q1
  have HhSM := Lib.hid hSM; clear hSM
  go_wp2_with fail
  refine (wpIn_wide (n := 6)).1 ?_
  refine rangeThrough rfl (by omega) (gf := 106) (lb := #[.pointer (some ⟨s, 0, none⟩), .pointer (some ⟨s + 1, 0, none⟩), .pointer (some ⟨s + 2, 0, none⟩), .pointer (some ⟨s + 3, 0, none⟩)]) rfl trivial (enters_of Try.func106 (by kernel_rfl) rfl) (fun _ => rfl)
    (fetch1_iter 5 (by omega) W H cell dir sz s0 s1 h0 h1 h2 h3 hc hd8 gr g cap gcs gf HhR.out Hhgk.out Hhgl.out false s (s + 1) (s + 2) (s + 3) (w.heap.size + 1) w1 hs0 hs1 f0 f1 f2 f3 g5 (by omega))
    (fun pre X => SumM w (placeV W H sz g gr.length cap s0 s1 d0 d1 l0 l1 cell) bp bs bl v0 v1 lg (.func (.func 102) #[] #[.pointer (some ⟨bp, 0, none⟩), .pointer (some ⟨bs, 0, none⟩), .pointer (some ⟨bl, 0, none⟩)]) (totHi d1 v1 lg (pre.map Subtype.val)) X)
    (SumM.own hbV.size _) HhSM.out ?round ?done
  case round =>
    rintro l2 pre ⟨⟨c, a, b⟩, hx1, hx2⟩ W2 K hl2 ⟨r2, hr2⟩ hM hpl hK
    have hb1 : 1 ≤ b := over_false.1 hx2
    have ha9 : a ≤ 100000000 := by
      obtain ⟨c', hc', he'⟩ := List.mem_map.1 hx1
      have hlt : c' < gr.length := by rw [Hhgl.out]; have := rayF_lt _ _ _ c' hc'; exact_mod_cast this
      have hg' := Hhgk.out gr[c'] (List.getElem_mem hlt)
      have e2 : s0 - (gr.getD c' (0, 0)).2 = a := congrArg (fun z => z.2.1) he'
      rw [List.getD_eq_getElem?_getD, List.getElem?_eq_getElem hlt] at e2
      simp only [Option.getD_some] at e2
      have h1 := hg'.1
      have h2 := hg'.2.1
      omega
    have hbd := totHi_bd hd0 hv0 hlg (pre.map Subtype.val) (fun x hx => by
      obtain ⟨y, _, rfl⟩ := List.mem_map.1 hx
      exact over_false.1 y.2.2)
    have htb := termHi_bd hd0 hv0 hlg (d := (a, b)) hb1
    have hsn := totHi_snoc d1 v1 lg (pre.map Subtype.val) (c, a, b)
    rw [List.length_map] at hbd
    obtain ⟨tot, htot⟩ : ∃ x, totHi d1 v1 lg (pre.map Subtype.val) = x := ⟨_, rfl⟩
    rw [htot] at hM hbd hsn
    obtain ⟨bd0, bd1⟩ := hbd
    obtain ⟨tb0, tb1⟩ := htb
    have tot1 : tot ≤ 5000000000 := by omega
    have HM := Lib.hid hM
    have HK := Lib.hid hK
    clear hM hK
    gi_wp2_with fail
    refine HK.out _ _ ⟨by simp, fun k o _ h _ => heap_alloc_off h _⟩ fun r hr => ?_
    have hMa : SumM w (placeV W H sz g gr.length cap s0 s1 d0 d1 l0 l1 cell) bp bs bl v0 v1 lg (.func (.func 102) #[] #[.pointer (some ⟨bp, 0, none⟩), .pointer (some ⟨bs, 0, none⟩), .pointer (some ⟨bl, 0, none⟩)]) tot (W2.alloc (.cells #[.int .i64 a, .int .i64 b] 122)) :=
      ⟨heap_alloc_off HM.out.hp _, heap_alloc_off HM.out.hs _, heap_alloc_off HM.out.hl _, heap_alloc_off HM.out.hf _, heap_alloc_off HM.out.hn _, bl_alloc HM.out.below _⟩
    have hl2n : l2 < W2.heap.size := lt_of_heap hr2
    have hgr := grownBy_putObj' (W2.alloc (.cells #[.int .i64 a, .int .i64 b] 122)) l2 (.loop { r with state := .busy })
    have hMc := SumM.own (w := w) (w1 := w1) hbV.size (fun _ : Unit => tot) () _ _ _ hMa hgr (fun r' e => by cases e; exact ⟨by omega, _, hr, rfl⟩)
    have hzc : ((W2.alloc (.cells #[.int .i64 a, .int .i64 b] 122)).putObj l2 (.loop { r with state := .busy })).heap[W2.heap.size]? = some (.cells #[.int .i64 a, .int .i64 b] 122 (0, 0)) := (World.putObj_heap_other (by omega)).trans (heap_alloc_at _ _)
    have hkq : ∀ (k : Nat) (cs : Array Value) (ty : TypeId) (f : Nat × Nat), W2.heap[k]? = some (.cells cs ty f) → ((W2.alloc (.cells #[.int .i64 a, .int .i64 b] 122)).putObj l2 (.loop { r with state := .busy })).heap[k]? = some (.cells cs ty f) := fun k cs ty f h => (World.putObj_heap_other (fun e => by rw [e, hr2] at h; cases h)).trans (heap_alloc_off h _)
    have hsz : W2.heap.size + 1 = ((W2.alloc (.cells #[.int .i64 a, .int .i64 b] 122)).putObj l2 (.loop { r with state := .busy })).heap.size := by simp
    generalize (W2.alloc (.cells #[.int .i64 a, .int .i64 b] 122)).putObj l2 (.loop { r with state := .busy }) = Wc at hMc hzc hkq hsz ⊢
    obtain ⟨qd, hqd⟩ : ∃ x, W2.heap.size = x := ⟨_, rfl⟩
    rw [hqd] at hzc hsz ⊢
    have hT := fun X (hX : Below Wc.heap.size Wc X) => termhi_any bp bs bl W H sz (some ⟨g, 0, none⟩) gr.length cap s0 s1 d0 d1 l0 l1 cell v0 v1 lg a b X (heap_below hX hMc.hp) (heap_below hX hMc.hs) (heap_below hX hMc.hl) hd0 hv0 hlg ha9
    obtain ⟨tm, htm⟩ : ∃ x, termHi d1 v1 lg (a, b) = x := ⟨_, rfl⟩
    rw [htm] at hT tb0 tb1 hsn
    have tb2 : tm ≤ 1000000000 := by omega
    clear tb1
    have hnc := cells_of hMc.hn
    have hnl := lt_of_heap hMc.hn
    have hnf := frozen_of hMc.hn
    have hfc := cells_of hMc.hf
    have hfl := lt_of_heap hMc.hf
    have hzcc := cells_of hzc
    have hzl := lt_of_heap hzc
    have hnd : w.heap.size + 1 ≠ qd := by have := lt_of_heap HM.out.hn; omega
    clear hMa hgr hr
    have HhMc := Lib.hid hMc; clear hMc; have Hhzc := Lib.hid hzc; clear hzc; have Hhkq := Lib.hid hkq; clear hkq; have Hhtm := Lib.hid htm; clear htm
    gi_wp2_with fail
    have hwr : IntKind.i64.wrap (tot + tm) = tot + tm := by simp [IntKind.wrap, IntKind.bits, IntKind.signed]; omega
    have hmix : Try.prog.follows .mixedOrders = true := by kernel_rfl
    refine wpIn_mono (Q := fun e _ W3 => e = .normal ∧ ∃ w3, Below Wc.heap.size Wc w3 ∧ W3 = w3.setCell ⟨w.heap.size + 1, 0, none⟩ (.int .i64 (tot + tm))) ?_ ?_
    · gi_region_with_o (refine ⟨trivial, ?_⟩; gi_at_call 102; refine (CallsIn.inRound l2 (callsIn_wide.2 (hT _ (by repeat (first | exact Below.refl _ _ | (refine bl_setCell ?_ _ _ ?_; rotate_left; focus (first | omega | (simp; done) | (simp; omega))) | refine bl_alloc ?_ _ | refine bl_step ?_ (by assumption) | refine bl_drew ?_ | refine bl_drewN ?_ _))))).mono ?_; rintro e w3 ⟨rfl, hb3⟩; obtain ⟨_, _, _⟩ := bk (w.heap.size + 1) hb3 hnl)
      all_goals exact ⟨rfl, w3, below_mid (Below.refl Wc.heap.size Wc).drew (Nat.le_refl _) hb3, by first | rfl | rw [hwr]⟩
    · rintro e a4 W3 ⟨rfl, w3, hb3, rfl⟩
      refine ⟨rfl, ?_, ?_, ?_⟩
      · refine ⟨by have := hb3.size; simpa using this, fun k o hB hk ho => ?_⟩
        have h1 := heap_below hb3 hk
        exact heap_setCell_off h1 _ (fun e => by have := heap_below hb3 HhMc.out.hn; rw [e] at this; rw [h1] at this; cases this; cases ho)
      · have hn3 := heap_below hb3 HhMc.out.hn
        have c1 : bp ≠ w.heap.size + 1 := fun e => by have := HM.out.hp; rw [e, HM.out.hn] at this; cases this
        have c2 : bs ≠ w.heap.size + 1 := fun e => by have := HM.out.hs; rw [e, HM.out.hn] at this; cases this
        have c3 : bl < w.heap.size := hll0
        rw [List.map_append]
        simp only [List.map_cons, List.map_nil]
        rw [hsn]
        exact ⟨heap_setCell_off (heap_below hb3 HhMc.out.hp) _ (Ne.symm c1), heap_setCell_off (heap_below hb3 HhMc.out.hs) _ (Ne.symm c2), heap_setCell_off (heap_below hb3 HhMc.out.hl) _ (by omega), heap_setCell_off (heap_below hb3 HhMc.out.hf) _ (by omega), (heap_setCell_at hn3 _).trans rfl, bl_setCell (bl_step HhMc.out.below hb3) _ _ (by show _ ≤ w.heap.size + 1; omega)⟩
      · intro o
        refine ⟨by have := hb3.size; simp; omega, fun k cs ty f hk h => ?_⟩
        have hkl : k ≠ l2 := fun e => by rw [e, hr2] at h; cases h
        refine (World.putObj_heap_other hkl).trans (heap_setCell_off (heap_below hb3 (Hhkq.out k cs ty f h)) _ ?_)
        rintro rfl
        rcases hk with hk | hk
        · exact hk rfl
        · rw [HM.out.hn] at h; cases h; exact hk rfl
  case done =>
    rintro D xs X hD hS hM hK
    have hnc := cells_of hM.hn
    have hnl := lt_of_heap hM.hn
    rw [hS] at hnc
    go_wp2_with fail
    refine ⟨by simp, .inl ⟨_, _, rfl, run_takeDeferred hK, ?_⟩⟩
    have hDw : w.heap.size ≤ D := by have := hbV.size; omega
    exact ⟨_, results_tmp rfl _ _ _, rfl, hM.below.trans (belowK_b (w := w) (Nat.le_refl _) X D _ _ hDw hK rfl rfl)⟩
end Go.Proofs.Ytfbmjecikilghaa
