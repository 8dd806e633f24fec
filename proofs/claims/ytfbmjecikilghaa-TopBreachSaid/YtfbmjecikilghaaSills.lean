/- grid: the search for sills. -/
import Derived.Test.YtfbmjecikilghaaSillD
import Derived.Test.YtfbmjecikilghaaAround
import Derived.Test.YtfbmjecikilghaaTake
import Derived.Test.YtfbmjecikilghaaRep
import Derived.Laws.EntriesVeiled
import Derived.Deep.LoopGhost
import Derived.Test.YtfbmjecikilghaaMarks
namespace Go.Proofs.Ytfbmjecikilghaa
open Go.RowKit Go.Shelf
attribute [local go_sem] Oper.semAt_some

abbrev Nb (wd ht c : Nat) := { d : Nat // d ∈ nbrs wd ht c }

theorem around_stops (n : Nat) (hn : 1 ≤ n) (b1 b2 wd ht c : Nat) (sz : Int) (a : Option Addr) (gn cap : Nat) (h0 : 1 ≤ wd) (h1 : wd ≤ 4) (h2 : 1 ≤ ht) (h3 : ht ≤ 4) (hc : c < wd * ht) (w : World)
    (x1 : w.heap[b1]? = some (.cells #[.int .i64 c] 3 (0, 0))) (x2 : w.heap[b2]? = some (.cells #[.int .i64 wd, .int .i64 ht, .int .i64 sz, .slice a gn cap] 36 (0, 0))) :
    SeqStopsK Fence.wide n Try.prog 90 #[.pointer (some ⟨b1, 0, none⟩), .pointer (some ⟨b2, 0, none⟩)] (fun x : Nb wd ht c => #[.int .i64 (x.1 : Nat)]) (KpA b1 b2) (fun ys => ys.map Subtype.val = nbrs wd ht c) (fun _ => True) 4 w := fun l J Jx W hW hJ _ hY hj0 => by
  refine (around1_in Fence.wide n trivial rfl hn l b1 b2 wd ht c sz a gn cap h0 h1 h2 h3 hc (fun pre W => ∃ ys : List (Nb wd ht c), ys.map Subtype.val = pre ∧ J ys W) (fun pre W => ∃ ys : List (Nb wd ht c), ys.map Subtype.val = pre ∧ Jx ys W) W
    (fun pre W W' row ⟨ys, hy, hj⟩ hg hr => ⟨ys, hy, hJ ys W W' row hj hg hr⟩) ?_ ((hW.block b1 (lt_of_heap x1)).trans x1) ((hW.block b2 (lt_of_heap x2)).trans x2) ⟨[], rfl, hj0⟩).mono ?_
  · rintro pre x W1 ⟨ys, rfl, hj⟩ hx hlen
    obtain ⟨fn, tmps, assign, body, hy, hR⟩ := hY ys ⟨x, hx⟩ W1 hj (by simpa using hlen)
    refine ⟨fn, tmps, assign, body, hy, hR.mono fun e W' h => ?_⟩
    rcases h with ⟨he, hj', hk⟩ | ⟨he, hj'⟩
    · exact .inl ⟨he, ⟨ys ++ [⟨x, hx⟩], by simp, hj'⟩, hk⟩
    · exact .inr ⟨he, ⟨ys ++ [⟨x, hx⟩], by simp, hj'⟩⟩
  · rintro e W' ⟨hv, ⟨ys, rfl, zs, hz, hj⟩ | ⟨pre, _, zs, _, hj⟩⟩
    · exact ⟨hv, .inl ⟨zs, hz, hj⟩⟩
    · exact ⟨hv, .inr ⟨zs, trivial, hj⟩⟩

abbrev reachF (q5 q7 q8 : Nat) : Value := .func (.func 72) #[] #[.pointer (some ⟨q5, 0, none⟩), .pointer (some ⟨q7, 0, none⟩), .pointer (some ⟨q8, 0, none⟩)]

/-- The memory of the search. -/
structure SillM (w : World) (qe qg q7 q8 q9 go cap : Nat) (gcs : Array Value) (out : List Int) (vh : Value) (lp : List (Int × Int)) (W : World) : Prop where
  reach : ReachM w.heap.size qe qg (w.heap.size + 1) q7 q8 go cap out vh lp W
  grid : W.heap[w.heap.size]? = some (.cells gcs 36 (0, 0))
  fn : Boxed W q9 144 (reachF (w.heap.size + 1) q7 q8)
  below : Below w.heap.size w W
  q8 : w.heap.size ≤ q8

theorem SillM.below' {w : World} {qe qg q7 q8 q9 go cap : Nat} {gcs : Array Value} {out : List Int} {vh : Value} {lp : List (Int × Int)} {W W' : World} (k : SillM w qe qg q7 q8 q9 go cap gcs out vh lp W) (hb : Below W.heap.size W W') : SillM w qe qg q7 q8 q9 go cap gcs out vh lp W' :=
  ⟨k.reach.below hb, heap_below hb k.grid, heap_below hb k.fn, bl_step k.below hb, k.q8⟩
/-- A block that is no cells is none of those that a call may write. -/
theorem SillM.apart {w : World} {qe qg q7 q8 q9 go cap : Nat} {gcs : Array Value} {out : List Int} {vh : Value} {lp : List (Int × Int)} {W : World} (k : SillM w qe qg q7 q8 q9 go cap gcs out vh lp W) {D : Nat} {o : Obj} (hD : W.heap[D]? = some o) (ho : o.isCells = false) :
    ¬ D ∈ go :: q8 :: vh.ownBlock.toList := by
  intro hm
  rcases List.mem_cons.1 hm with e | hm
  · obtain ⟨cs, hc⟩ := row_block k.reach.row
    subst e; rw [hc] at hD; cases hD; cases ho
  · rcases List.mem_cons.1 hm with e | hm
    · subst e; rw [k.reach.heap.box] at hD; cases hD; cases ho
    · rcases k.reach.heap.row.2 with ⟨e, _⟩ | ⟨g, c, cur, e, _, hg, _⟩
      · rw [e] at hm; simp [Value.ownBlock] at hm
      · rw [e] at hm
        obtain rfl : D = g := by simpa [Value.ownBlock] using hm
        rw [hg] at hD; cases hD; cases ho
theorem KpA_of {w : World} {qe qg q7 q8 q9 go cap : Nat} {gcs : Array Value} {out : List Int} {vh : Value} {lp : List (Int × Int)} {W W' : World} (k : SillM w qe qg q7 q8 q9 go cap gcs out vh lp W) (hK : Keeps (go :: q8 :: vh.ownBlock.toList) W W') {b1 b2 : Nat} {c1 c2 : Array Value}
    (y1 : W.heap[b1]? = some (.cells c1 3 (0, 0))) (y2 : W.heap[b2]? = some (.cells c2 36 (0, 0))) (hb1 : b1 ≠ go) : KpA b1 b2 W W' := by
  obtain ⟨cs, hc⟩ := row_block k.reach.row
  have e8 := k.reach.heap.box
  have nin : ∀ {q : Nat} {c : Array Value} {t : TypeId}, W.heap[q]? = some (.cells c t (0, 0)) → (t ≠ 3 ∨ q ≠ go) → t ≠ 141 → t ≠ 137 → ¬ q ∈ go :: q8 :: vh.ownBlock.toList := by
    intro q c t hq h3 h8 ho hm
    rcases List.mem_cons.1 hm with e | hm
    · rcases h3 with h3 | h3
      · subst e; rw [hq] at hc; simp only [Option.some.injEq, Obj.cells.injEq] at hc; exact h3 hc.2.1
      · exact h3 e
    · rcases List.mem_cons.1 hm with e | hm
      · subst e; rw [hq] at e8; simp only [Option.some.injEq, Obj.cells.injEq] at e8; exact h8 e8.2.1
      · exact cells_not_row hq ho k.reach.heap.row (by simpa using hm)
  exact ⟨hK.size, hK.block b1 (lt_of_heap y1) (nin y1 (.inr hb1) (by decide) (by decide)), hK.block b2 (lt_of_heap y2) (nin y2 (.inl (by decide)) (by decide) (by decide)),
    fun q cs hq => hK.heap hq (nin hq (.inl (by decide)) (by decide) (by decide))⟩
theorem SillM.step {w : World} {qe qg q7 q8 q9 go cap : Nat} {gcs : Array Value} {out out' : List Int} {vh vh' : Value} {lp lp' : List (Int × Int)} {W W' : World} (k : SillM w qe qg q7 q8 q9 go cap gcs out vh lp W)
    (hR : ReachM w.heap.size qe qg (w.heap.size + 1) q7 q8 go cap out' vh' lp' W') (hK : Keeps (go :: q8 :: vh.ownBlock.toList) W W') : SillM w qe qg q7 q8 q9 go cap gcs out' vh' lp' W' := by
  obtain ⟨cs, hc⟩ := row_block k.reach.row
  have e8 := k.reach.heap.box
  have nin : ∀ {q : Nat} {c : Array Value} {t : TypeId}, W.heap[q]? = some (.cells c t (0, 0)) → t ≠ 3 → t ≠ 141 → t ≠ 137 → ¬ q ∈ go :: q8 :: vh.ownBlock.toList := by
    intro q c t hq h3 h8 ho hm
    rcases List.mem_cons.1 hm with e | hm
    · subst e; rw [hq] at hc; simp only [Option.some.injEq, Obj.cells.injEq] at hc; exact h3 hc.2.1
    · rcases List.mem_cons.1 hm with e | hm
      · subst e; rw [hq] at e8; simp only [Option.some.injEq, Obj.cells.injEq] at e8; exact h8 e8.2.1
      · exact cells_not_row hq ho k.reach.heap.row (by simpa using hm)
  refine ⟨hR, hK.heap k.grid (nin k.grid (by decide) (by decide) (by decide)), hK.heap k.fn (nin (show W.heap[q9]? = _ from k.fn) (by decide) (by decide) (by decide)), ?_, k.q8⟩
  refine k.below.trans (hK.below k.below.size fun i hi => ?_)
  rcases List.mem_cons.1 hi with rfl | hi
  · exact (k.reach.row.lt _ rfl).1
  · rcases List.mem_cons.1 hi with rfl | hi
    · exact k.q8
    · exact (k.reach.heap.row.lt i (by simpa using hi)).1

def SeaI (w : World) (qe qg q7 q8 q9 go cap : Nat) (gcs : Array Value) (wd ht : Nat) (sea : List Int) (h : Nat → Int) (i : Value) (wr : World) : Prop :=
  ∃ (k : Nat) (out : List Int) (vh : Value) (lp : List (Int × Int)), k ≤ sea.length ∧ i = .int .i64 k ∧ SillM w qe qg q7 q8 q9 go cap gcs out vh lp wr ∧ GI wd ht (sea.map Int.toNat) h out lp (fun _ _ => False) ∧
    ∀ j, j < k → ∀ (hj : j < sea.length), out.getD (sea[j]).toNat 0 ≤ h (sea[j]).toNat
def MainG (w : World) (qe qg q7 q8 q9 go cap : Nat) (gcs : Array Value) (wd ht : Nat) (sea : List Int) (h : Nat → Int) (n : Nat) (Ds : List Nat) (wr : World) : Prop :=
  ∃ (out : List Int) (vh : Value) (lp : List (Int × Int)), SillM w qe qg q7 q8 q9 go cap gcs out vh lp wr ∧ GI wd ht (sea.map Int.toNat) h out lp (fun _ _ => False) ∧
    (∀ c ∈ sea, out.getD c.toNat 0 ≤ h c.toNat) ∧ n = 2 * tot out + lp.length ∧ Ds.Nodup ∧ ∀ D ∈ Ds, w.heap.size ≤ D ∧ wr.heap[D]? = some (.deferred (some []))
def MainI (w : World) (qe qg q7 q8 q9 go cap : Nat) (gcs : Array Value) (wd ht : Nat) (sea : List Int) (h : Nat → Int) (wr : World) : Prop :=
  ∃ (out : List Int) (vh : Value) (lp : List (Int × Int)), SillM w qe qg q7 q8 q9 go cap gcs out vh lp wr ∧ GI wd ht (sea.map Int.toNat) h out lp (fun _ _ => False) ∧
    ∀ c ∈ sea, out.getD c.toNat 0 ≤ h c.toNat

theorem SillM.start {w w2 : World} {qe qg go cap N : Nat} {gcs : Array Value} (hrow : w2.ownsRow w.heap.size 3 1 (.slice (some ⟨go, 0, none⟩) N cap) N (List.replicate N (.int .i64 1073741824)))
    (z5 : w2.heap[w.heap.size + 1]? = some (.cells #[hgtF qe qg] 113 (0, 0))) (z3 : w2.heap[w.heap.size]? = some (.cells gcs 36 (0, 0))) (hb : Below w.heap.size w w2) (hsz : w.heap.size ≤ w2.heap.size) :
    SillM w qe qg w2.heap.size (w2.heap.size + 1) (w2.heap.size + 1 + 1) go cap gcs (List.replicate N 1073741824) (.slice none 0 0) [] (((w2.alloc (.cells #[.slice (some ⟨go, 0, none⟩) N cap] 44)).alloc (.cells #[.slice none 0 0, heapF] 141)).alloc (.cells #[reachF (w.heap.size + 1) w2.heap.size (w2.heap.size + 1)] 144)) := by
  have hr : (w2.ownsRow w.heap.size 3 1 (.slice (some ⟨go, 0, none⟩) N cap) N (ints (List.replicate N 1073741824))) := by
    rw [ints, List.map_replicate]; exact hrow
  refine ⟨⟨heap_alloc_off (heap_alloc_off (heap_alloc_off z5 _) _) _, ?_, ?_, ?_⟩, heap_alloc_off (heap_alloc_off (heap_alloc_off z3 _) _) _, heap_alloc_at' _ _ (by simp), bl_alloc (bl_alloc (bl_alloc hb _) _) _, by omega⟩
  · rw [List.length_replicate]; exact heap_alloc_off (heap_alloc_off (heap_alloc_at _ _) _) _
  · rw [List.length_replicate]; exact ((hr.alloc _).alloc _).alloc _
  · exact ⟨heap_alloc_off (heap_alloc_at' _ _ (by simp)) _, World.ownsRow_nil _ _ _ _⟩
theorem GI.len {wd ht : Nat} {sea : List Nat} {h : Nat → Int} {out : List Int} {lp : List (Int × Int)} {ex : Nat → Int → Prop} (k : GI wd ht sea h out lp ex) : lp.length < 68719476736 := by have := k.few; omega
theorem max_none {a : Int} (h : -1200000 ≤ a) : max a (-1073741824) = a := by omega
theorem row_mono0 {w w2 : World} {go cap N : Nat} {xs : List Value} {b : Nat} (h : w2.ownsRow b 3 1 (.slice (some ⟨go, 0, none⟩) N cap) N xs) (hb : w.heap.size ≤ b) : w2.ownsRow w.heap.size 3 1 (.slice (some ⟨go, 0, none⟩) N cap) N xs := row_mono h hb
/-- A cell of the sea has been reached. -/
theorem sea_step {wd ht : Nat} {sea : List Int} {h : Nat → Int} {out out' : List Int} {lp lp' : List (Int × Int)} {vh vh' : Value} {k : Nat} (hk : k < sea.length) (hG : GI wd ht (sea.map Int.toNat) h out lp (fun _ _ => False)) (hb : ∀ c, c < wd * ht → -1200000 ≤ h c ∧ h c ≤ 1200000)
    (hc : 0 ≤ sea[k] ∧ (sea[k]).toNat < wd * ht) (hdone : ∀ j, j < k → ∀ (hj : j < sea.length), out.getD (sea[j]).toNat 0 ≤ h (sea[j]).toNat)
    (hO : (h (sea[k]).toNat < out.getD (sea[k]).toNat 0 ∧ out' = out.set (sea[k]).toNat (h (sea[k]).toNat) ∧ lp'.Perm ((sea[k], h (sea[k]).toNat) :: lp)) ∨ (out.getD (sea[k]).toNat 0 ≤ h (sea[k]).toNat ∧ out' = out ∧ lp' = lp ∧ vh' = vh)) :
    GI wd ht (sea.map Int.toNat) h out' lp' (fun _ _ => False) ∧ ∀ j, j < k + 1 → ∀ (hj : j < sea.length), out'.getD (sea[j]).toNat 0 ≤ h (sea[j]).toNat := by
  have hRd : Reached (sea[k]) (h (sea[k]).toNat) out lp out' lp' := by
    rcases hO with h | h
    · exact .inl h
    · exact .inr ⟨h.1, h.2.1, h.2.2.1⟩
  have hrr : Reach wd ht (sea.map Int.toNat) h (sea[k]).toNat (h (sea[k]).toNat) := .sea _ (List.mem_map_of_mem (List.getElem_mem hk))
  obtain ⟨hG5, hle5, hmono5, _, _⟩ := hG.reach hc.1 hc.2 hrr (by have := hb _ hc.2; omega) hRd
  refine ⟨hG5, fun j hj hjl => ?_⟩
  by_cases hjk : j < k
  · exact Int.le_trans (hmono5 _) (hdone j hjk hjl)
  · obtain rfl : j = k := by omega
    exact hle5

/-- While the neighbors of a cell are reached. -/
def RoundI (w : World) (qe qg q7 q8 q9 go cap : Nat) (gcs : Array Value) (wd ht : Nat) (sea : List Int) (h : Nat → Int) (M0 : Nat) (Ds : List Nat) (qx b1 b2 c : Nat) (s : Int) (pre : List (Nb wd ht c)) (W : World) : Prop :=
  ∃ (out : List Int) (vh : Value) (lp : List (Int × Int)), SillM w qe qg q7 q8 q9 go cap gcs out vh lp W ∧ GI wd ht (sea.map Int.toNat) h out lp (fun c' v => c' = c ∧ v = s) ∧ (∀ c ∈ sea, out.getD c.toNat 0 ≤ h c.toNat) ∧
    (∀ d ∈ pre, out.getD d.1 0 ≤ max (h d.1) s) ∧ 2 * tot out + lp.length ≤ M0 ∧ W.heap[qx]? = some (.cells #[.int .i64 c, .int .i64 s] 137 (0, 0)) ∧ vh.ownBlock ≠ some qx ∧ (∀ D ∈ Ds, W.heap[D]? = some (.deferred (some []))) ∧
    W.heap[b1]? = some (.cells #[.int .i64 c] 3 (0, 0)) ∧ W.heap[b2]? = some (.cells gcs 36 (0, 0))
theorem roundI_own {w w5 : World} {qe qg q7 q8 q9 go cap : Nat} {gcs : Array Value} {wd ht : Nat} {sea : List Int} {h : Nat → Int} {M0 : Nat} {Ds : List Nat} {qx b1 b2 c : Nat} {s : Int} (hw : w.heap.size ≤ w5.heap.size) (hDs : ∀ D ∈ Ds, D < w5.heap.size) :
    OwnFrom w5.heap.size (RoundI w qe qg q7 q8 q9 go cap gcs wd ht sea h M0 Ds qx b1 b2 c s) := by
  rintro pre W W' row ⟨out, vh, lp, hM, hG, hs, hd, hm, hx, hv, hD, y1, y2⟩ hg hr
  have ck : ∀ {b : Nat} {cs : Array Value} {t : TypeId}, W.heap[b]? = some (.cells cs t (0, 0)) → W'.heap[b]? = some (.cells cs t (0, 0)) := fun {b cs t} hb => (hg.block _ (lt_of_heap hb) (fun e => by
    obtain ⟨_, o, ho, hc⟩ := hr _ e.symm
    rw [hb] at ho; cases ho; cases hc)).trans hb
  have rk : ∀ {base n size : Nat} {e : TypeId} {v : Value} {xs : List Value}, W.ownsRow base e size v n xs → W'.ownsRow base e size v n xs := fun {base n size e v xs} hrow => row_same hrow fun g hgv => by
    rcases hrow.2 with ⟨e', _⟩ | ⟨g', c', cur, e', _, hgg, _⟩
    · rw [e'] at hgv; cases hgv
    · rw [e'] at hgv
      obtain rfl : g' = g := by simpa [Value.ownBlock] using hgv
      exact (ck hgg).trans hgg.symm
  refine ⟨out, vh, lp, ⟨⟨ck hM.reach.hgt, ck hM.reach.box, rk hM.reach.row, ⟨ck hM.reach.heap.box, rk hM.reach.heap.row⟩⟩, ck hM.grid, ck hM.fn, ownFrom_below (β := Unit) (Nat.le_refl _) hw () W W' row hM.below hg hr, hM.q8⟩, hG, hs, hd, hm, ck hx, hv, fun D hDm => ?_, ck y1, ck y2⟩
  exact (hg.block D (lt_of_heap (hD D hDm)) (fun e => by have := (hr D e.symm).1; have := hDs D hDm; omega)).trans (hD D hDm)

set_option maxHeartbeats 8000000 in
set_option maxRecDepth 100000 in
theorem sills_ok (B qe qg : Nat) (_F : Value) (w : World) (wd ht : Nat) (sz : Int) (ga : Option Addr) (gcap : Nat) (gr : List (Int × Int)) (sa : Option Addr) (scap : Nat) (sea : List Int) (h : Nat → Int)
    (hS : Sl IntE 1 B w sa sea) (hB : B ≤ w.heap.size) (w1 : 1 ≤ wd) (w4 : wd ≤ 4) (h1 : 1 ≤ ht) (h4 : ht ≤ 4) (hg : gr.length = wd * ht) (hse : ∀ c ∈ sea, 0 ≤ c ∧ c.toNat < wd * ht)
    (hh : ∀ W, Below w.heap.size w W → ∀ c : Int, 0 ≤ c → c.toNat < wd * ht → Calls Try.prog 49 #[.int .i64 c, .pointer (some ⟨qe, 0, none⟩), .pointer (some ⟨qg, 0, none⟩)] W fun e w' => e = .returned (.tuple #[.int .i64 (h c.toNat), .bool true]) ∧ Below W.heap.size W w')
    (hb : ∀ c, c < wd * ht → -1200000 ≤ h c ∧ h c ≤ 1200000) :
    Calls Try.prog 48 #[.agg #[.int .i64 wd, .int .i64 ht, .int .i64 sz, .slice ga gr.length gcap], .slice sa sea.length scap, hgtF qe qg] w fun e w' =>
      ∃ v out, e = .returned v ∧ SillOk wd ht (sea.map Int.toNat) h out ∧ w'.ownsRow w.heap.size 3 1 v out.length (ints out) ∧ Below w.heap.size w w' := by
  obtain ⟨N, hN⟩ : ∃ N, wd * ht = N := ⟨_, rfl⟩
  have hN1 : 1 ≤ N := by rw [← hN]; exact Nat.mul_le_mul w1 h1
  have hN2 : N ≤ 16 := by rw [← hN]; exact Nat.mul_le_mul w4 h4
  have hgN : gr.length = N := by rw [hg, hN]
  refine (callsIn_wide (n := 6)).1 ?_
  refine callsIn_of_wp_marks Try.func48 rfl trivial ?_ rfl
  simp only [Try.ntmps48, List.size_toArray, List.length_cons, List.length_nil, Nat.reduceAdd, Nat.reduceSub, Array.replicate_succ, Array.replicate_zero, List.push_toArray, List.append_toArray, List.nil_append, List.cons_append]
  refine wpIn_wide.2 ?_
  rw [hgN]
  have hsl := hS.1
  have HS := Lib.hid hS
  have HH := Lib.hid hh
  have HB := Lib.hid hb
  have HE := Lib.hid hse
  clear hS hh hb hse
  have HhN := Lib.hid hN; clear hN; have Hhg := Lib.hid hg; clear hg; have HhgN := Lib.hid hgN; clear hgN
  go_wp2_with fail
  refine (repeat_ok N hN1 (by omega) 1073741824 (w.heap.size + 1 + 1) 0 1 _ (by rw [cells_of (heap_alloc_at' _ _ (by simp))]; rfl)).mono ?_
  rintro e w2 ⟨v, rfl, hrow, hb2⟩
  obtain ⟨go, cap, rfl, hgo1, hgo2⟩ := hrow.form hN1
  have z3 : w2.heap[w.heap.size]? = some (.cells #[.int .i64 wd, .int .i64 ht, .int .i64 sz, .slice ga N gcap] 36 (0, 0)) := heap_below hb2 (by repeat (first | (refine heap_alloc_at' _ _ ?_; focus (simp; done)) | refine heap_alloc_off ?_ _))
  have z5 : w2.heap[w.heap.size + 1]? = some (.cells #[hgtF qe qg] 113 (0, 0)) := heap_below hb2 (by repeat (first | (refine heap_alloc_at' _ _ ?_; focus (simp; done)) | refine heap_alloc_off ?_ _))
  have hbw2 : Below w.heap.size w w2 := (by repeat (first | exact Below.refl _ _ | (refine bl_setCell ?_ _ _ ?_; rotate_left; focus (first | omega | (simp; done) | (simp; omega))) | refine bl_alloc ?_ _ | refine bl_step ?_ (by assumption) | refine bl_drew ?_ | refine bl_drewN ?_ _))
  simp only [World.size_alloc] at hgo1
  have hsz2 := hb2.size
  simp only [World.size_alloc] at hsz2
  clear hb2
  have Hz3 := Lib.hid z3; clear z3; have Hz5 := Lib.hid z5; clear z5; have Hhbw2 := Lib.hid hbw2; clear hbw2; have Hhrow := Lib.hid hrow; clear hrow
  go_wp2_with fail
  have hM0 := SillM.start (gcs := #[.int .i64 wd, .int .i64 ht, .int .i64 sz, .slice ga N gcap]) (row_mono0 Hhrow.out (by simp; omega)) Hz5.out Hz3.out Hhbw2.out (by omega)
  generalize (((w2.alloc (.cells #[.slice (some ⟨go, 0, none⟩) N cap] 44)).alloc (.cells #[.slice none 0 0, heapF] 141)).alloc (.cells #[reachF (w.heap.size + 1) w2.heap.size (w2.heap.size + 1)] 144)) = w3 at hM0 ⊢
  generalize w2.heap.size = z at hM0 hgo2 hsz2 ⊢
  have hG0 := GI.start (sea.map Int.toNat) h (wd := wd) (ht := ht) (by rw [HhN.out]; exact hN2)
  rw [HhN.out] at hG0
  clear Hz3 Hz5 Hhbw2 Hhrow
  have HhM0 := Lib.hid hM0; clear hM0; have HhG0 := Lib.hid hG0; clear hG0
  go_loopw [23] (fun i wr => SeaI w qe qg z (z + 1) (z + 1 + 1) go cap #[.int .i64 wd, .int .i64 ht, .int .i64 sz, .slice ga N gcap] wd ht sea h i wr) (fun i _ => sea.length - (intOf i).toNat)
  case atStart => exact ⟨0, _, _, _, Nat.zero_le _, rfl, HhM0.out, HhG0.out, fun j hj => by omega⟩
  case round =>
    obtain ⟨k, out, vh, lp, hk, rfl, hM, hG, hdone⟩ := hrel
    have hol : out.length = N := hG.wi.len.trans HhN.out
    have hbx := hM.reach.heap.box
    have fnc := hM.fn.cell
    have fnl := hM.fn.lt
    by_cases hlt : k < sea.length
    · obtain ⟨b, off, rfl, hbB, he⟩ := (HS.out.below (ek_int B) (hM.below.mono hB)).2 k hlt
      have hcr := HE.out sea[k] (List.getElem_mem hlt)
      obtain ⟨c, hc⟩ : ∃ c, sea[k] = c := ⟨_, rfl⟩
      rw [hc] at he hcr
      obtain ⟨hc0, hc1⟩ := hcr
      have he' : wr.cell? ⟨b, off + k * 1, none⟩ = some (.int .i64 c) := he
      rw [Nat.mul_one] at he'
      have hhb := HB.out c.toNat hc1
      have hr := reach_ok w.heap.size qe qg (w.heap.size + 1) z (z + 1) go cap out vh lp c (-1073741824) (h c.toNat) wr hM.reach hc0 (by have := HhN.out; omega) hM.below.size hG.len
        (fun W hW => HH.out W (hM.below.trans (hW.mono hM.below.size)) c hc0 hc1)
      have hmx : max (h c.toNat) (-1073741824) = h c.toNat := max_none hhb.1
      rw [hmx] at hr
      clear he
      have HhM := Lib.hid hM; clear hM; have HhG := Lib.hid hG; clear hG; have Hhdone := Lib.hid hdone; clear hdone; have Hhbx := Lib.hid hbx; clear hbx; have Hhc := Lib.hid hc; clear hc; have Hhhb := Lib.hid hhb; clear hhb; have Hhmx := Lib.hid hmx; clear hmx; have Hhol := Lib.hid hol; clear hol; have Hhc1 := Lib.hid hc1; clear hc1
      go_wp2_with fail
      refine hr.mono ?_
      rintro e w5 ⟨⟨_, rfl⟩, out', vh', lp', hR5, hK5, _, hO5⟩
      have hM5 := HhM.out.step hR5 hK5
      rw [← Hhc.out] at hO5
      obtain ⟨hG5, hd5⟩ := sea_step hlt HhG.out HB.out (HE.out _ (List.getElem_mem hlt)) Hhdone.out hO5
      clear hr hR5 hK5 hO5
      have HhM5 := Lib.hid hM5; clear hM5; have HhG5 := Lib.hid hG5; clear hG5; have Hhd5 := Lib.hid hd5; clear hd5
      go_wp2_with fail
      exact ⟨⟨k + 1, out', vh', lp', by omega, by go_num, HhM5.out, HhG5.out, Hhd5.out⟩, by simp only [intOf]; omega⟩
    · obtain rfl : k = sea.length := by omega
      have hMI : MainI w qe qg z (z + 1) (z + 1 + 1) go cap #[.int .i64 wd, .int .i64 ht, .int .i64 sz, .slice ga N gcap] wd ht sea h wr := ⟨out, vh, lp, hM, hG, fun c hc => by
        obtain ⟨j, hj, rfl⟩ := List.getElem_of_mem hc
        exact hdone j hj hj⟩
      clear hM hG hdone hol hbx fnc fnl
      have HhMI := Lib.hid hMI; clear hMI
      go_wp2_with fail
      refine wp_loop_ghost_k (fun n a W => ∃ (u12 u13 u31 u32 u33 u34 u35 u36 u37 u38 u39 u40 u41 u42 u43 u44 u45 : Value) (Ds : List Nat), a = { tmps := #[.agg #[.int .i64 wd, .int .i64 ht, .int .i64 sz, .slice ga N gcap], .slice sa sea.length scap, hgtF qe qg, .pointer (some ⟨w.heap.size, 0, none⟩), undef, .pointer (some ⟨w.heap.size + 1, 0, none⟩), .slice none 0 0, .pointer (some ⟨z, 0, none⟩), .pointer (some ⟨z + 1, 0, none⟩), .pointer (some ⟨z + 1 + 1, 0, none⟩), undef, u11, u12, u13, .slice (some ⟨w.heap.size + 1 + 1, 0, none⟩) 1 1, .pointer (some ⟨w.heap.size, 3, none⟩), .slice ga N gcap, .int .i64 N, .slice (some ⟨go, 0, none⟩) N cap, .agg #[.slice none 0 0, heapF], reachF (w.heap.size + 1) z (z + 1), .slice sa sea.length scap, .int .i64 sea.length, .int .i64 sea.length, .bool false, u25, u26, u27, u28, u29, u30, u31, u32, u33, u34, u35, u36, u37, u38, u39, u40, u41, u42, u43, u44, u45, undef], defers := Ds.map markOf } ∧ MainG w qe qg z (z + 1) (z + 1 + 1) go cap #[.int .i64 wd, .int .i64 ht, .int .i64 sz, .slice ga N gcap] wd ht sea h n Ds W) (searchLeft go (z + 1) N wr) ?_ ?_
      · obtain ⟨out, vh, lp, hM, hG, hdone⟩ := HhMI.out
        exact ⟨_, _, _, _, _, _, _, _, _, _, _, _, _, _, _, _, _, [], rfl, out, vh, lp, hM, hG, hdone, (searchLeft_eq hM.reach (hG.wi.len.trans HhN.out)), by simp, by simp⟩
      · rintro n a W ⟨u12, u13, u31, u32, u33, u34, u35, u36, u37, u38, u39, u40, u41, u42, u43, u44, u45, Ds, rfl, out, vh, lp, hM, hG, hdone, hn, hnd, hds⟩ J K hJ hK
        have hol : out.length = N := hG.wi.len.trans HhN.out
        have hbx := hM.reach.heap.box
        have hbxc := cells_of hbx
        have hbxl := lt_of_heap hbx
        obtain ⟨av, cv, rfl⟩ := row_len hM.reach.heap.row
        have ll : (lp.length : Int) < 100000000000 := by have := hG.len; omega
        by_cases h0 : lp.length = 0
        · obtain rfl := List.eq_nil_of_length_eq_zero h0
          have hb7 := hM.reach.box.cell
          have hb7l := hM.reach.box.lt
          have hS2 := hG.sill (fun c hc => by
            obtain ⟨c', hc', rfl⟩ := List.mem_map.1 hc
            exact hdone c' hc')
          clear hJ hK
          have HhM := Lib.hid hM; clear hM; have HhG := Lib.hid hG; clear hG; have Hhdone := Lib.hid hdone; clear hdone; have Hhbx := Lib.hid hbx; clear hbx; have Hhol := Lib.hid hol; clear hol; have HhS2 := Lib.hid hS2; clear hS2; have Hhn := Lib.hid hn; clear hn; have Hhnd := Lib.hid hnd; clear hnd; have Hhds := Lib.hid hds; clear hds
          go_wp2_with fail
          refine leaves_marks Ds W Hhnd.out (fun D hD => (Hhds.out D hD).2) (fun w' hw' => ⟨_, results_tmp rfl _ _ _, _, out, rfl, HhS2.out, ?_, ?_⟩)
          · refine row_same HhM.out.reach.row fun g hg => hw'.block g (fun hm => ?_)
            obtain rfl : go = g := by simpa [Value.ownBlock] using hg
            obtain ⟨cs, hc⟩ := row_block HhM.out.reach.row
            have := (Hhds.out go hm).2
            rw [hc] at this
            cases this
          · refine HhM.out.below.trans ⟨hw'.os, hw'.tape, hw'.output, by rw [hw'.size]; exact Nat.le_refl _, fun k hk => hw'.block k (fun hm => ?_)⟩
            have := (Hhds.out k hm).1
            omega
        · obtain ⟨x, lt, rfl⟩ : ∃ x lt, lp = x :: lt := by
            cases lp with
            | nil => exact absurd rfl h0
            | cons x lt => exact ⟨x, lt, rfl⟩
          obtain ⟨cI, s⟩ := x
          obtain ⟨hc0, hcn, hreach, _⟩ := hG.pop (List.Perm.refl _)
          obtain ⟨c, rfl⟩ := Int.eq_ofNat_of_zero_le hc0
          simp only [Int.toNat_natCast] at hcn hreach
          have htk := take_ok w.heap.size (z + 1) _ ((c : Int), s) lt W hM.reach.heap (by have := hG.len; simp at this; omega)
          rw [List.length_cons] at hbxc
          clear h0
          have HhM := Lib.hid hM; clear hM; have HhG := Lib.hid hG; clear hG; have Hhdone := Lib.hid hdone; clear hdone; have Hhbx := Lib.hid hbx; clear hbx; have Hhol := Lib.hid hol; clear hol; have Hhn := Lib.hid hn; clear hn; have Hhnd := Lib.hid hnd; clear hnd; have Hhds := Lib.hid hds; clear hds; have HhJ := Lib.hid hJ; clear hJ; have Hhreach := Lib.hid hreach; clear hreach
          go_wp2_with fail
          refine htk.mono ?_
          rintro e w4 ⟨rfl, vh', lp', hp4, hH4, hK4, hO4⟩
          have hM4 : SillM w qe qg z (z + 1) (z + 1 + 1) go cap #[.int .i64 wd, .int .i64 ht, .int .i64 sz, .slice ga N gcap] out vh' lp' w4 := HhM.out.step (HhM.out.reach.putted hH4 hK4) (hK4.mono (fun i hi => List.mem_cons_of_mem _ hi))
          obtain ⟨_, _, _, hG4⟩ := HhG.out.pop (List.Perm.cons _ hp4.symm)
          simp only [Int.toNat_natCast] at hG4
          have hds4 : ∀ D ∈ Ds, w.heap.size ≤ D ∧ w4.heap[D]? = some (.deferred (some [])) := fun D hD => ⟨(Hhds.out D hD).1, hK4.heap (Hhds.out D hD).2 (fun hm => HhM.out.apart (Hhds.out D hD).2 rfl (List.mem_cons_of_mem _ hm))⟩
          have hlen4 := hp4.length_eq
          have hgc := cells_of hM4.grid
          have hgl := lt_of_heap hM4.grid
          have hfc := hM4.fn.cell
          have hfl := hM4.fn.lt
          clear htk hH4 hK4 hO4 hbxc
          have HhM4 := Lib.hid hM4; clear hM4; have HhG4 := Lib.hid hG4; clear hG4; have Hhds4 := Lib.hid hds4; clear hds4; have Hhlen4 := Lib.hid hlen4; clear hlen4; have Hhp4 := Lib.hid hp4; clear hp4
          go_wp2_with fail
          refine (around_any wd ht sz c ga N gcap _).mono ?_
          rintro e w5 ⟨rfl, hb5, hz5, k1, k2⟩
          simp only [World.size_alloc] at hb5 hz5 k1 k2 ⊢
          obtain ⟨qx, hqx⟩ : ∃ qx, w4.heap.size = qx := ⟨_, rfl⟩
          have hbx5 : Below w4.heap.size w4 w5 := bl_step (bl_alloc (Below.refl _ _) (.cells #[.int .i64 c, .int .i64 s] 137)) (by rw [World.size_alloc]; exact hb5)
          have hM5 := HhM4.out.below' hbx5
          have hds5 : ∀ D ∈ Ds, w.heap.size ≤ D ∧ w5.heap[D]? = some (.deferred (some [])) := fun D hD => ⟨(Hhds4.out D hD).1, heap_below hbx5 (Hhds4.out D hD).2⟩
          have hx5 : w5.heap[qx]? = some (.cells #[.int .i64 c, .int .i64 s] 137 (0, 0)) := by rw [← hqx]; exact heap_below (by rw [World.size_alloc]; exact hb5) (heap_alloc_at _ _)
          have hv5 : vh'.ownBlock ≠ some qx := fun e => by have := (HhM4.out.reach.heap.row.lt _ e).2; omega
          rw [hqx] at hz5 k1 k2 ⊢
          clear hgc hfc hb5 hbx5
          have HhM5 := Lib.hid hM5; clear hM5; have Hhds5 := Lib.hid hds5; clear hds5; have Hhx5 := Lib.hid hx5; clear hx5; have Hhv5 := Lib.hid hv5; clear hv5; have Hk1 := Lib.hid k1; clear k1; have Hk2 := Lib.hid k2; clear k2; have Hhz5 := Lib.hid hz5; clear hz5; have Hhqx := Lib.hid hqx; clear hqx
          go_wp2_with fail
          have hx1 := Hk2.out
          have hx2 := Hk1.out
          have hDl : ∀ D ∈ Ds, D < w5.heap.size := fun D hD => lt_of_heap (Hhds5.out D hD).2
          have hws : w.heap.size ≤ w5.heap.size := HhM5.out.below.size
          have hnb := fun d => nbrs_iff (d := d) w1 ‹wd ≤ 4› h1 h4 hcn
          have HNB := Lib.hid hnb
          clear hnb
          refine (wpIn_wide (n := 6)).1 ?_
          refine wpIn_rangeFunc_ownH rfl (by omega) (gf := 90) (lb := #[.pointer (some ⟨qx + 1 + 1, 0, none⟩), .pointer (some ⟨qx + 1, 0, none⟩)]) rfl trivial (enters_of Try.func90 (by kernel_rfl) rfl)
            (around_stops _ (by omega) (qx + 1 + 1) (qx + 1) wd ht c sz ga N gcap w1 ‹wd ≤ 4› h1 h4 hcn w5 hx1 hx2) kpA_t (kpA_b (lt_of_heap hx1) (lt_of_heap hx2)) (Below.refl _ _) (fun _ => rfl)
            (RoundI w qe qg z (z + 1) (z + 1 + 1) go cap #[.int .i64 wd, .int .i64 ht, .int .i64 sz, .slice ga N gcap] wd ht sea h (2 * tot out + lp'.length) Ds qx (qx + 1 + 1) (qx + 1) c s) (fun _ _ _ => False)
            (roundI_own hws hDl)
            (fun _ _ _ _ _ hs _ _ => hs)
            ⟨out, vh', lp', HhM5.out, HhG4.out, Hhdone.out, by simp, Nat.le_refl _, Hhx5.out, Hhv5.out, fun D hD => (Hhds5.out D hD).2, hx1, hx2⟩
            (fun x a' _ => a' = { tmps := #[.agg #[.int .i64 wd, .int .i64 ht, .int .i64 sz, .slice ga N gcap], .slice sa sea.length scap, hgtF qe qg, .pointer (some ⟨w.heap.size, 0, none⟩), undef, .pointer (some ⟨w.heap.size + 1, 0, none⟩), .slice none 0 0, .pointer (some ⟨z, 0, none⟩), .pointer (some ⟨z + 1, 0, none⟩), .pointer (some ⟨z + 1 + 1, 0, none⟩), undef, u11, .pointer (some ⟨qx, 0, none⟩), .int .i64 (x.1 : Nat), .slice (some ⟨w.heap.size + 1 + 1, 0, none⟩) 1 1, .pointer (some ⟨w.heap.size, 3, none⟩), .slice ga N gcap, .int .i64 N, .slice (some ⟨go, 0, none⟩) N cap, .agg #[.slice none 0 0, heapF], reachF (w.heap.size + 1) z (z + 1), .slice sa sea.length scap, .int .i64 sea.length, .int .i64 sea.length, .bool false, u25, u26, u27, u28, u29, u30, .pointer (some ⟨z + 1, 0, none⟩), .slice av (lt.length + 1) cv, .int .i64 (lt.length + 1), .bool true, .agg #[.int .i64 c, .int .i64 s], .agg #[.int .i64 wd, .int .i64 ht, .int .i64 sz, .slice ga N gcap], .pointer (some ⟨qx, 0, none⟩), .int .i64 c, .func (.func 90) #[] #[.pointer (some ⟨qx + 1 + 1, 0, none⟩), .pointer (some ⟨qx + 1, 0, none⟩)], .int .i64 (x.1 : Nat), u41, u42, u43, u44, u45, undef], defers := [] })
            (fun x a' _ X Y row hs hg hr => hs)
            ?assign ?body ?done ?stop
          case assign =>
            intro l2 pre x W2 K2 hi2 hK2
            have HK2 := Lib.hid hK2
            have HI2 := Lib.hid hi2
            clear hK2 hi2 hK
            gi_wp2
            exact HK2.out _ _ ((KeepsOthers.refl _).from _) ⟨Nat.le_refl _, rfl, rfl, fun _ _ h => h⟩ HI2.out rfl
          case body =>
            rintro l2 pre ⟨d, hdn⟩ a' W2 hl2 ⟨r2, hr2⟩ ⟨out2, vh2, lp2, hM2, hG2, hs2, hd2, hm2, hx2', hv2, hD2, y1, y2⟩ rfl hpl
            have hnd' := (HNB.out d).1 hdn
            have hdl : d < wd * ht := hnd'.1
            have hxc := cells_of hx2'
            have hxl := lt_of_heap hx2'
            have hfc := hM2.fn.cell
            have hfl := hM2.fn.lt
            have hol2 : out2.length = N := hG2.wi.len.trans HhN.out
            have hr3 := reach_ok w.heap.size qe qg (w.heap.size + 1) z (z + 1) go cap out2 vh2 lp2 d s (h d) W2 hM2.reach (by omega) (by have := HhN.out; omega) hM2.below.size hG2.len
              (fun W hW => by have := HH.out W (hM2.below.trans (hW.mono hM2.below.size)) d (by omega) (by simpa using hdl); simpa using this)
            have HR := Lib.hid hr3
            clear hr3 hK
            have HhM2 := Lib.hid hM2; clear hM2; have HhG2 := Lib.hid hG2; clear hG2; have Hhs2 := Lib.hid hs2; clear hs2; have Hhd2 := Lib.hid hd2; clear hd2; have Hhm2 := Lib.hid hm2; clear hm2; have Hhx2' := Lib.hid hx2'; clear hx2'; have Hhv2 := Lib.hid hv2; clear hv2; have HhD2 := Lib.hid hD2; clear hD2; have Hy1 := Lib.hid y1; clear y1; have Hy2 := Lib.hid y2; clear y2; have Hhnd' := Lib.hid hnd'; clear hnd'; have Hhol2 := Lib.hid hol2; clear hol2
            gi_wp2_with (refine ⟨trivial, ?_⟩; gi_at_call 72; refine (CallsIn.inRound l2 (callsIn_wide.2 HR.out)).mono ?_; rintro e w6 ⟨⟨_, rfl⟩, out6, vh6, lp6, hR6, hK6, hO6, hC6⟩)
            have hM6 := HhM2.out.step hR6 hK6
            have hRd : Reached d (max (h d) s) out2 lp2 out6 lp6 := by
              rcases hC6 with h | h
              · exact .inl h
              · exact .inr ⟨h.1, h.2.1, h.2.2.1⟩
            have hbd := HB.out d hdl
            obtain ⟨hG6, hle6, hmono6, hmeas6, _⟩ := HhG2.out.reach (c := (d : Int)) (by omega) (by simpa using hdl) (by simpa using Reach.step c d s Hhreach.out Hhnd'.out) (by omega) hRd
            simp only [Int.toNat_natCast] at hle6
            have hqz : z + 1 + 1 < qx := by have := HhM4.out.fn.lt; have := Hhqx.out; omega
            have hkp := KpA_of HhM2.out hK6 Hy1.out Hy2.out (b1 := qx + 1 + 1) (by omega)
            have hqx2 : ¬ qx ∈ go :: (z + 1) :: vh2.ownBlock.toList := fun hm => by
              rcases List.mem_cons.1 hm with e | hm
              · omega
              · rcases List.mem_cons.1 hm with e | hm
                · omega
                · exact Hhv2.out (by simpa using hm)
            refine ⟨(show KeepsOthers W2 w6 from ⟨hK6.size, fun k o hk ho => hK6.heap hk (HhM2.out.apart hk ho)⟩).from _, hkp, ?_⟩
            refine ⟨out6, vh6, lp6, hM6, hG6, fun c hc => Int.le_trans (hmono6 _) (Hhs2.out c hc), fun d' hd' => ?_, Nat.le_trans hmeas6 Hhm2.out, hK6.heap Hhx2'.out hqx2, ?_, fun D hD => hK6.heap (HhD2.out D hD) (HhM2.out.apart (HhD2.out D hD) rfl), hkp.k1.trans Hy1.out, hkp.k2.trans Hy2.out⟩
            · rcases List.mem_append.1 hd' with hd' | hd'
              · exact Int.le_trans (hmono6 _) (Hhd2.out d' hd')
              · obtain rfl := List.mem_singleton.1 hd'
                exact hle6
            · rcases hO6 with h | ⟨g, h, hg⟩
              · rw [h]; exact Hhv2.out
              · rw [h]; intro e
                have : g = qx := by simpa using e
                omega
          case done =>
            rintro D ys W2 hD2 hys ⟨out2, vh2, lp2, hM2, hG2, hs2, hd2, hm2, hx2', hv2, hDs2, y1, y2⟩ hKD
            simp only [Exit.inBlock, Exit.then]
            have hn' := Hhn.out
            have hl4 := Hhlen4.out
            simp only [List.length_cons] at hn'
            refine hK _ _ (Handed.intro (2 * tot out2 + lp2.length) (by omega) (HhJ.out _ _ _ ⟨_, _, _, _, _, _, _, _, _, _, _, _, _, _, _, _, _, D :: Ds, rfl, out2, vh2, lp2, hM2, hG2.done (fun d hd => ?_), hs2, rfl, List.nodup_cons.2 ⟨fun hm => by have := hDl D hm; omega, Hhnd.out⟩, fun E hE => ?_⟩))
            · have := (HNB.out d).2 hd
              rw [← hys] at this
              obtain ⟨x, hx, rfl⟩ := List.mem_map.1 this
              exact hd2 x hx
            · rcases List.mem_cons.1 hE with rfl | hE
              · exact ⟨by omega, hKD⟩
              · exact ⟨(Hhds.out E hE).1, hDs2 E hE⟩
          case stop =>
            rintro D c pre W _ _ h _
            exact h.elim
end Go.Proofs.Ytfbmjecikilghaa
