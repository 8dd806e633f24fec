/- The tide of a drawn input. -/
import Derived.Test.YtahoobhjabhfmaaWin
namespace Go.Proofs.Ytahoobhjabhfmaa
open Go.RowKit

structure U3 where
  a : Int
  b : Int
  c : Int
def U3.ok (n : Int) (x : U3) : Prop := 0 ≤ x.a ∧ x.a < n ∧ 0 ≤ x.b ∧ x.b < n ∧ 0 ≤ x.c ∧ x.c < n
def U32E (w : World) (b o : Nat) (x : U3) : Prop := w.cell? ⟨b, o, none⟩ = some (.int .u32 x.a) ∧ w.cell? ⟨b, o + 1, none⟩ = some (.int .u32 x.b) ∧ w.cell? ⟨b, o + 2, none⟩ = some (.int .u32 x.c)
theorem ek_u32 (B : Nat) : EK B U32E := fun _ _ _ _ _ hB hb ⟨h0, h1, h2⟩ => ⟨ek_cell hB hb h0, ek_cell hB hb h1, ek_cell hB hb h2⟩

def partOf (x : U3) : Part := ⟨x.a % 500, 1000000 + x.b % 50000000, x.c % 3600⟩
def pcells (l : List Part) : List Value := l.flatMap fun p => [.int .i64 p.amp, .int .i64 p.period, .int .i64 p.phase]
theorem pcells_snoc (f : List Part) (p : Part) : pcells (f ++ [p]) = pcells f ++ [.int .i64 p.amp, .int .i64 p.period, .int .i64 p.phase] := by simp [pcells]
theorem partOf_good {x : U3} (h : x.ok 4294967296) : (partOf x).good := by
  obtain ⟨h0, h1, h2, h3, h4, h5⟩ := h
  unfold partOf Part.good
  simp only
  omega

theorem info56 : (Try.prog.info? 56).map (fun i => (i.zero, i.size, i.bytes)) = some (some (.agg #[.int .i64 0, .int .i64 0, .int .i64 0]), 3, 24) := by kernel_rfl
theorem row_form' {w : World} {base n size : Nat} {e : TypeId} {v : Value} {xs : List Value} (h : w.ownsRow base e size v n xs) (hn : 0 < n) : ∃ g cap, v = .slice (some ⟨g, 0, none⟩) n cap ∧ base ≤ g ∧ g < w.heap.size := by
  rcases h.2 with ⟨_, h0⟩ | ⟨g, cap, cur, hv, hb, hg, _⟩
  · omega
  · exact ⟨g, cap, hv, hb, lt_of_heap hg⟩
theorem row_mono {w : World} {base base' n size : Nat} {e : TypeId} {v : Value} {xs : List Value} (h : w.ownsRow base e size v n xs) (hb : base' ≤ base) : w.ownsRow base' e size v n xs := by
  obtain ⟨hr1, hr2⟩ := h
  refine ⟨hr1, ?_⟩
  rcases hr2 with h | ⟨g, cap, cur, h1, h2, h3⟩
  · exact .inl h
  · exact .inr ⟨g, cap, cur, h1, by omega, h3⟩
theorem row_len {w : World} {base n size : Nat} {e : TypeId} {v : Value} {xs : List Value} (h : w.ownsRow base e size v n xs) : ∃ a cap, v = .slice a n cap := by
  rcases h.2 with ⟨hv, h0⟩ | ⟨g, cap, cur, hv, _⟩
  · exact ⟨none, 0, by rw [hv, h0]⟩
  · exact ⟨_, cap, hv⟩

theorem news3 (w : World) (a b c : Value) : ∀ j u, [a, b, c][j]? = some u → (w.alloc (.cells #[a, b, c] 56)).cell? ((⟨w.heap.size, 0, none⟩ : Addr).add j) = some u := by
  intro j u hj
  have hca := cells_of (heap_alloc_at w (.cells #[a, b, c] 56))
  rcases j with _ | _ | _ | j
  · exact (hca 0).trans hj
  · exact (hca 1).trans hj
  · exact (hca 2).trans hj
  · simp at hj

/-- Between two parts. -/
def SlackI (w : World) (mean : Int) (l : List U3) (i : Value) (wr : World) : Prop :=
  ∃ (k : Nat) (v : Value), k ≤ l.length ∧ i = .int .i64 k ∧ wr.heap[w.heap.size]? = some (.cells #[.int .i64 0, .slice none 0 0] 33 (0, 0)) ∧ wr.heap[w.heap.size + 1]? = some (.cells #[.int .i64 mean, v] 33 (0, 0)) ∧
    wr.ownsRow (w.heap.size + 2) 56 3 v k (pcells ((l.take k).map partOf)) ∧ Below w.heap.size w wr ∧ w.heap.size + 2 ≤ wr.heap.size

set_option maxHeartbeats 4000000 in
set_option maxRecDepth 100000 in
theorem slackTide_ok (mean : Int) (l : List U3) (a : Option Addr) (c B : Nat) (w : World) (hS : Sl U32E 3 B w a l) (hB : B ≤ w.heap.size) (hl : ∀ x ∈ l, x.ok 4294967296) (hn : l.length ≤ 4) (hm0 : -128 ≤ mean) (hm1 : mean ≤ 127) :
    Calls Try.prog 5 #[.int .i8 mean, .slice a l.length c] w fun e w' => ∃ v, e = .returned (.agg #[.int .i64 mean, v]) ∧ w'.ownsRow w.heap.size 56 3 v l.length (pcells (l.map partOf)) ∧ Below w.heap.size w w' := by
  have HS := Lib.hid hS
  have HL := Lib.hid hl
  clear hS hl
  go_enter Try.func5, Try.ntmps5
  go_wp2_with fail
  go_loopw [13] (fun i wr => SlackI w mean l i wr) (fun i _ => l.length - (intOf i).toNat)
  case atStart =>
    exact ⟨0, _, Nat.zero_le _, rfl, heap_alloc_off (heap_alloc_at' _ _ rfl) _, heap_alloc_at' _ _ (by simp), World.ownsRow_nil _ _ _ _, (by repeat (first | exact Below.refl _ _ | (refine bl_setCell ?_ _ _ ?_; rotate_left; focus (first | omega | (simp; done) | (simp; omega))) | refine bl_alloc ?_ _ | refine bl_step ?_ (by assumption) | refine bl_drew ?_ | refine bl_drewN ?_ _)), by simp⟩
  case round =>
    obtain ⟨k, v, hk, rfl, x0, x1, hrow, hb, hsz⟩ := hrel
    have x0c := cells_of x0
    have x0f := frozen_of x0
    have x1c := cells_of x1
    have x1f := frozen_of x1
    have x0l := lt_of_heap x0
    have x1l := lt_of_heap x1
    by_cases hlt : k < l.length
    · obtain ⟨b, off, rfl, hbB, he⟩ := (HS.out.below (ek_u32 B) (hb.mono hB)).2 k hlt
      have hg := HL.out l[k] (List.getElem_mem hlt)
      have hsn : (l.take (k + 1)).map partOf = (l.take k).map partOf ++ [partOf l[k]] := by rw [List.take_succ_eq_append_getElem hlt, List.map_append]; rfl
      obtain ⟨x, hx⟩ : ∃ x, l[k] = x := ⟨_, rfl⟩
      rw [hx] at he hg hsn
      obtain ⟨e0, e1, e2⟩ := he
      obtain ⟨g0, g1, g2, g3, g4, g5⟩ := hg
      obtain ⟨i0, hinf, hz0, hz1, hz2⟩ := info_parts info56
      have hbw : b < wr.heap.size := by have := hb.size; omega
      have hmax : k + 1 ≤ maxLen := by unfold maxLen; omega
      have hlt0 := fun g (hg : v.ownBlock = some g) => (hrow.lt g hg).1
      have Hhx := Lib.hid hx; clear hx; have Hhsn := Lib.hid hsn; clear hsn; have Hhb := Lib.hid hb; clear hb; have Hx0 := Lib.hid x0; clear x0; have Hx1 := Lib.hid x1; clear x1
      have hnews := news3 (wr.alloc (.cells #[.int .u32 x.a, .int .u32 x.b, .int .u32 x.c] 57)) (.int .i64 (x.a % 500)) (.int .i64 (1000000 + x.b % 50000000)) (.int .i64 (x.c % 3600))
      rw [World.size_alloc] at hnews
      go_wp2_with (at_builtin; refine wpList_append_own _ rfl _ _ 31 rfl (w.heap.size + 2) 56 i0 (.agg #[.int .i64 0, .int .i64 0, .int .i64 0]) 3 24 Try.underlying31 hinf hz0 hz1 hz2 rfl (by decide) _ _ _ rfl ((hrow.alloc _).alloc _) ⟨wr.heap.size + 1, 0, none⟩ 1 1 [.int .i64 (x.a % 500), .int .i64 (1000000 + x.b % 50000000), .int .i64 (x.c % 3600)] rfl rfl hnews (by simp [Value.oneCell']) (by omega) (by omega) (by simp; omega) ?_; intro v' w4 hown' hgrow _; obtain ⟨g', cap', rfl⟩ := ownsRow_succ hown'; replace hgrow : ((wr.alloc (.cells #[.int .u32 x.a, .int .u32 x.b, .int .u32 x.c] 57)).alloc (.cells #[.int .i64 (x.a % 500), .int .i64 (1000000 + x.b % 50000000), .int .i64 (x.c % 3600)] 56)).grownBy w4 v.ownBlock := hgrow; have n0 : some w.heap.size ≠ v.ownBlock := (fun h => by have := hlt0 _ h.symm; omega); have n1 : some (w.heap.size + 1) ≠ v.ownBlock := (fun h => by have := hlt0 _ h.symm; omega); have k0 := (hgrow.block w.heap.size (by simp; omega) n0).trans (heap_alloc_off (heap_alloc_off Hx0.out _) _); have k1 := (hgrow.block (w.heap.size + 1) (by simp; omega) n1).trans (heap_alloc_off (heap_alloc_off Hx1.out _) _); have hb4 : Below w.heap.size w w4 := (bl_alloc (bl_alloc Hhb.out _) _).grown hgrow (by simp; omega) (fun k hk => by have := hlt0 k hk; omega); have hs4 : wr.heap.size + 2 ≤ w4.heap.size := (by have := hgrow.size; simpa using this); have k1c := cells_of k1; have k1f := frozen_of k1; have k1l := lt_of_heap k1; clear x0c x0f x1c x1f e0 e1 e2 hnews; have Hk0 := Lib.hid k0; clear k0; have Hk1 := Lib.hid k1; clear k1; have Hhb4 := Lib.hid hb4; clear hb4; have Hown := Lib.hid hown'; clear hown' hgrow n0 n1)
      refine ⟨⟨k + 1, _, by omega, by go_num, heap_setCell_off Hk0.out _ (by omega), (heap_setCell_at Hk1.out _).trans rfl, ?_, bl_setCell Hhb4.out _ _ (by show _ ≤ w.heap.size + 1; omega), by simp; omega⟩, by simp [intOf]; omega⟩
      rw [Hhsn.out, pcells_snoc]
      exact ownsRow_setCell_below Hown.out (by show w.heap.size + 1 < w.heap.size + 2; omega) _
    · obtain rfl : k = l.length := by omega
      rw [List.take_length] at hrow
      obtain ⟨av, cv, rfl⟩ := row_len hrow
      have HR := Lib.hid hrow
      clear hrow
      have Hx0 := Lib.hid x0; clear x0; have Hx1 := Lib.hid x1; clear x1; have Hhb := Lib.hid hb; clear hb
      go_wp2_with fail
      ((try simp only [Exit.inBlock, Exit.then]); refine bodyPost_ret (v := .agg #[.int .i64 mean, .slice av l.length cv]) (by simp [results, Try.results5, go_sem, *]) rfl ?_)
      refine ⟨_, rfl, row_mono (ownsRow_setCell_below (ownsRow_setCell_below HR.out (by show w.heap.size < w.heap.size + 2; omega) _) (by show w.heap.size < w.heap.size + 2; omega) _) (by omega), ?_⟩
      exact bl_setCell (bl_setCell Hhb.out _ _ (Nat.le_refl _)) _ _ (Nat.le_refl _)
end Go.Proofs.Ytahoobhjabhfmaa
