/-
  For every input TopCalm returns true, and the input reads behind the call as it read before. No condition.
-/
import Derived.Test.YtahoobhjabhfmaaRows
import Derived.Test.YtahoobhjabhfmaaOpen
import Derived.Test.YtahoobhjabhfmaaCalmH
import Derived.Test.YtahoobhjabhfmaaCalm
import Derived.WalkKit
import Derived.ProofKit
import Derived.OpenShut
import Derived.Below
namespace Go.Proofs.Ytahoobhjabhfmaa
open Go.ChangeShapes Go.WideShapes Go.ChangeAt Go.RowKit

theorem own : ownKnob Try.prog.godebug = none := by kernel_rfl
theorem laidOut : laidOutB Try.prog = true := by kernel_rfl

theorem u3ok (k : IntKind) (n : Int) (hk : ∀ z, (Lit.int k z).wf = true → 0 ≤ z ∧ z < n) {l : List U3} (h : ∀ x ∈ l, (Lit.int k x.a).wf = true ∧ (Lit.int k x.b).wf = true ∧ (Lit.int k x.c).wf = true) : ∀ x ∈ l, x.ok n := fun x hx => by
  obtain ⟨w0, w1, w2⟩ := h x hx
  have h0 := hk _ w0
  have h1 := hk _ w1
  have h2 := hk _ w2
  exact ⟨h0.1, h0.2, h1.1, h1.2, h2.1, h2.2⟩

/-- What is told of the argument: its cells. -/
def IsArg (w : World) (v : Value) : Prop :=
  ∃ (m f g lv b0 b1 : Int) (ps ss : List U3) (a1 a5 : Option Addr) (c1 c5 : Nat),
    v = .agg #[.int .i8 m, .slice a1 ps.length c1, .int .u32 f, .int .u32 g, .int .i16 lv, .slice a5 ss.length c5, .int .u32 b0, .int .u32 b1] ∧
    ps.length ≤ 9223372036854775807 ∧ ss.length ≤ 9223372036854775807 ∧
    (∀ j (hj : j < ps.length), ∃ b off, a1 = some ⟨b, off, none⟩ ∧ b < w.heap.size ∧ w.cell? ⟨b, off + j * 3, none⟩ = some (.int .u32 ps[j].a) ∧ w.cell? ⟨b, off + j * 3 + 1, none⟩ = some (.int .u32 ps[j].b) ∧ w.cell? ⟨b, off + j * 3 + 2, none⟩ = some (.int .u32 ps[j].c)) ∧
    (∀ j (hj : j < ss.length), ∃ b off, a5 = some ⟨b, off, none⟩ ∧ b < w.heap.size ∧ w.cell? ⟨b, off + j * 3, none⟩ = some (.int .u16 ss[j].a) ∧ w.cell? ⟨b, off + j * 3 + 1, none⟩ = some (.int .u16 ss[j].b) ∧ w.cell? ⟨b, off + j * 3 + 2, none⟩ = some (.int .u16 ss[j].c)) ∧
    (∀ x ∈ ps, x.ok 4294967296) ∧ (∀ x ∈ ss, x.ok 65536) ∧ (-128 ≤ m ∧ m ≤ 127) ∧ (0 ≤ f ∧ f < 4294967296) ∧ (0 ≤ g ∧ g < 4294967296) ∧ (-32768 ≤ lv ∧ lv ≤ 32767) ∧ (0 ≤ b0 ∧ b0 < 4294967296) ∧ (0 ≤ b1 ∧ b1 < 4294967296)

theorem walk (v : Value) (w : World) (h : IsArg w v) : Calls Try.prog 3 #[v] w fun e w' => e = .returned (.bool true) ∧ Below w.heap.size w w' := by
  obtain ⟨m, f, g, lv, b0, b1, ps, ss, a1, a5, c1, c5, rfl, hl1, hl5, h1, h5, hp, hq, hm, hf, hg, hlv, hb0, hb1⟩ := h
  by_cases hn : 4 < ps.length ∨ 8 < ss.length
  · exact topCalm_many m f g lv b0 b1 ps ss a1 a5 c1 c5 w hl1 hl5 hn
  · exact topCalm_ok m f g lv b0 b1 ps ss a1 a5 c1 c5 w.heap.size w (Nat.le_refl _) ⟨by omega, fun k hk => h1 k hk⟩ ⟨by omega, fun k hk => h5 k hk⟩ (by omega) (by omega) hp hq hm hf hg hlv hb0 hb1

section
variable {H : Type} {enc : TypeId × Value → H} {w : World} {base : Nat} {spare : Nat → Bool} {held : Bool}
set_option maxRecDepth 100000 in
theorem open_arg {r : Reach} {b0 : Nat} {v : Value} {d : DataW H} {p : List MemPlace} (hv : Value.okWide Try.prog w r b0 29 v) (h : DataW.Trod enc Try.prog w base spare held 29 v d p) : IsArg w v := by
  obtain ⟨cs, rfl, hsz⟩ := okWide_struct Try.underlying29 hv
  obtain ⟨l⟩ := cs
  have hC : Try.prog.cellsOf 29 = 8 := by kernel_rfl
  match l, hsz.trans hC with
  | [c0, c1, c2, c3, c4, c5, c6, c7], _ =>
    obtain ⟨fuel, hf⟩ := h
    obtain ⟨xs, n, _, _, _, hlen, hg⟩ := DataW.trod_struct Try.underlying29 hf
    match xs, hlen with
    | [y0, y1, y2, y3, y4, y5, y6], _ =>
      have k22 : Try.prog.cellsOf 22 = 1 := by kernel_rfl
      have k23 : Try.prog.cellsOf 23 = 1 := by kernel_rfl
      have k24 : Try.prog.cellsOf 24 = 1 := by kernel_rfl
      have k25 : Try.prog.cellsOf 25 = 1 := by kernel_rfl
      have k26 : Try.prog.cellsOf 26 = 1 := by kernel_rfl
      have k27 : Try.prog.cellsOf 27 = 2 := by kernel_rfl
      have g0 : DataW.trod enc Try.prog w base spare held n 22 [c0] = some y0 := by simpa [Value.cells, k22] using hg 0 _ rfl
      have g1 : DataW.trod enc Try.prog w base spare held n 23 [c1] = some y1 := by simpa [Value.cells, k23] using hg 1 _ rfl
      have g2 : DataW.trod enc Try.prog w base spare held n 24 [c2] = some y2 := by simpa [Value.cells, k24] using hg 2 _ rfl
      have g3 : DataW.trod enc Try.prog w base spare held n 24 [c3] = some y3 := by simpa [Value.cells, k24] using hg 3 _ rfl
      have g4 : DataW.trod enc Try.prog w base spare held n 25 [c4] = some y4 := by simpa [Value.cells, k25] using hg 4 _ rfl
      have g5 : DataW.trod enc Try.prog w base spare held n 26 [c5] = some y5 := by simpa [Value.cells, k26] using hg 5 _ rfl
      have g6 : DataW.trod enc Try.prog w base spare held n 27 [c6, c7] = some y6 := by simpa [Value.cells, k27] using hg 6 _ rfl
      clear hg hf
      obtain ⟨m, e0, _, w0⟩ := DataW.trod_int Try.underlying22 g0
      obtain ⟨a1, cap1, ps, e1, hl1, hc1, hw1⟩ := open_slice3 (k := .u32) Try.underlying23 Try.underlying57 Try.underlying24 k24 (by kernel_rfl) g1
      obtain ⟨f, e2, _, w2⟩ := DataW.trod_int Try.underlying24 g2
      obtain ⟨g, e3, _, w3⟩ := DataW.trod_int Try.underlying24 g3
      obtain ⟨lv, e4, _, w4⟩ := DataW.trod_int Try.underlying25 g4
      obtain ⟨a5, cap5, ss, e5, hl5, hc5, hw5⟩ := open_slice3 (k := .u16) Try.underlying26 Try.underlying44 Try.underlying43 (by kernel_rfl) (by kernel_rfl) g5
      obtain ⟨zs, n6, _, _, _, hz6, hat6⟩ := DataW.trod_array Try.underlying27 g6
      match zs, hz6 with
      | [z0, z1], _ =>
        have q0 := hat6 0 (by omega)
        have q1 := hat6 1 (by omega)
        simp [k24] at q0 q1
        obtain ⟨bb0, e6, _, w6⟩ := DataW.trod_int Try.underlying24 q0
        obtain ⟨bb1, e7, _, w7⟩ := DataW.trod_int Try.underlying24 q1
        simp only [List.cons.injEq, and_true] at e0 e1 e2 e3 e4 e5 e6 e7
        subst e0 e1 e2 e3 e4 e5 e6 e7
        have u32 : ∀ z, (Lit.int .u32 z).wf = true → 0 ≤ z ∧ z < 4294967296 := fun z hz => by have := bounds_u32 hz; omega
        have u16 : ∀ z, (Lit.int .u16 z).wf = true → 0 ≤ z ∧ z < 65536 := fun z hz => by have := bounds_u16 hz; omega
        exact ⟨m, f, g, lv, bb0, bb1, ps, ss, a1, a5, cap1, cap5, rfl, hl1, hl5, hc1, hc5, u3ok .u32 _ u32 hw1, u3ok .u16 _ u16 hw5, bounds_i8 w0, u32 _ w2, u32 _ w3, bounds_i16 w4, u32 _ w6, u32 _ w7⟩
end

/-! ### The row's step -/
set_option maxRecDepth 100000 in
theorem lifted (os : Os) (started : os.Started) (H : Type) (enc : TypeId × Value → H) :
    ReturnsInHanded {} Try.checked os 3 .any (Rows.topCalmSpec.pre6 enc Try.prog Try.f3 Rows.topCalmRow.domain false) (Rows.topCalmSpec.post enc Try.prog Try.f3 false true false false) := by
  refine returnsInHanded_of_change (C := Try.checked) own started (by kernel_rfl) Try.func3
    (ChangeSpec.witness6 (enc := enc) (C := Try.checked) false ⟨#[], #[.agg #[.int .i8 0, .slice none 0 0, .int .u32 0, .int .u32 0, .int .i16 0, .slice none 0 0, .int .u32 0, .int .u32 0]], []⟩ 8 (by kernel_rfl) (by kernel_rfl) (by kernel_rfl) (by kernel_rfl)) ?_
  intro W base args ds gs before hval0 hW hcnd _
  have hval : ∀ (j : Nat) t v, Try.f3.params[j]? = some t → args[j]? = some v → Value.okWide Try.prog W .any base t v := hval0
  have hW' := hW
  obtain ⟨p, q, hA0, hV, rfl, hfz, hnd⟩ := hW
  have hA : DataW.TrodAll enc Try.prog W 0 (fun _ => true) true Try.f3.params.toList args.toList ds p := hA0
  rw [Try.params3] at hA hval
  obtain ⟨v0, vs0, d0, ds0, p0, q0, hargs, rfl, rfl, h0, r0⟩ := trodAll_cons hA
  obtain ⟨rfl, rfl, rfl⟩ := trodAll_nil r0
  obtain rfl : args = #[v0] := by cases args; simp_all
  obtain ⟨rfl, rfl⟩ := trodVars_none hV
  have k0 := h0
  have lt0 : ∀ x ∈ p0, x.block < W.heap.size := by obtain ⟨m, hm⟩ := k0; exact DataW.trod_lt m _ _ _ hm
  have harg := open_arg (hval 0 29 v0 rfl rfl) h0
  clear hA0 hval0
  refine (walk v0 W harg).mono fun e W' ⟨he, bel⟩ => ?_
  subst he
  exact ⟨_, rfl, _, _, _, [], _, [], hW', trodAll_mk1 (shut_bool Try.underlying4 _), (trodAll_cons_mk (Below.trod laidOut (by kernel_rfl) (of_decide_eq_true (by kernel_rfl)) k0 bel lt0) trodAll_mk0), rfl, bel.frame _, fun h => by cases h⟩

theorem over : Rows.topCalmRow.holds Try.pinned (OpenSpec.ofChange Rows.topCalmSpec) :=
  OpenClaim.holds_of_wide 3 Try.f3 rfl rfl rfl rfl rfl rfl rfl ⟨rfl, rfl, rfl, rfl, rfl⟩ rfl rfl rfl rfl rfl (by kernel_rfl) Try.func3 (by kernel_rfl)
    (of_decide_eq_true (by kernel_rfl)) (by unfold Func.isWrapper; first | (rw [if_pos (by decide +kernel)]; kernel_rfl) | (rw [if_neg (by decide +kernel)]; exact ⟨rfl, rfl⟩))
    (fun os started H enc _ => lifted os started H enc)

/-- THE STATEMENT. -/
theorem proved : Rows.TopCalmSaid := over
#print axioms proved
end Go.Proofs.Ytahoobhjabhfmaa
