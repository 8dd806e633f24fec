/-
  For every input TopEbb returns true, and the input reads behind the call as it read before. No condition.
-/
import Derived.Test.YtfbmjecikilghaaRows
import Derived.Test.YtfbmjecikilghaaOpen
import Derived.Test.YtfbmjecikilghaaMany
import Derived.Test.YtfbmjecikilghaaTop
import Derived.WalkKit
import Derived.ProofKit
import Derived.OpenShut
import Derived.Below
namespace Go.Proofs.Ytfbmjecikilghaa
open Go.ChangeShapes Go.WideShapes Go.ChangeAt Go.RowKit

theorem own : ownKnob Try.prog.godebug = none := by kernel_rfl
theorem laidOut : laidOutB Try.prog = true := by kernel_rfl

theorem u3ok (k : IntKind) (n : Int) (hk : ∀ z, (Lit.int k z).wf = true → 0 ≤ z ∧ z < n) {l : List U3} (h : ∀ x ∈ l, (Lit.int k x.a).wf = true ∧ (Lit.int k x.b).wf = true ∧ (Lit.int k x.c).wf = true) : ∀ x ∈ l, x.ok n := fun x hx => by
  obtain ⟨w0, w1, w2⟩ := h x hx
  have h0 := hk _ w0
  have h1 := hk _ w1
  have h2 := hk _ w2
  exact ⟨h0.1, h0.2, h1.1, h1.2, h2.1, h2.2⟩

/-- What is told of the argument: its cells. -/
def IsArg (w : World) (v : Value) : Prop :=
  ∃ (s : ShoreL) (mean f lg lv : Int) (ps : List U3) (ats seas : List Int) (al am aw a1 a2 a3 : Option Addr) (cl cm cw c1 c2 c3 : Nat),
    v = .agg #[.int .u8 s.wide, .int .u8 s.high, .slice al s.low.length cl, .slice am s.more.length cm, .slice aw s.where_.length cw, .int .i8 mean, .slice a1 ps.length c1, .int .u32 f, .int .u32 lg, .int .i16 lv, .slice a2 ats.length c2, .slice a3 seas.length c3] ∧
    s.ok ∧ ShoreW w.heap.size w s al am aw ∧ ps.length ≤ 9223372036854775807 ∧
    (∀ j (hj : j < ps.length), ∃ b off, a1 = some ⟨b, off, none⟩ ∧ b < w.heap.size ∧ w.cell? ⟨b, off + j * 3, none⟩ = some (.int .u32 ps[j].a) ∧ w.cell? ⟨b, off + j * 3 + 1, none⟩ = some (.int .u32 ps[j].b) ∧ w.cell? ⟨b, off + j * 3 + 2, none⟩ = some (.int .u32 ps[j].c)) ∧
    SlW .u32 w.heap.size w a2 ats ∧ SlW .u8 w.heap.size w a3 seas ∧
    (∀ x ∈ ps, x.ok 4294967296) ∧ (∀ x ∈ ats, 0 ≤ x ∧ x < 4294967296) ∧ (∀ x ∈ seas, 0 ≤ x ∧ x < 256) ∧ (-128 ≤ mean ∧ mean ≤ 127) ∧ (0 ≤ f ∧ f < 4294967296) ∧ (0 ≤ lg ∧ lg < 4294967296) ∧ (-32768 ≤ lv ∧ lv ≤ 32767)

theorem walk (v : Value) (w : World) (h : IsArg w v) : Calls Try.prog 3 #[v] w fun e w' => e = .returned (.bool true) ∧ Below w.heap.size w w' := by
  obtain ⟨s, mean, f, lg, lv, ps, ats, seas, al, am, aw, a1, a2, a3, cl, cm, cw, c1, c2, c3, rfl, hs, hS, hl1, h1, hA, hE, hp, ha, he, hm, hf, hlg, hlv⟩ := h
  by_cases hn : 4 < ps.length ∨ 6 < ats.length ∨ 4 < seas.length
  · exact topEbb_many s mean f lg lv ps ats seas al am aw a1 a2 a3 cl cm cw c1 c2 c3 w hl1 hA.1 hE.1 hn
  · exact topEbb_ok s mean f lg lv ps ats seas al am aw a1 a2 a3 cl cm cw c1 c2 c3 w.heap.size w (Nat.le_refl _) hs hS ⟨by omega, fun k hk => h1 k hk⟩ hA hE hp ha he (by omega) (by omega) (by omega) hm hf hlg hlv

section
variable {H : Type} {enc : TypeId × Value → H} {w : World} {base : Nat} {spare : Nat → Bool} {held : Bool}
set_option maxRecDepth 100000 in
theorem open_arg {r : Go.Reach} {b0 : Nat} {v : Value} {d : DataW H} {p : List MemPlace} (hv : Value.okWide Try.prog w r b0 32 v) (h : DataW.Trod enc Try.prog w base spare held 32 v d p) : IsArg w v := by
  obtain ⟨cs, rfl, hsz⟩ := okWide_struct Try.underlying32 hv
  obtain ⟨l⟩ := cs
  have hC : Try.prog.cellsOf 32 = 12 := by kernel_rfl
  match l, hsz.trans hC with
  | [c0, c1, c2, c3, c4, c5, c6, c7, c8, c9, c10, c11], _ =>
    obtain ⟨fuel, hf⟩ := h
    obtain ⟨xs, n, _, _, _, hlen, hg⟩ := DataW.trod_struct Try.underlying32 hf
    match xs, hlen with
    | [y0, y1, y2, y3, y4, y5, y6, y7], _ =>
      have k25 : Try.prog.cellsOf 25 = 5 := by kernel_rfl
      have k26 : Try.prog.cellsOf 26 = 1 := by kernel_rfl
      have k27 : Try.prog.cellsOf 27 = 1 := by kernel_rfl
      have k28 : Try.prog.cellsOf 28 = 1 := by kernel_rfl
      have k29 : Try.prog.cellsOf 29 = 1 := by kernel_rfl
      have k30 : Try.prog.cellsOf 30 = 1 := by kernel_rfl
      have k23 : Try.prog.cellsOf 23 = 1 := by kernel_rfl
      have k22 : Try.prog.cellsOf 22 = 1 := by kernel_rfl
      have k5 : Try.prog.cellsOf 5 = 1 := by kernel_rfl
      have g0 : DataW.trod enc Try.prog w base spare held n 25 [c0, c1, c2, c3, c4] = some y0 := by simpa [Value.cells, k25] using hg 0 _ rfl
      have g1 : DataW.trod enc Try.prog w base spare held n 26 [c5] = some y1 := by simpa [Value.cells, k25, k26] using hg 1 _ rfl
      have g2 : DataW.trod enc Try.prog w base spare held n 27 [c6] = some y2 := by simpa [Value.cells, k25, k26, k27] using hg 2 _ rfl
      have g3 : DataW.trod enc Try.prog w base spare held n 28 [c7] = some y3 := by simpa [Value.cells, k25, k26, k27, k28] using hg 3 _ rfl
      have g4 : DataW.trod enc Try.prog w base spare held n 28 [c8] = some y4 := by simpa [Value.cells, k25, k26, k27, k28] using hg 4 _ rfl
      have g5 : DataW.trod enc Try.prog w base spare held n 29 [c9] = some y5 := by simpa [Value.cells, k25, k26, k27, k28, k29] using hg 5 _ rfl
      have g6 : DataW.trod enc Try.prog w base spare held n 30 [c10] = some y6 := by simpa [Value.cells, k25, k26, k27, k28, k29, k30] using hg 6 _ rfl
      have g7 : DataW.trod enc Try.prog w base spare held n 23 [c11] = some y7 := by simpa [Value.cells, k25, k26, k27, k28, k29, k30, k23] using hg 7 _ rfl
      clear hg hf
      obtain ⟨zs, n0, _, _, _, hz, hg0⟩ := DataW.trod_struct Try.underlying25 g0
      match zs, hz with
      | [z0, z1, z2, z3, z4], _ =>
        have q0 : DataW.trod enc Try.prog w base spare held n0 5 [c0] = some z0 := by simpa [Value.cells, k5] using hg0 0 _ rfl
        have q1 : DataW.trod enc Try.prog w base spare held n0 5 [c1] = some z1 := by simpa [Value.cells, k5] using hg0 1 _ rfl
        have q2 : DataW.trod enc Try.prog w base spare held n0 22 [c2] = some z2 := by simpa [Value.cells, k5, k22] using hg0 2 _ rfl
        have q3 : DataW.trod enc Try.prog w base spare held n0 23 [c3] = some z3 := by simpa [Value.cells, k5, k22, k23] using hg0 3 _ rfl
        have q4 : DataW.trod enc Try.prog w base spare held n0 23 [c4] = some z4 := by simpa [Value.cells, k5, k22, k23] using hg0 4 _ rfl
        clear hg0
        obtain ⟨wide, e0, _, w0⟩ := DataW.trod_int Try.underlying5 q0
        obtain ⟨high, e1, _, w1⟩ := DataW.trod_int Try.underlying5 q1
        obtain ⟨al, cl, low, e2, hlow, wlow⟩ := open_slice1 (k := .i16) Try.underlying22 Try.underlying29 k29 q2
        obtain ⟨am, cm, more, e3, hmore, wmore⟩ := open_slice1 (k := .u8) Try.underlying23 Try.underlying5 k5 q3
        obtain ⟨aw, cw, whr, e4, hwhr, wwhr⟩ := open_slice1 (k := .u8) Try.underlying23 Try.underlying5 k5 q4
        obtain ⟨mean, e5, _, w5⟩ := DataW.trod_int Try.underlying26 g1
        obtain ⟨a1, cap1, ps, e6, hl1, hc1, hw1⟩ := open_slice3 (k := .u32) Try.underlying27 Try.underlying41 Try.underlying28 k28 (by kernel_rfl) g2
        obtain ⟨f, e7, _, w7⟩ := DataW.trod_int Try.underlying28 g3
        obtain ⟨lg, e8, _, w8⟩ := DataW.trod_int Try.underlying28 g4
        obtain ⟨lv, e9, _, w9⟩ := DataW.trod_int Try.underlying29 g5
        obtain ⟨a2, cap2, ats, e10, hats, wats⟩ := open_slice1 (k := .u32) Try.underlying30 Try.underlying28 k28 g6
        obtain ⟨a3, cap3, seas, e11, hseas, wseas⟩ := open_slice1 (k := .u8) Try.underlying23 Try.underlying5 k5 g7
        simp only [List.cons.injEq, and_true] at e0 e1 e2 e3 e4 e5 e6 e7 e8 e9 e10 e11
        subst e0 e1 e2 e3 e4 e5 e6 e7 e8 e9 e10 e11
        have u32 : ∀ z, (Lit.int .u32 z).wf = true → 0 ≤ z ∧ z < 4294967296 := fun z hz => by have := bounds_u32 hz; omega
        have u8 : ∀ z, (Lit.int .u8 z).wf = true → 0 ≤ z ∧ z ≤ 255 := fun z hz => by have := bounds_u8 hz; omega
        exact ⟨⟨wide, high, low, more, whr⟩, mean, f, lg, lv, ps, ats, seas, al, am, aw, a1, a2, a3, cl, cm, cw, cap1, cap2, cap3, rfl,
          ⟨u8 _ w0, u8 _ w1, fun x hx => bounds_i16 (wlow x hx), fun x hx => u8 x (wmore x hx), fun x hx => u8 x (wwhr x hx)⟩, ⟨hlow, hmore, hwhr⟩, hl1, hc1, hats, hseas,
          u3ok .u32 _ u32 hw1, fun x hx => u32 x (wats x hx), fun x hx => by have := u8 x (wseas x hx); omega, bounds_i8 w5, u32 _ w7, u32 _ w8, bounds_i16 w9⟩
end

/-! ### The row's step -/
set_option maxRecDepth 100000 in
theorem lifted (os : Os) (started : os.Started) (H : Type) (enc : TypeId × Value → H) :
    ReturnsInHanded {} Try.checked os 3 .any (Rows.topEbbSpec.pre6 enc Try.prog Try.f3 Rows.topEbbRow.domain false) (Rows.topEbbSpec.post enc Try.prog Try.f3 false true false false) := by
  refine returnsInHanded_of_change (C := Try.checked) own started (by kernel_rfl) Try.func3
    (ChangeSpec.witness6 (enc := enc) (C := Try.checked) false ⟨#[], #[.agg #[.int .u8 0, .int .u8 0, .slice none 0 0, .slice none 0 0, .slice none 0 0, .int .i8 0, .slice none 0 0, .int .u32 0, .int .u32 0, .int .i16 0, .slice none 0 0, .slice none 0 0]], []⟩ 8 (by kernel_rfl) (by kernel_rfl) (by kernel_rfl) (by kernel_rfl)) ?_
  intro W base args ds gs before hval0 hW hcnd _
  have hval : ∀ (j : Nat) t v, Try.f3.params[j]? = some t → args[j]? = some v → Value.okWide Try.prog W .any base t v := hval0
  have hW' := hW
  obtain ⟨p, q, hA0, hV, rfl, hfz, hnd⟩ := hW
  have hA : DataW.TrodAll enc Try.prog W 0 (fun _ => true) true Try.f3.params.toList args.toList ds p := hA0
  rw [Try.params3] at hA hval
  obtain ⟨v0, vs0, d0, ds0, p0, q0, hargs, rfl, rfl, h0, r0⟩ := trodAll_cons hA
  obtain ⟨rfl, rfl, rfl⟩ := trodAll_nil r0
  obtain rfl : args = #[v0] := by cases args; simp_all
  obtain ⟨rfl, rfl⟩ := trodVars_none hV
  have k0 := h0
  have lt0 : ∀ x ∈ p0, x.block < W.heap.size := by obtain ⟨m, hm⟩ := k0; exact DataW.trod_lt m _ _ _ hm
  have harg := open_arg (hval 0 32 v0 rfl rfl) h0
  clear hA0 hval0
  refine (walk v0 W harg).mono fun e W' ⟨he, bel⟩ => ?_
  subst he
  exact ⟨_, rfl, _, _, _, [], _, [], hW', trodAll_mk1 (shut_bool Try.underlying4 _), (trodAll_cons_mk (Below.trod laidOut (by kernel_rfl) (of_decide_eq_true (by kernel_rfl)) k0 bel lt0) trodAll_mk0), rfl, bel.frame _, fun h => by cases h⟩

theorem over : Rows.topEbbRow.holds Try.pinned (OpenSpec.ofChange Rows.topEbbSpec) :=
  OpenClaim.holds_of_wide 3 Try.f3 rfl rfl rfl rfl rfl rfl rfl ⟨rfl, rfl, rfl, rfl, rfl⟩ rfl rfl rfl rfl rfl (by kernel_rfl) Try.func3 (by kernel_rfl)
    (of_decide_eq_true (by kernel_rfl)) (by unfold Func.isWrapper; first | (rw [if_pos (by decide +kernel)]; kernel_rfl) | (rw [if_neg (by decide +kernel)]; exact ⟨rfl, rfl⟩))
    (fun os started H enc _ => lifted os started H enc)

/-- THE STATEMENT. -/
theorem proved : Rows.TopEbbSaid := over
#print axioms proved
end Go.Proofs.Ytfbmjecikilghaa
