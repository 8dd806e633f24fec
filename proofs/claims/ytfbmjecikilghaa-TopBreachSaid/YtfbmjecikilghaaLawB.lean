/-
  For every input TopBreach returns true, and the input reads behind the call as it read before. No condition.
-/
import Derived.Test.YtfbmjecikilghaaRows
import Derived.Test.YtfbmjecikilghaaOpen
import Derived.Test.YtfbmjecikilghaaBrcM
import Derived.Test.YtfbmjecikilghaaBrc
import Derived.WalkKit
import Derived.ProofKit
import Derived.OpenShut
import Derived.Below
namespace Go.Proofs.Ytfbmjecikilghaa
open Go.ChangeShapes Go.WideShapes Go.ChangeAt Go.RowKit

theorem own : ownKnob Try.prog.godebug = none := by kernel_rfl
theorem laidOut : laidOutB Try.prog = true := by kernel_rfl

theorem u3ok (k : IntKind) (n : Int) (hk : ∀ z, (Lit.int k z).wf = true → 0 ≤ z ∧ z < n) {l : List U3} (h : ∀ x ∈ l, (Lit.int k x.a).wf = true ∧ (Lit.int k x.b).wf = true ∧ (Lit.int k x.c).wf = true) : ∀ x ∈ l, x.ok n := fun x hx => by
  obtain ⟨w0, w1, w2⟩ := h x hx
  have h0 := hk _ w0
  have h1 := hk _ w1
  have h2 := hk _ w2
  exact ⟨h0.1, h0.2, h1.1, h1.2, h2.1, h2.2⟩

/-- What is told of the argument: its cells. -/
def IsArg (w : World) (v : Value) : Prop :=
  ∃ (s : ShoreL) (cell cr st we sp : Int) (ws : List U3) (wh : List Int) (al am aw a5 ah : Option Addr) (cl cm cw c5 ch : Nat),
    v = .agg #[.int .u8 s.wide, .int .u8 s.high, .slice al s.low.length cl, .slice am s.more.length cm, .slice aw s.where_.length cw, .int .u8 cell, .int .u8 cr, .int .u8 st, .int .u8 we, .slice a5 ws.length c5, .int .u8 sp, .slice ah wh.length ch] ∧
    s.ok ∧ ShoreW w.heap.size w s al am aw ∧ ws.length ≤ 9223372036854775807 ∧
    (∀ j (hj : j < ws.length), ∃ b off, a5 = some ⟨b, off, none⟩ ∧ b < w.heap.size ∧ w.cell? ⟨b, off + j * 3, none⟩ = some (.int .u8 ws[j].a) ∧ w.cell? ⟨b, off + j * 3 + 1, none⟩ = some (.int .u8 ws[j].b) ∧ w.cell? ⟨b, off + j * 3 + 2, none⟩ = some (.int .u8 ws[j].c)) ∧
    SlW .u8 w.heap.size w ah wh ∧
    (∀ x ∈ ws, x.ok 256) ∧ (∀ x ∈ wh, 0 ≤ x ∧ x ≤ 255) ∧ (0 ≤ cell ∧ cell ≤ 255) ∧ (0 ≤ cr ∧ cr ≤ 255) ∧ (0 ≤ st ∧ st ≤ 255) ∧ (0 ≤ we ∧ we ≤ 255) ∧ (0 ≤ sp ∧ sp ≤ 255)

theorem walk (v : Value) (w : World) (h : IsArg w v) : Calls Try.prog 4 #[v] w fun e w' => e = .returned (.bool true) ∧ Below w.heap.size w w' := by
  obtain ⟨s, cell, cr, st, we, sp, ws, wh, al, am, aw, a5, ah, cl, cm, cw, c5, ch, rfl, hs, hS, hl1, h1, hH, hws, hwh, hcell, hcr, hst, hwe, hsp⟩ := h
  by_cases hn : ws.length < 1 ∨ 8 < ws.length
  · exact topBreach_many s cell cr st we sp ws wh al am aw a5 ah cl cm cw c5 ch w hl1 hH.1 hn
  · exact topBreach_ok s cell cr st we sp ws wh al am aw a5 ah cl cm cw c5 ch w.heap.size w (Nat.le_refl _) hs hS ⟨by omega, fun k hk => h1 k hk⟩ hH hws hwh (by omega) (by omega) hcell hcr hst hwe hsp

section
variable {H : Type} {enc : TypeId × Value → H} {w : World} {base : Nat} {spare : Nat → Bool} {held : Bool}
set_option maxRecDepth 100000 in
theorem open_arg {r : Go.Reach} {b0 : Nat} {v : Value} {d : DataW H} {p : List MemPlace} (hv : Value.okWide Try.prog w r b0 60 v) (h : DataW.Trod enc Try.prog w base spare held 60 v d p) : IsArg w v := by
  obtain ⟨cs, rfl, hsz⟩ := okWide_struct Try.underlying60 hv
  obtain ⟨l⟩ := cs
  have hC : Try.prog.cellsOf 60 = 12 := by kernel_rfl
  match l, hsz.trans hC with
  | [c0, c1, c2, c3, c4, c5, c6, c7, c8, c9, c10, c11], _ =>
    obtain ⟨fuel, hf⟩ := h
    obtain ⟨xs, n, _, _, _, hlen, hg⟩ := DataW.trod_struct Try.underlying60 hf
    match xs, hlen with
    | [y0, y1, y2, y3, y4, y5, y6, y7], _ =>
      have k25 : Try.prog.cellsOf 25 = 5 := by kernel_rfl
      have k64 : Try.prog.cellsOf 58 = 1 := by kernel_rfl
      have k23 : Try.prog.cellsOf 23 = 1 := by kernel_rfl
      have k22 : Try.prog.cellsOf 22 = 1 := by kernel_rfl
      have k29 : Try.prog.cellsOf 29 = 1 := by kernel_rfl
      have k5 : Try.prog.cellsOf 5 = 1 := by kernel_rfl
      have g0 : DataW.trod enc Try.prog w base spare held n 25 [c0, c1, c2, c3, c4] = some y0 := by simpa [Value.cells, k25] using hg 0 _ rfl
      have g1 : DataW.trod enc Try.prog w base spare held n 5 [c5] = some y1 := by simpa [Value.cells, k25, k5] using hg 1 _ rfl
      have g2 : DataW.trod enc Try.prog w base spare held n 5 [c6] = some y2 := by simpa [Value.cells, k25, k5] using hg 2 _ rfl
      have g3 : DataW.trod enc Try.prog w base spare held n 5 [c7] = some y3 := by simpa [Value.cells, k25, k5] using hg 3 _ rfl
      have g4 : DataW.trod enc Try.prog w base spare held n 5 [c8] = some y4 := by simpa [Value.cells, k25, k5] using hg 4 _ rfl
      have g5 : DataW.trod enc Try.prog w base spare held n 58 [c9] = some y5 := by simpa [Value.cells, k25, k5, k64] using hg 5 _ rfl
      have g6 : DataW.trod enc Try.prog w base spare held n 5 [c10] = some y6 := by simpa [Value.cells, k25, k5, k64] using hg 6 _ rfl
      have g7 : DataW.trod enc Try.prog w base spare held n 23 [c11] = some y7 := by simpa [Value.cells, k25, k5, k64, k23] using hg 7 _ rfl
      clear hg hf
      obtain ⟨zs, n0, _, _, _, hz, hg0⟩ := DataW.trod_struct Try.underlying25 g0
      match zs, hz with
      | [z0, z1, z2, z3, z4], _ =>
        have q0 : DataW.trod enc Try.prog w base spare held n0 5 [c0] = some z0 := by simpa [Value.cells, k5] using hg0 0 _ rfl
        have q1 : DataW.trod enc Try.prog w base spare held n0 5 [c1] = some z1 := by simpa [Value.cells, k5] using hg0 1 _ rfl
        have q2 : DataW.trod enc Try.prog w base spare held n0 22 [c2] = some z2 := by simpa [Value.cells, k5, k22] using hg0 2 _ rfl
        have q3 : DataW.trod enc Try.prog w base spare held n0 23 [c3] = some z3 := by simpa [Value.cells, k5, k22, k23] using hg0 3 _ rfl
        have q4 : DataW.trod enc Try.prog w base spare held n0 23 [c4] = some z4 := by simpa [Value.cells, k5, k22, k23] using hg0 4 _ rfl
        clear hg0
        obtain ⟨wide, e0, _, w0⟩ := DataW.trod_int Try.underlying5 q0
        obtain ⟨high, e1, _, w1⟩ := DataW.trod_int Try.underlying5 q1
        obtain ⟨al, cl, low, e2, hlow, wlow⟩ := open_slice1 (k := .i16) Try.underlying22 Try.underlying29 k29 q2
        obtain ⟨am, cm, more, e3, hmore, wmore⟩ := open_slice1 (k := .u8) Try.underlying23 Try.underlying5 k5 q3
        obtain ⟨aw, cw, whr, e4, hwhr, wwhr⟩ := open_slice1 (k := .u8) Try.underlying23 Try.underlying5 k5 q4
        obtain ⟨cell, e5, _, w5⟩ := DataW.trod_int Try.underlying5 g1
        obtain ⟨cr, e6, _, w6⟩ := DataW.trod_int Try.underlying5 g2
        obtain ⟨st, e7, _, w7⟩ := DataW.trod_int Try.underlying5 g3
        obtain ⟨we, e8, _, w8⟩ := DataW.trod_int Try.underlying5 g4
        obtain ⟨a5, cap5, ws, e9, hl1, hc1, hw1⟩ := open_slice3 (k := .u8) Try.underlying58 Try.underlying65 Try.underlying5 k5 (by kernel_rfl) g5
        obtain ⟨sp, e10, _, w10⟩ := DataW.trod_int Try.underlying5 g6
        obtain ⟨ah, caph, wh, e11, hwh, wwh⟩ := open_slice1 (k := .u8) Try.underlying23 Try.underlying5 k5 g7
        simp only [List.cons.injEq, and_true] at e0 e1 e2 e3 e4 e5 e6 e7 e8 e9 e10 e11
        subst e0 e1 e2 e3 e4 e5 e6 e7 e8 e9 e10 e11
        have u8 : ∀ z, (Lit.int .u8 z).wf = true → 0 ≤ z ∧ z ≤ 255 := fun z hz => by have := bounds_u8 hz; omega
        exact ⟨⟨wide, high, low, more, whr⟩, cell, cr, st, we, sp, ws, wh, al, am, aw, a5, ah, cl, cm, cw, cap5, caph, rfl,
          ⟨u8 _ w0, u8 _ w1, fun x hx => bounds_i16 (wlow x hx), fun x hx => u8 x (wmore x hx), fun x hx => u8 x (wwhr x hx)⟩, ⟨hlow, hmore, hwhr⟩, hl1, hc1, hwh,
          u3ok .u8 _ (fun z hz => by have := u8 z hz; omega) hw1, fun x hx => u8 x (wwh x hx), u8 _ w5, u8 _ w6, u8 _ w7, u8 _ w8, u8 _ w10⟩
end

/-! ### The row's step -/
set_option maxRecDepth 100000 in
theorem lifted (os : Os) (started : os.Started) (H : Type) (enc : TypeId × Value → H) :
    ReturnsInHanded {} Try.checked os 4 .any (Rows.topBreachSpec.pre6 enc Try.prog Try.f4 Rows.topBreachRow.domain false) (Rows.topBreachSpec.post enc Try.prog Try.f4 false true false false) := by
  refine returnsInHanded_of_change (C := Try.checked) own started (by kernel_rfl) Try.func4
    (ChangeSpec.witness6 (enc := enc) (C := Try.checked) false ⟨#[], #[.agg #[.int .u8 0, .int .u8 0, .slice none 0 0, .slice none 0 0, .slice none 0 0, .int .u8 0, .int .u8 0, .int .u8 0, .int .u8 0, .slice none 0 0, .int .u8 0, .slice none 0 0]], []⟩ 8 (by kernel_rfl) (by kernel_rfl) (by kernel_rfl) (by kernel_rfl)) ?_
  intro W base args ds gs before hval0 hW hcnd _
  have hval : ∀ (j : Nat) t v, Try.f4.params[j]? = some t → args[j]? = some v → Value.okWide Try.prog W .any base t v := hval0
  have hW' := hW
  obtain ⟨p, q, hA0, hV, rfl, hfz, hnd⟩ := hW
  have hA : DataW.TrodAll enc Try.prog W 0 (fun _ => true) true Try.f4.params.toList args.toList ds p := hA0
  rw [Try.params4] at hA hval
  obtain ⟨v0, vs0, d0, ds0, p0, q0, hargs, rfl, rfl, h0, r0⟩ := trodAll_cons hA
  obtain ⟨rfl, rfl, rfl⟩ := trodAll_nil r0
  obtain rfl : args = #[v0] := by cases args; simp_all
  obtain ⟨rfl, rfl⟩ := trodVars_none hV
  have k0 := h0
  have lt0 : ∀ x ∈ p0, x.block < W.heap.size := by obtain ⟨m, hm⟩ := k0; exact DataW.trod_lt m _ _ _ hm
  have harg := open_arg (hval 0 60 v0 rfl rfl) h0
  clear hA0 hval0
  refine (walk v0 W harg).mono fun e W' ⟨he, bel⟩ => ?_
  subst he
  exact ⟨_, rfl, _, _, _, [], _, [], hW', trodAll_mk1 (shut_bool Try.underlying4 _), (trodAll_cons_mk (Below.trod laidOut (by kernel_rfl) (of_decide_eq_true (by kernel_rfl)) k0 bel lt0) trodAll_mk0), rfl, bel.frame _, fun h => by cases h⟩

theorem over : Rows.topBreachRow.holds Try.pinned (OpenSpec.ofChange Rows.topBreachSpec) :=
  OpenClaim.holds_of_wide 4 Try.f4 rfl rfl rfl rfl rfl rfl rfl ⟨rfl, rfl, rfl, rfl, rfl⟩ rfl rfl rfl rfl rfl (by kernel_rfl) Try.func4 (by kernel_rfl)
    (of_decide_eq_true (by kernel_rfl)) (by unfold Func.isWrapper; first | (rw [if_pos (by decide +kernel)]; kernel_rfl) | (rw [if_neg (by decide +kernel)]; exact ⟨rfl, rfl⟩))
    (fun os started H enc _ => lifted os started H enc)

/-- THE STATEMENT. -/
theorem proved : Rows.TopBreachSaid := over
#print axioms proved
end Go.Proofs.Ytfbmjecikilghaa
