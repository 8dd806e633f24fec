/- grid: sills for the lower and for the upper ends. -/
import Derived.Test.YtfbmjecikilghaaSills
import Derived.Test.YtfbmjecikilghaaCheckS
namespace Go.Proofs.Ytfbmjecikilghaa
open Go.RowKit

theorem sl_ints {w : World} {base : Nat} {v : Value} {l : List Int} (h : w.ownsRow base 3 1 v l.length (ints l)) (hn : l.length ≤ 1000) : ∃ a cap, v = .slice a l.length cap ∧ Sl IntE 1 w.heap.size w a l := by
  by_cases h0 : l.length = 0
  · obtain ⟨a, cap, hv⟩ := row_len h
    exact ⟨a, cap, hv, by omega, fun k hk => by omega⟩
  · obtain ⟨g, cap, hv, hb, hg⟩ := row_form' h (by omega)
    subst hv
    refine ⟨_, cap, rfl, by omega, fun k hk => ⟨g, 0, rfl, hg, ?_⟩⟩
    have := (h.cellAt k (by omega)).trans (ints_get l k hk)
    rw [List.getD_eq_getElem?_getD, List.getElem?_eq_getElem hk] at this
    show w.cell? ⟨g, 0 + k * 1, none⟩ = _
    simpa using this

def loOf (gr : List (Int × Int)) (c : Nat) : Int := (gr.getD c (0, 0)).1
def hiOf (gr : List (Int × Int)) (c : Nat) : Int := (gr.getD c (0, 0)).2
theorem of_bd {gr : List (Int × Int)} (hg : ∀ u ∈ gr, gok u) {c : Nat} (hc : c < gr.length) : (-1200000 ≤ loOf gr c ∧ loOf gr c ≤ 1200000) ∧ (-1200000 ≤ hiOf gr c ∧ hiOf gr c ≤ 1200000) ∧ loOf gr c ≤ hiOf gr c := by
  have := hg gr[c] (List.getElem_mem hc)
  unfold loOf hiOf
  rw [List.getD_eq_getElem?_getD, List.getElem?_eq_getElem hc]
  obtain ⟨h0, h1, h2⟩ := this
  simp only [Option.getD_some]
  omega

/-- The grid and the sea in boxes. -/
structure ShoreM (B qg qs : Nat) (w : World) (wd ht : Nat) (sz : Int) (gr : List (Int × Int)) (ga : Option Addr) (gcap : Nat) (sea : List Int) (sa : Option Addr) (scap : Nat) : Prop where
  grid : GridM B w wd ht sz gr ga
  box : w.heap[qg]? = some (.cells #[.int .i64 wd, .int .i64 ht, .int .i64 sz, .slice ga gr.length gcap] 36 (0, 0))
  cells : Sl IntE 1 B w sa sea
  sbox : Boxed w qs 44 (.slice sa sea.length scap)
  dry : ∀ c ∈ sea, 0 ≤ c ∧ c < (gr.length : Int)
  some : 1 ≤ sea.length
  qg : qg < B
  qs : qs < B
theorem ShoreM.below {B qg qs : Nat} {w w' : World} {wd ht : Nat} {sz : Int} {gr : List (Int × Int)} {ga : Option Addr} {gcap : Nat} {sea : List Int} {sa : Option Addr} {scap : Nat} (h : ShoreM B qg qs w wd ht sz gr ga gcap sea sa scap) (hb : Below B w w') : ShoreM B qg qs w' wd ht sz gr ga gcap sea sa scap :=
  ⟨h.grid.below hb, (hb.block _ h.qg).trans h.box, h.cells.below (ek_int B) hb, (hb.block _ h.qs).trans h.sbox, h.dry, h.some, h.qg, h.qs⟩

set_option maxHeartbeats 4000000 in
set_option maxRecDepth 100000 in
theorem computeLo_ok (B qg qs : Nat) (w : World) (wd ht : Nat) (sz : Int) (gr : List (Int × Int)) (ga : Option Addr) (gcap : Nat) (sea : List Int) (sa : Option Addr) (scap : Nat) (hM : ShoreM B qg qs w wd ht sz gr ga gcap sea sa scap) (hB : B ≤ w.heap.size) :
    Calls Try.prog 47 #[loF, .pointer (some ⟨qg, 0, none⟩), .pointer (some ⟨qs, 0, none⟩)] w fun e w' => ∃ v out, e = .returned v ∧ SillOk wd ht (sea.map Int.toNat) (loOf gr) out ∧ w'.ownsRow w.heap.size 3 1 v out.length (ints out) ∧ Below w.heap.size w w' := by
  have hlen : gr.length = wd * ht := by have := hM.grid.len; exact_mod_cast this
  have hgc := cells_of hM.box
  have hgl := lt_of_heap hM.box
  have hsc := hM.sbox.cell
  have hsl := hM.sbox.lt
  have hW1 : Below w.heap.size w (w.alloc (.cells #[loF] 61)) := (by repeat (first | exact Below.refl _ _ | (refine bl_setCell ?_ _ _ ?_; rotate_left; focus (first | omega | (simp; done) | (simp; omega))) | refine bl_alloc ?_ _ | refine bl_step ?_ (by assumption) | refine bl_drew ?_ | refine bl_drewN ?_ _))
  have hM1 := hM.below (hW1.mono hB)
  have hG : GroundM (w.heap.size + 1) w.heap.size qg loF (w.alloc (.cells #[loF] 61)) wd ht sz ga gcap gr :=
    ⟨heap_alloc_at _ _, hM1.box, ⟨hM1.grid.cells.1, fun k hk => by obtain ⟨b, off, h1, h2, h3⟩ := hM1.grid.cells.2 k hk; exact ⟨b, off, h1, by omega, h3⟩⟩, by omega, by have := hM.qg; omega⟩
  have hs := sills_ok B w.heap.size qg loF (w.alloc (.cells #[loF] 61)) wd ht sz ga gcap gr sa scap sea (loOf gr) hM1.cells (by simp; omega) (by have := hM.grid.w1; omega) (by have := hM.grid.w4; omega) (by have := hM.grid.h1; omega) (by have := hM.grid.h4; omega) hlen
    (fun c hc => by have := hM.dry c hc; constructor <;> omega)
    (fun W hW c c0 c1 => heightLo_ok (w.heap.size + 1) w.heap.size qg W wd ht sz ga gcap gr (hG.below (by simpa using hW)) c c0 (by omega) (loOf gr c.toNat) rfl)
    (fun c hc => (of_bd hM.grid.ok (by omega)).1)
  clear hM hM1 hG hW1 hlen
  go_enter Try.func47, Try.ntmps47
  go_wp2_with fail
  refine hs.mono ?_
  rintro e w1 ⟨v, out, rfl, hS, hrow, hb⟩
  simp only [World.size_alloc] at hrow
  have HhS := Lib.hid hS; clear hS; have Hhrow := Lib.hid hrow; clear hrow
  go_wp2_with fail
  go_ret
  exact ⟨_, out, rfl, HhS.out, row_mono Hhrow.out (by omega), (by repeat (first | exact Below.refl _ _ | (refine bl_setCell ?_ _ _ ?_; rotate_left; focus (first | omega | (simp; done) | (simp; omega))) | refine bl_alloc ?_ _ | refine bl_step ?_ (by assumption) | refine bl_drew ?_ | refine bl_drewN ?_ _))⟩

set_option maxHeartbeats 4000000 in
set_option maxRecDepth 100000 in
theorem computeHi_ok (B qg qs : Nat) (w : World) (wd ht : Nat) (sz : Int) (gr : List (Int × Int)) (ga : Option Addr) (gcap : Nat) (sea : List Int) (sa : Option Addr) (scap : Nat) (hM : ShoreM B qg qs w wd ht sz gr ga gcap sea sa scap) (hB : B ≤ w.heap.size) :
    Calls Try.prog 47 #[hiF, .pointer (some ⟨qg, 0, none⟩), .pointer (some ⟨qs, 0, none⟩)] w fun e w' => ∃ v out, e = .returned v ∧ SillOk wd ht (sea.map Int.toNat) (hiOf gr) out ∧ w'.ownsRow w.heap.size 3 1 v out.length (ints out) ∧ Below w.heap.size w w' := by
  have hlen : gr.length = wd * ht := by have := hM.grid.len; exact_mod_cast this
  have hgc := cells_of hM.box
  have hgl := lt_of_heap hM.box
  have hsc := hM.sbox.cell
  have hsl := hM.sbox.lt
  have hW1 : Below w.heap.size w (w.alloc (.cells #[hiF] 61)) := (by repeat (first | exact Below.refl _ _ | (refine bl_setCell ?_ _ _ ?_; rotate_left; focus (first | omega | (simp; done) | (simp; omega))) | refine bl_alloc ?_ _ | refine bl_step ?_ (by assumption) | refine bl_drew ?_ | refine bl_drewN ?_ _))
  have hM1 := hM.below (hW1.mono hB)
  have hG : GroundM (w.heap.size + 1) w.heap.size qg hiF (w.alloc (.cells #[hiF] 61)) wd ht sz ga gcap gr :=
    ⟨heap_alloc_at _ _, hM1.box, ⟨hM1.grid.cells.1, fun k hk => by obtain ⟨b, off, h1, h2, h3⟩ := hM1.grid.cells.2 k hk; exact ⟨b, off, h1, by omega, h3⟩⟩, by omega, by have := hM.qg; omega⟩
  have hs := sills_ok B w.heap.size qg hiF (w.alloc (.cells #[hiF] 61)) wd ht sz ga gcap gr sa scap sea (hiOf gr) hM1.cells (by simp; omega) (by have := hM.grid.w1; omega) (by have := hM.grid.w4; omega) (by have := hM.grid.h1; omega) (by have := hM.grid.h4; omega) hlen
    (fun c hc => by have := hM.dry c hc; constructor <;> omega)
    (fun W hW c c0 c1 => heightHi_ok (w.heap.size + 1) w.heap.size qg W wd ht sz ga gcap gr (hG.below (by simpa using hW)) c c0 (by omega) (hiOf gr c.toNat) rfl)
    (fun c hc => (of_bd hM.grid.ok (by omega)).2.1)
  clear hM hM1 hG hW1 hlen
  go_enter Try.func47, Try.ntmps47
  go_wp2_with fail
  refine hs.mono ?_
  rintro e w1 ⟨v, out, rfl, hS, hrow, hb⟩
  simp only [World.size_alloc] at hrow
  have HhS := Lib.hid hS; clear hS; have Hhrow := Lib.hid hrow; clear hrow
  go_wp2_with fail
  go_ret
  exact ⟨_, out, rfl, HhS.out, row_mono Hhrow.out (by omega), (by repeat (first | exact Below.refl _ _ | (refine bl_setCell ?_ _ _ ?_; rotate_left; focus (first | omega | (simp; done) | (simp; omega))) | refine bl_alloc ?_ _ | refine bl_step ?_ (by assumption) | refine bl_drew ?_ | refine bl_drewN ?_ _))⟩
end Go.Proofs.Ytfbmjecikilghaa
