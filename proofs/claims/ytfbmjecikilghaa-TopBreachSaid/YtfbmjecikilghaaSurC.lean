/- Surges in plain numbers: how wind raises water over the cells of a row, and that less doubt gives narrower levels. -/
import Derived.WalkKit
import Derived.Test.YtfbmjecikilghaaCheckS
import Derived.Test.YtfbmjecikilghaaOrdC
import Derived.Test.YtfbmjecikilghaaEbbM
namespace Go.Proofs.Ytfbmjecikilghaa

/-- Divisions that round down and up. -/
def sceil (a b : Int) : Int := -(-a / b)
theorem sceil_mono {a b c : Int} (hc : 0 < c) (h : a ≤ b) : sceil a c ≤ sceil b c := by
  unfold sceil
  have := Int.ediv_le_ediv hc (show -b ≤ -a by omega)
  omega
theorem sfloor_anti {a b c : Int} (ha : 0 ≤ a) (hb : 0 < b) (h : b ≤ c) : a / c ≤ a / b := by
  refine Int.le_ediv_of_mul_le hb ?_
  have h1 := Int.ediv_mul_le a (show c ≠ 0 by omega)
  have h2 : 0 ≤ a / c := Int.ediv_nonneg ha (by omega)
  have h3 := Int.mul_le_mul_of_nonneg_left h h2
  omega
theorem sceil_anti {a b c : Int} (ha : 0 ≤ a) (hb : 0 < b) (h : b ≤ c) : sceil a c ≤ sceil a b := by
  unfold sceil
  have h1 : a ≤ -(-a / b) * b := by
    have := Int.ediv_mul_le (-a) (show b ≠ 0 by omega)
    rw [Int.neg_mul]; omega
  have h2 : 0 ≤ -(-a / b) := by
    have : -a / b ≤ 0 := by
      have := Int.ediv_le_ediv hb (show -a ≤ 0 by omega)
      simpa using this
    omega
  have h3 := Int.mul_le_mul_of_nonneg_left h h2
  have h4 : -(-(-a / b)) ≤ -a / c := by
    refine Int.le_ediv_of_mul_le (by omega) ?_
    rw [Int.neg_mul]; omega
  omega

abbrev Sp := Int × Int
/-- A span within another one. -/
def sub (a b : Sp) : Prop := b.1 ≤ a.1 ∧ a.2 ≤ b.2 ∧ a.1 ≤ a.2
def spMinus (a b : Sp) : Sp := (a.1 - b.2, a.2 - b.1)
theorem sub_minus {a b a' b' : Sp} (h : sub a a') (k : sub b b') : sub (spMinus a b) (spMinus a' b') := by
  obtain ⟨h1, h2, h3⟩ := h
  obtain ⟨k1, k2, k3⟩ := k
  unfold sub spMinus
  simp only
  omega

/-! The cells ahead. -/
def compassD : Nat → Int × Int
  | 0 => (1, 0) | 1 => (1, 1) | 2 => (0, 1) | 3 => (-1, 1) | 4 => (-1, 0) | 5 => (-1, -1) | 6 => (0, -1) | _ => (1, -1)
def rayF (W H dx dy : Int) : Nat → Int → Int → List Nat
  | 0, _, _ => []
  | f + 1, x, y => if 0 ≤ x ∧ x < W ∧ 0 ≤ y ∧ y < H then (y * W + x).toNat :: rayF W H dx dy f (x + dx) (y + dy) else []
def rayL (W H : Nat) (cell dir : Nat) : List Nat :=
  rayF W H (compassD dir).1 (compassD dir).2 5 ((cell : Int) % W + (compassD dir).1) ((cell : Int) / W + (compassD dir).2)
theorem rayF_lt {W H dx dy : Int} : ∀ (f : Nat) (x y : Int), ∀ c ∈ rayF W H dx dy f x y, (c : Int) < W * H
  | 0, _, _, c, h => by simp [rayF] at h
  | f + 1, x, y, c, h => by
    unfold rayF at h
    split at h
    · rename_i hb
      rcases List.mem_cons.1 h with rfl | h
      · have h1 : (y + 1) * W ≤ H * W := Int.mul_le_mul_of_nonneg_right (by omega) (by omega)
        have h2 : 0 ≤ y * W := Int.mul_nonneg (by omega) (by omega)
        rw [Int.add_mul, Int.mul_comm H W] at h1
        omega
      · exact rayF_lt f _ _ c h
    · simp at h

def depthS (sea : Sp) (gr : Nat → Sp) (c : Nat) : Sp := (sea.1 - (gr c).2, sea.2 - (gr c).1)
/-- Whether the wind goes on over a cell. -/
def overS (sure : Bool) (d : Sp) : Bool := !(sure && decide (d.1 < 1) || decide (d.2 < 1))
def fetchL (sea : Sp) (gr : Nat → Sp) (sure : Bool) (l : List Nat) : List Sp := (l.map (depthS sea gr)).takeWhile (overS sure)

def unitS : Int := 3832031250
def longS (sz : Int) (dir : Nat) : Int := if dir % 2 = 1 then 141 * sz else 100 * sz
def wideS (sz : Int) (dir : Nat) : Int := if dir % 2 = 1 then 142 * sz else 100 * sz
def termLo (dr s long : Int) (d : Sp) : Int := dr * s * s * long / (unitS * d.2)
def termHi (dr s wide : Int) (d : Sp) : Int := sceil (dr * s * s * wide) (unitS * max 1 d.1)

structure SurM where
  W : Nat
  H : Nat
  sz : Int
  gr : Nat → Sp
  sea : Sp
  drag : Sp
  lag : Sp

def SurM.rise (m : SurM) (cell dir : Nat) (v : Sp) : Sp :=
  (((fetchL m.sea m.gr true (rayL m.W m.H cell dir)).map (termLo m.drag.1 v.1 (longS m.sz dir))).sum,
   ((fetchL m.sea m.gr false (rayL m.W m.H cell dir)).map (termHi m.drag.2 v.2 (wideS m.sz dir))).sum)

/-- m is known better than k. -/
structure SurM.In (m k : SurM) : Prop where
  W : m.W = k.W
  H : m.H = k.H
  sz : m.sz = k.sz
  sz1 : 0 ≤ k.sz
  gr : ∀ c, c < k.W * k.H → sub (m.gr c) (k.gr c)
  sea : m.sea = k.sea
  sea1 : k.sea.1 ≤ k.sea.2
  drag : sub m.drag k.drag
  drag1 : 0 ≤ k.drag.1
  lag : sub m.lag k.lag
  lag1 : 0 ≤ k.lag.1
  lag2 : k.lag.2 ≤ 1024

theorem depth_in {m k : SurM} (h : m.In k) {c : Nat} (hc : c < k.W * k.H) : sub (depthS m.sea m.gr c) (depthS k.sea k.gr c) := by
  have h1 := h.gr c hc
  have h2 := h.sea1
  rw [h.sea]
  unfold sub depthS at *
  simp only
  omega
theorem mul3 {a b s t l : Int} (ha : 0 ≤ a) (hab : a ≤ b) (hs : 0 ≤ s) (hst : s ≤ t) (hl : 0 ≤ l) : 0 ≤ a * s * s * l ∧ a * s * s * l ≤ b * t * t * l := by
  have h1 : a * s ≤ b * t := Int.mul_le_mul hab hst hs (by omega)
  have h0 : 0 ≤ a * s := Int.mul_nonneg ha hs
  have h2 : a * s * s ≤ b * t * t := Int.mul_le_mul h1 hst hs (by omega)
  have h3 : 0 ≤ a * s * s := Int.mul_nonneg h0 hs
  exact ⟨Int.mul_nonneg h3 hl, Int.mul_le_mul_of_nonneg_right h2 hl⟩
theorem sum_nn {g : Nat → Sp} {Q : Sp → Bool} {u : Sp → Int} : ∀ l : List Nat, (∀ c ∈ l, Q (g c) = true → 0 ≤ u (g c)) → 0 ≤ (((l.map g).takeWhile Q).map u).sum
  | [], _ => by simp
  | c :: l, hu => by
    have ih := sum_nn l fun c hc => hu c (by simp [hc])
    simp only [List.map_cons, List.takeWhile_cons]
    split
    · rename_i hq
      simp only [List.map_cons, List.sum_cons]
      have := hu c (by simp) hq
      omega
    · simp
theorem sum_le {f g : Nat → Sp} {P Q : Sp → Bool} {t u : Sp → Int} : ∀ l : List Nat, (∀ c ∈ l, Q (g c) = true → 0 ≤ u (g c)) → (∀ c ∈ l, P (f c) = true → Q (g c) = true ∧ t (f c) ≤ u (g c)) →
    (((l.map f).takeWhile P).map t).sum ≤ (((l.map g).takeWhile Q).map u).sum
  | [], _, _ => by simp
  | c :: l, hu, h => by
    have ih := sum_le l (fun c hc => hu c (by simp [hc])) fun c hc => h c (by simp [hc])
    have hn := sum_nn (g := g) (Q := Q) (u := u) l fun c hc => hu c (by simp [hc])
    simp only [List.map_cons, List.takeWhile_cons]
    by_cases hp : P (f c) = true
    · obtain ⟨h1, h2⟩ := h c (by simp) hp
      rw [if_pos hp, if_pos h1]
      simp only [List.map_cons, List.sum_cons]
      omega
    · rw [if_neg hp]
      by_cases hq : Q (g c) = true
      · rw [if_pos hq]
        simp only [List.map_cons, List.sum_cons, List.map_nil, List.sum_nil]
        have := hu c (by simp) hq
        omega
      · rw [if_neg hq]; simp

theorem over_true {d : Sp} : overS true d = true ↔ 1 ≤ d.1 ∧ 1 ≤ d.2 := by simp [overS]
theorem over_false {d : Sp} : overS false d = true ↔ 1 ≤ d.2 := by simp [overS]
theorem unit_pos {x : Int} (h : 1 ≤ x) : 0 < unitS * x := by unfold unitS; omega
theorem unit_mono {x y : Int} (h : x ≤ y) : unitS * x ≤ unitS * y := by unfold unitS; omega
theorem long_nn {sz : Int} (h : 0 ≤ sz) (dir : Nat) : 0 ≤ longS sz dir ∧ longS sz dir ≤ wideS sz dir := by unfold longS wideS; split <;> omega
theorem termLo_nn {dr s long : Int} {d : Sp} (h0 : 0 ≤ dr) (h1 : 0 ≤ s) (h2 : 0 ≤ long) (hd : 1 ≤ d.2) : 0 ≤ termLo dr s long d :=
  Int.ediv_nonneg (mul3 h0 (Int.le_refl _) h1 (Int.le_refl _) h2).1 (Int.le_of_lt (unit_pos hd))
theorem sceil_nn {a b : Int} (ha : 0 ≤ a) (hb : 0 < b) : 0 ≤ sceil a b := by
  have h := sceil_mono hb ha
  simpa [sceil] using h
theorem floor_le_sceil {a b : Int} (hb : 0 < b) : a / b ≤ sceil a b := by
  unfold sceil
  have h1 := Int.mul_ediv_add_emod a b
  have h2 := Int.emod_nonneg a (show b ≠ 0 by omega)
  have h3 : -a / b ≤ -(a / b) := by
    refine Int.ediv_le_of_le_mul hb ?_
    have := Int.ediv_mul_le a (show b ≠ 0 by omega)
    rw [Int.neg_mul]; omega
  omega
theorem termHi_nn {dr s wide : Int} {d : Sp} (h0 : 0 ≤ dr) (h1 : 0 ≤ s) (h2 : 0 ≤ wide) : 0 ≤ termHi dr s wide d :=
  sceil_nn (mul3 h0 (Int.le_refl _) h1 (Int.le_refl _) h2).1 (unit_pos (by omega))

/-- Less doubt: a narrower rise. -/
theorem rise_in {m k : SurM} (h : m.In k) (cell dir : Nat) {v v' : Sp} (hv : sub v v') (hv0 : 0 ≤ v'.1) : sub (m.rise cell dir v) (k.rise cell dir v') := by
  obtain ⟨v1, v2, v3⟩ := hv
  obtain ⟨r1, r2, r3⟩ := h.drag
  have r0 := h.drag1
  obtain ⟨l1, l2⟩ := long_nn h.sz1 dir
  have hr : rayL m.W m.H cell dir = rayL k.W k.H cell dir := by rw [h.W, h.H]
  have hd : ∀ c ∈ rayL k.W k.H cell dir, sub (depthS m.sea m.gr c) (depthS k.sea k.gr c) := fun c hc => depth_in h (by have := rayF_lt _ _ _ c hc; exact_mod_cast this)
  unfold SurM.rise fetchL
  rw [hr, h.sz]
  refine ⟨?_, ?_, ?_⟩
  · refine sum_le _ (fun c hc hq => ?_) fun c hc hp => ?_
    · rw [over_true] at hq
      exact termLo_nn (by omega) (by omega) l1 hq.2
    · obtain ⟨e1, e2, e3⟩ := hd c hc
      rw [over_true] at hp
      refine ⟨over_true.2 (by omega), ?_⟩
      obtain ⟨a1, a2⟩ := mul3 (a := k.drag.1) (b := m.drag.1) (s := v'.1) (t := v.1) r0 (by omega) hv0 (by omega) l1
      unfold termLo
      have := Int.ediv_le_ediv (unit_pos (x := (depthS k.sea k.gr c).2) (by omega)) a2
      have := sfloor_anti (a := m.drag.1 * v.1 * v.1 * longS k.sz dir) (by omega) (unit_pos (x := (depthS m.sea m.gr c).2) (by omega)) (unit_mono (show (depthS m.sea m.gr c).2 ≤ (depthS k.sea k.gr c).2 by omega))
      omega
  · refine sum_le _ (fun c hc hq => ?_) fun c hc hp => ?_
    · exact termHi_nn (by omega) (by omega) (by omega)
    · obtain ⟨e1, e2, e3⟩ := hd c hc
      rw [over_false] at hp
      refine ⟨over_false.2 (by omega), ?_⟩
      obtain ⟨a1, a2⟩ := mul3 (a := m.drag.2) (b := k.drag.2) (s := v.2) (t := v'.2) (by omega) (by omega) (by omega) (by omega) (show 0 ≤ wideS k.sz dir by omega)
      unfold termHi
      have := sceil_mono (unit_pos (x := max 1 (depthS m.sea m.gr c).1) (by omega)) a2
      have := sceil_anti (a := k.drag.2 * v'.2 * v'.2 * wideS k.sz dir) (by omega) (unit_pos (x := max 1 (depthS k.sea k.gr c).1) (by omega)) (unit_mono (show max 1 (depthS k.sea k.gr c).1 ≤ max 1 (depthS m.sea m.gr c).1 by omega))
      omega
  · refine sum_le _ (fun c hc hq => ?_) fun c hc hp => ?_
    · exact termHi_nn (by omega) (by omega) (by omega)
    · obtain ⟨e1, e2, e3⟩ := hd c hc
      rw [over_true] at hp
      refine ⟨over_false.2 (by omega), ?_⟩
      obtain ⟨a1, a2⟩ := mul3 (a := m.drag.1) (b := m.drag.2) (s := v.1) (t := v.2) (by omega) (by omega) (by omega) (by omega) l1
      have a3 : m.drag.2 * v.2 * v.2 * longS k.sz dir ≤ m.drag.2 * v.2 * v.2 * wideS k.sz dir :=
        Int.mul_le_mul_of_nonneg_left l2 (Int.mul_nonneg (Int.mul_nonneg (by omega) (by omega)) (by omega))
      unfold termLo termHi
      have b1 := Int.ediv_le_ediv (unit_pos (x := (depthS m.sea m.gr c).2) (by omega)) (Int.le_trans a2 a3)
      have b2 := floor_le_sceil (a := m.drag.2 * v.2 * v.2 * wideS k.sz dir) (unit_pos (x := (depthS m.sea m.gr c).2) (by omega))
      have b3 := sceil_anti (a := m.drag.2 * v.2 * v.2 * wideS k.sz dir) (by omega) (unit_pos (x := max 1 (depthS m.sea m.gr c).1) (by omega)) (unit_mono (show max 1 (depthS m.sea m.gr c).1 ≤ (depthS m.sea m.gr c).2 by omega))
      omega

def SurM.setup (m : SurM) (cell dir : Nat) (v : Sp) : Sp := spMinus (m.rise cell ((dir + 4) % 8) v) (m.rise cell dir v)
theorem setup_in {m k : SurM} (h : m.In k) (cell dir : Nat) {v v' : Sp} (hv : sub v v') (hv0 : 0 ≤ v'.1) : sub (m.setup cell dir v) (k.setup cell dir v') :=
  sub_minus (rise_in h cell _ hv hv0) (rise_in h cell dir hv hv0)

/-- The hull of spans. -/
def hullS (a : Sp) (l : List Sp) : Sp := l.foldl (fun a s => (min a.1 s.1, max a.2 s.2)) a
theorem hull_in {f g : Nat → Sp} : ∀ (l : List Nat) {a b : Sp}, sub a b → (∀ d ∈ l, sub (f d) (g d)) → sub (hullS a (l.map f)) (hullS b (l.map g))
  | [], a, b, h, _ => h
  | d :: l, a, b, h, hl => by
    have h1 := hl d (by simp)
    refine hull_in l (a := (min a.1 (f d).1, max a.2 (f d).2)) (b := (min b.1 (g d).1, max b.2 (g d).2)) ?_ fun e he => hl e (by simp [he])
    obtain ⟨a1, a2, a3⟩ := h
    obtain ⟨b1, b2, b3⟩ := h1
    unfold sub
    simp only
    omega

structure WindS where
  speed : Sp
  dirs : Int
  low : Sp
def dirsL (n : Int) : List Nat := (List.range 8).filter fun d => n / 2 ^ d % 2 == 1
def lowS (low : Sp) : Sp := (2560 * low.1 / 981, sceil (2560 * low.2) 981)
def SurM.steady (m : SurM) (cell : Nat) (w : WindS) : Sp :=
  match dirsL w.dirs with
  | [] => (0, 0)
  | d :: l => let s := hullS (m.setup cell d w.speed) (l.map fun e => m.setup cell e w.speed); (s.1 + (lowS w.low).1, s.2 + (lowS w.low).2)
theorem steady_in {m k : SurM} (h : m.In k) (cell : Nat) {w w' : WindS} (hv : sub w.speed w'.speed) (hv0 : 0 ≤ w'.speed.1) (hd : w.dirs = w'.dirs) (hl : w.low = w'.low) (hl1 : w'.low.1 ≤ w'.low.2) : sub (m.steady cell w) (k.steady cell w') := by
  unfold SurM.steady
  rw [hd, hl]
  cases dirsL w'.dirs with
  | nil => exact ⟨Int.le_refl _, Int.le_refl _, Int.le_refl _⟩
  | cons d l =>
    obtain ⟨a1, a2, a3⟩ := hull_in l (setup_in h cell d hv hv0) (f := fun e => m.setup cell e w.speed) (g := fun e => k.setup cell e w'.speed) fun e _ => setup_in h cell e hv hv0
    have : (lowS w'.low).1 ≤ (lowS w'.low).2 := by
      unfold lowS
      simp only
      have b1 := floor_le_sceil (a := 2560 * w'.low.1) (show (0 : Int) < 981 by omega)
      have b2 := sceil_mono (show (0 : Int) < 981 by omega) (show 2560 * w'.low.1 ≤ 2560 * w'.low.2 by omega)
      omega
    unfold sub
    simp only
    omega

/-! How a level follows. -/
def followS (lag z s : Sp) : Sp :=
  (z.1 + (if s.1 < z.1 then lag.2 else lag.1) * (s.1 - z.1) / 1024, z.2 + sceil ((if s.2 < z.2 then lag.1 else lag.2) * (s.2 - z.2)) 1024)
theorem fol_mono {t z s z' s' : Int} (h0 : 0 ≤ t) (h1 : t ≤ 1024) (hz : z ≤ z') (hs : s ≤ s') : z + t * (s - z) / 1024 ≤ z' + t * (s' - z') / 1024 := by
  have e : t * (s - z) ≤ t * (s' - z') + (z' - z) * 1024 := by
    have h2 : t * (s - z) ≤ t * (s' - z) := Int.mul_le_mul_of_nonneg_left (by omega) h0
    have h3 : t * (s' - z) = t * (s' - z') + t * (z' - z) := by rw [← Int.mul_add]; congr 1; omega
    have h4 : t * (z' - z) ≤ 1024 * (z' - z) := Int.mul_le_mul_of_nonneg_right h1 (by omega)
    omega
  have := Int.ediv_le_ediv (show (0 : Int) < 1024 by omega) e
  rw [Int.add_mul_ediv_right _ _ (by omega)] at this
  omega
theorem fol_lag {lo hi t d : Int} (h0 : lo ≤ t) (h1 : t ≤ hi) : (if d < 0 then hi else lo) * d ≤ t * d := by
  split
  · exact Int.mul_le_mul_of_nonpos_right h1 (by omega)
  · exact Int.mul_le_mul_of_nonneg_right h0 (by omega)
theorem fol_lag' {lo hi t d : Int} (h0 : lo ≤ t) (h1 : t ≤ hi) : t * d ≤ (if d < 0 then lo else hi) * d := by
  split
  · exact Int.mul_le_mul_of_nonpos_right h0 (by omega)
  · exact Int.mul_le_mul_of_nonneg_right h1 (by omega)
theorem folc_mono {t z s z' s' : Int} (h0 : 0 ≤ t) (h1 : t ≤ 1024) (hz : z ≤ z') (hs : s ≤ s') : z + sceil (t * (s - z)) 1024 ≤ z' + sceil (t * (s' - z')) 1024 := by
  have h := fol_mono (t := t) (z := -z') (s := -s') (z' := -z) (s' := -s) h0 h1 (by omega) (by omega)
  have e1 : t * (-s' - -z') = -(t * (s' - z')) := by rw [← Int.mul_neg]; congr 1; omega
  have e2 : t * (-s - -z) = -(t * (s - z)) := by rw [← Int.mul_neg]; congr 1; omega
  rw [e1, e2] at h
  unfold sceil
  omega
theorem follow_in {lag lag' z z' s s' : Sp} (hl : sub lag lag') (h0 : 0 ≤ lag'.1) (h1 : lag'.2 ≤ 1024) (hz : sub z z') (hs : sub s s') : sub (followS lag z s) (followS lag' z' s') := by
  obtain ⟨l1, l2, l3⟩ := hl
  obtain ⟨z1, z2, z3⟩ := hz
  obtain ⟨s1, s2, s3⟩ := hs
  have key : ∀ {a b : Int}, (a < b) ↔ (a - b < 0) := by intro a b; omega
  unfold sub followS
  simp only [key (a := s.1), key (a := s.2), key (a := s'.1), key (a := s'.2)]
  refine ⟨?_, ?_, ?_⟩
  · have t1 : lag'.1 ≤ (if s.1 - z.1 < 0 then lag.2 else lag.1) ∧ (if s.1 - z.1 < 0 then lag.2 else lag.1) ≤ lag'.2 := by split <;> omega
    have a1 := fol_lag (d := s'.1 - z'.1) t1.1 t1.2
    have a2 := Int.ediv_le_ediv (show (0 : Int) < 1024 by omega) a1
    have a3 := fol_mono (t := (if s.1 - z.1 < 0 then lag.2 else lag.1)) (by omega) (by omega) z1 s1
    omega
  · have t1 : lag'.1 ≤ (if s.2 - z.2 < 0 then lag.1 else lag.2) ∧ (if s.2 - z.2 < 0 then lag.1 else lag.2) ≤ lag'.2 := by split <;> omega
    have a1 := fol_lag' (d := s'.2 - z'.2) t1.1 t1.2
    have a2 := sceil_mono (show (0 : Int) < 1024 by omega) a1
    have a3 := folc_mono (t := (if s.2 - z.2 < 0 then lag.1 else lag.2)) (by omega) (by omega) z2 s2
    omega
  · have a1 := fol_lag (lo := lag.1) (hi := lag.2) (t := lag.1) (d := s.1 - z.1) (Int.le_refl _) l3
    have a2 := Int.ediv_le_ediv (show (0 : Int) < 1024 by omega) a1
    have a3 := fol_mono (t := lag.1) (by omega) (by omega) z3 s3
    have a4 := floor_le_sceil (a := lag.1 * (s.2 - z.2)) (show (0 : Int) < 1024 by omega)
    have a5 := fol_lag' (lo := lag.1) (hi := lag.2) (t := lag.1) (d := s.2 - z.2) (Int.le_refl _) l3
    have a6 := sceil_mono (show (0 : Int) < 1024 by omega) a5
    omega

/-- The levels behind some winds. -/
def SurM.run (m : SurM) (cell : Nat) : Sp → List WindS → List Sp
  | _, [] => []
  | z, w :: l => let y := followS m.lag z (m.steady cell w); y :: m.run cell y l
theorem run_length (m : SurM) (cell : Nat) : ∀ (z : Sp) (l : List WindS), (m.run cell z l).length = l.length
  | _, [] => rfl
  | z, w :: l => by simp [SurM.run, run_length m cell _ l]
structure WindIn (w w' : WindS) : Prop where
  speed : sub w.speed w'.speed
  pos : 0 ≤ w'.speed.1
  dirs : w.dirs = w'.dirs
  low : w.low = w'.low
  low1 : w'.low.1 ≤ w'.low.2
inductive Two {α β : Type} (R : α → β → Prop) : List α → List β → Prop where
  | nil : Two R [] []
  | cons {a : α} {b : β} {l : List α} {l' : List β} : R a b → Two R l l' → Two R (a :: l) (b :: l')
theorem run_in {m k : SurM} (h : m.In k) (cell : Nat) : ∀ (l l' : List WindS) {z z' : Sp}, sub z z' → Two WindIn l l' → Two sub (m.run cell z l) (k.run cell z' l')
  | _, _, _, _, _, .nil => .nil
  | _, _, _, _, hz, .cons hw hl => by
    have hs := follow_in h.lag h.lag1 h.lag2 hz (steady_in h cell hw.speed hw.pos hw.dirs hw.low hw.low1)
    exact .cons hs (run_in h cell _ _ hs hl)

def cmS (z : Sp) : Sp := (z.1 / 256, sceil z.2 256)
theorem cm_in {z z' : Sp} (h : sub z z') : sub (cmS z) (cmS z') := by
  obtain ⟨h1, h2, h3⟩ := h
  have a1 := Int.ediv_le_ediv (show (0 : Int) < 256 by omega) h1
  have a2 := sceil_mono (show (0 : Int) < 256 by omega) h2
  have a3 := floor_le_sceil (a := z.1) (show (0 : Int) < 256 by omega)
  have a4 := sceil_mono (show (0 : Int) < 256 by omega) h3
  unfold sub cmS
  simp only
  omega
end Go.Proofs.Ytfbmjecikilghaa
namespace Go.Proofs.Ytfbmjecikilghaa
open Go.RowKit

set_option maxHeartbeats 2000000 in
set_option maxRecDepth 100000 in
theorem uof_any (lo hi : Int) (w : World) :
    Calls Try.prog 79 #[.int .i64 lo, .int .i64 hi] w fun e w' => e = .returned (.agg #[.int .i64 lo, .int .i64 hi]) ∧ Below w.heap.size w w' := by
  go_enter Try.func79, Try.ntmps79
  go_wp2
  ((try simp only [Exit.inBlock, Exit.then]); refine bodyPost_ret (v := .agg #[.int .i64 lo, .int .i64 hi]) (by simp [results, Try.results79, go_sem, *]) rfl ?_)
  exact ⟨rfl, (by repeat (first | exact Below.refl _ _ | (refine bl_setCell ?_ _ _ ?_; rotate_left; focus (first | omega | (simp; done) | (simp; omega))) | refine bl_alloc ?_ _ | refine bl_step ?_ (by assumption) | refine bl_drew ?_ | refine bl_drewN ?_ _))⟩

set_option maxHeartbeats 2000000 in
set_option maxRecDepth 100000 in
theorem uminus_any (a b c d : Int) (ha : -2000000000000000000 ≤ a ∧ a ≤ 2000000000000000000) (hb : -2000000000000000000 ≤ b ∧ b ≤ 2000000000000000000) (hc : -2000000000000000000 ≤ c ∧ c ≤ 2000000000000000000) (hd : -2000000000000000000 ≤ d ∧ d ≤ 2000000000000000000) (w : World) :
    Calls Try.prog 93 #[.agg #[.int .i64 a, .int .i64 b], .agg #[.int .i64 c, .int .i64 d]] w fun e w' => e = .returned (.agg #[.int .i64 (a - d), .int .i64 (b - c)]) ∧ Below w.heap.size w w' := by
  obtain ⟨ha0, ha1⟩ := ha
  obtain ⟨hb0, hb1⟩ := hb
  obtain ⟨hc0, hc1⟩ := hc
  obtain ⟨hd0, hd1⟩ := hd
  go_enter Try.func93, Try.ntmps93
  go_wp2_with (go_at_call 79; refine (uof_any _ _ _).mono ?_; rintro e w1 ⟨rfl, hb1⟩; obtain ⟨_, _, _⟩ := bk (w.heap.size) hb1 (by (first | omega | (simp; done) | (simp; omega))); obtain ⟨_, _, _⟩ := bk (w.heap.size + 1) hb1 (by (first | omega | (simp; done) | (simp; omega))); obtain ⟨_, _, _⟩ := bk (w.heap.size + 2) hb1 (by (first | omega | (simp; done) | (simp; omega))); have hzhb1 := bsz hb1; try simp only [World.size_alloc] at hzhb1)
  ((try simp only [Exit.inBlock, Exit.then]); refine bodyPost_ret (v := .agg #[.int .i64 (a - d), .int .i64 (b - c)]) (by simp [results, Try.results93, go_sem, *]) rfl ?_)
  exact ⟨rfl, (by repeat (first | exact Below.refl _ _ | (refine bl_setCell ?_ _ _ ?_; rotate_left; focus (first | omega | (simp; done) | (simp; omega))) | refine bl_alloc ?_ _ | refine bl_step ?_ (by assumption) | refine bl_drew ?_ | refine bl_drewN ?_ _))⟩

theorem floor_neg {a b : Int} (hb : 0 < b) (ha : a < 0) : -((b - 1 - a).tdiv b) = a / b := by
  rw [Int.tdiv_eq_ediv_of_nonneg (by omega)]
  have h1 := Int.mul_ediv_add_emod a b
  have h2 := Int.emod_nonneg a (show b ≠ 0 by omega)
  have h3 := Int.emod_lt_of_pos a hb
  have e : (b - 1 - a) / b = -(a / b) := by
    refine ((Int.ediv_emod_unique hb (r := b - 1 - a % b) (q := -(a / b))).2 ⟨?_, by omega, by omega⟩).1
    rw [Int.mul_neg]; omega
  omega
theorem quo_bd {a b : Int} (hb : 0 < b) (ha : 0 ≤ a) : 0 ≤ a.tdiv b ∧ a.tdiv b ≤ a := by
  rw [Int.tdiv_eq_ediv_of_nonneg ha]
  exact ⟨Int.ediv_nonneg ha (by omega), Int.ediv_le_self _ ha⟩

set_option maxHeartbeats 2000000 in
set_option maxRecDepth 100000 in
theorem ufloor_any (a b : Int) (hb0 : 0 < b) (hb1 : b ≤ 4611686018427387904) (ha0 : -4000000000000000000 ≤ a) (ha1 : a ≤ 4000000000000000000) (w : World) :
    Calls Try.prog 80 #[.int .i64 a, .int .i64 b] w fun e w' => e = .returned (.int .i64 (a / b)) ∧ w = w' := by
  by_cases h : a < 0
  · have hq := floor_neg hb0 h
    have hbd := quo_bd (a := b - 1 - a) hb0 (by omega)
    obtain ⟨x, hx⟩ : ∃ x, b - 1 - a = x := ⟨_, rfl⟩
    rw [hx] at hq hbd
    obtain ⟨y, hy⟩ : ∃ y, x.tdiv b = y := ⟨_, rfl⟩
    rw [hy] at hq hbd
    obtain ⟨q0, q1⟩ := hbd
    have hb2 : ¬ b = 0 := by omega
    go_enter Try.func80, Try.ntmps80
    go_wp2
    go_ret
    exact ⟨ret_int (by omega), rfl⟩
  · have hq := Int.tdiv_eq_ediv_of_nonneg (a := a) (b := b) (by omega)
    have hbd := quo_bd (a := a) hb0 (by omega)
    obtain ⟨y, hy⟩ : ∃ y, a.tdiv b = y := ⟨_, rfl⟩
    rw [hy] at hq hbd
    obtain ⟨q0, q1⟩ := hbd
    have hb2 : ¬ b = 0 := by omega
    go_enter Try.func80, Try.ntmps80
    go_wp2
    go_ret
    exact ⟨ret_int (by omega), rfl⟩

set_option maxHeartbeats 2000000 in
set_option maxRecDepth 100000 in
theorem uceil_any (a b : Int) (hb0 : 0 < b) (hb1 : b ≤ 4611686018427387904) (ha0 : -4000000000000000000 ≤ a) (ha1 : a ≤ 4000000000000000000) (w : World) :
    Calls Try.prog 81 #[.int .i64 a, .int .i64 b] w fun e w' => e = .returned (.int .i64 (sceil a b)) ∧ w = w' := by
  have hbd := ediv_bd (a := -a) hb0 (by omega) (by omega)
  obtain ⟨y, hy⟩ : ∃ y, -a / b = y := ⟨_, rfl⟩
  have hf := ufloor_any (-a) b hb0 hb1 (by omega) (by omega)
  rw [hy] at hbd hf
  obtain ⟨y0, y1⟩ := hbd
  go_enter Try.func81, Try.ntmps81
  go_wp2_with (go_at_call 80; refine (hf _).mono ?_; rintro e w' ⟨rfl, rfl⟩)
  go_ret
  exact ⟨ret_int (by unfold sceil; rw [hy]), rfl⟩

set_option maxHeartbeats 2000000 in
set_option maxRecDepth 100000 in
theorem uwithin_any (a b lo hi : Int) (w : World) :
    Calls Try.prog 53 #[.agg #[.int .i64 a, .int .i64 b], .int .i64 lo, .int .i64 hi] w fun e w' => e = .returned (.bool (vldB a b lo hi)) ∧ Below w.heap.size w w' := by
  go_enter Try.func53, Try.ntmps53
  go_wp2
  all_goals go_ret
  all_goals exact ⟨by simp_all [vldB] <;> omega, (by repeat (first | exact Below.refl _ _ | (refine bl_setCell ?_ _ _ ?_; rotate_left; focus (first | omega | (simp; done) | (simp; omega))) | refine bl_alloc ?_ _ | refine bl_step ?_ (by assumption) | refine bl_drew ?_ | refine bl_drewN ?_ _))⟩

abbrev watC (W H sz : Int) (ga : Option Addr) (n gc : Nat) (s0 s1 : Int) : Array Value := #[.int .i64 W, .int .i64 H, .int .i64 sz, .slice ga n gc, .int .i64 s0, .int .i64 s1]
set_option maxHeartbeats 2000000 in
set_option maxRecDepth 100000 in
theorem ucells_any (W H sz : Int) (ga : Option Addr) (n gc : Nat) (s0 s1 : Int) (N : Int) (hN : W * H = N) (h0 : 0 ≤ N) (h1 : N ≤ 1000000) (w : World) :
    Calls Try.prog 91 #[.agg (watC W H sz ga n gc s0 s1)] w fun e w' => e = .returned (.int .i64 N) ∧ Below w.heap.size w w' := by
  go_enter Try.func91, Try.ntmps91
  go_wp2
  go_ret
  exact ⟨rfl, (by repeat (first | exact Below.refl _ _ | (refine bl_setCell ?_ _ _ ?_; rotate_left; focus (first | omega | (simp; done) | (simp; omega))) | refine bl_alloc ?_ _ | refine bl_step ?_ (by assumption) | refine bl_drew ?_ | refine bl_drewN ?_ _))⟩

set_option maxHeartbeats 2000000 in
set_option maxRecDepth 100000 in
theorem uhas_any (W H sz : Int) (ga : Option Addr) (n gc : Nat) (s0 s1 : Int) (N cell : Int) (hN : W * H = N) (h1 : N ≤ 1000000) (hc0 : 0 ≤ cell) (hc1 : cell < N) (w : World) :
    Calls Try.prog 78 #[.agg (watC W H sz ga n gc s0 s1), .int .i64 cell] w fun e w' => e = .returned (.int .i64 0) ∧ Below w.heap.size w w' := by
  have hc := ucells_any W H sz ga n gc s0 s1 N hN (by omega) h1
  clear hN
  go_enter Try.func78, Try.ntmps78
  go_wp2_with (go_at_call 91; refine (hc _).mono ?_; rintro e w1 ⟨rfl, hb1⟩; obtain ⟨_, _, _⟩ := bk (w.heap.size) hb1 (by (first | omega | (simp; done) | (simp; omega))); have hzhb1 := bsz hb1; try simp only [World.size_alloc] at hzhb1)
  go_ret
  exact ⟨rfl, (by repeat (first | exact Below.refl _ _ | (refine bl_setCell ?_ _ _ ?_; rotate_left; focus (first | omega | (simp; done) | (simp; omega))) | refine bl_alloc ?_ _ | refine bl_step ?_ (by assumption) | refine bl_drew ?_ | refine bl_drewN ?_ _))⟩
end Go.Proofs.Ytfbmjecikilghaa
namespace Go.Proofs.Ytfbmjecikilghaa
open Go.RowKit

set_option maxHeartbeats 4000000 in
set_option maxRecDepth 100000 in
theorem udepth_any (B : Nat) (W H sz s0 s1 : Int) (gr : List (Int × Int)) (ga : Option Addr) (gc : Nat) (c : Int) (w : World) (hS : Sl SpanE 2 B w ga gr) (hB : B ≤ w.heap.size) (h0 : 0 ≤ c) (h1 : c < (gr.length : Int)) (hg : ∀ u ∈ gr, gok u)
    (hs : -1000000 ≤ s0 ∧ s0 ≤ 1000000) (ht : -1000000 ≤ s1 ∧ s1 ≤ 1000000) :
    Calls Try.prog 108 #[.agg (watC W H sz ga gr.length gc s0 s1), .int .i64 c] w fun e w' => e = .returned (.agg #[.int .i64 (s0 - (gr.getD c.toNat (0, 0)).2), .int .i64 (s1 - (gr.getD c.toNat (0, 0)).1)]) ∧ Below w.heap.size w w' := by
  obtain ⟨b, off, rfl, hb, he⟩ := hS.at h0 h1 (0, 0)
  have hgk : gok (gr.getD c.toNat (0, 0)) := by
    have hk : c.toNat < gr.length := by omega
    rw [List.getD_eq_getElem?_getD, List.getElem?_eq_getElem hk]
    exact hg _ (List.getElem_mem hk)
  obtain ⟨u, hu⟩ : ∃ u, gr.getD c.toNat (0, 0) = u := ⟨_, rfl⟩
  rw [hu] at he hgk ⊢
  obtain ⟨u1, u2⟩ := u
  obtain ⟨e0, e1⟩ := he
  obtain ⟨k0, k1, k2⟩ := hgk
  simp only at e0 e1 k0 k1 k2 ⊢
  have hbw : b < w.heap.size := by omega
  obtain ⟨n, hn⟩ : ∃ n, gr.length = n := ⟨_, rfl⟩
  rw [hn] at h1 ⊢
  obtain ⟨s00, s01⟩ := hs
  obtain ⟨s10, s11⟩ := ht
  clear hS hu hg hn
  go_enter Try.func108, Try.ntmps108
  go_upto_region 1 with fail
  have x0 : ((w.alloc (.cells #[.int .i64 W, .int .i64 H, .int .i64 sz, .slice (some ⟨b, off, none⟩) n gc, .int .i64 s0, .int .i64 s1] 117)).alloc (.cells #[.int .i64 0, .int .i64 0] 122)).heap[w.heap.size]? = some (.cells #[.int .i64 W, .int .i64 H, .int .i64 sz, .slice (some ⟨b, off, none⟩) n gc, .int .i64 s0, .int .i64 s1] 117 (0, 0)) := heap_alloc_off (heap_alloc_at _ _) _
  have x1 : ((w.alloc (.cells #[.int .i64 W, .int .i64 H, .int .i64 sz, .slice (some ⟨b, off, none⟩) n gc, .int .i64 s0, .int .i64 s1] 117)).alloc (.cells #[.int .i64 0, .int .i64 0] 122)).heap[w.heap.size + 1]? = some (.cells #[.int .i64 0, .int .i64 0] 122 (0, 0)) := heap_alloc_at' _ _ (by simp)
  have hbd : Below w.heap.size w ((w.alloc (.cells #[.int .i64 W, .int .i64 H, .int .i64 sz, .slice (some ⟨b, off, none⟩) n gc, .int .i64 s0, .int .i64 s1] 117)).alloc (.cells #[.int .i64 0, .int .i64 0] 122)) := (by repeat (first | exact Below.refl _ _ | (refine bl_setCell ?_ _ _ ?_; rotate_left; focus (first | omega | (simp; done) | (simp; omega))) | refine bl_alloc ?_ _ | refine bl_step ?_ (by assumption) | refine bl_drew ?_ | refine bl_drewN ?_ _))
  generalize ((w.alloc (.cells #[.int .i64 W, .int .i64 H, .int .i64 sz, .slice (some ⟨b, off, none⟩) n gc, .int .i64 s0, .int .i64 s1] 117)).alloc (.cells #[.int .i64 0, .int .i64 0] 122)) = wd at x0 x1 hbd ⊢
  have f0 := ek_cell hbd hbw e0
  have f1 := ek_cell hbd hbw e1
  have hbl : b < wd.heap.size := by have := hbd.size; omega
  have x0c := cells_of x0
  have x0l := lt_of_heap x0
  have hI : Below wd.heap.size wd wd.drew := (Below.refl _ _).drew
  clear e0 e1
  have Hx0 := Lib.hid x0; clear x0; have Hx1 := Lib.hid x1; clear x1; have Hhbd := Lib.hid hbd; clear hbd
  refine wp_region_ord (fun W => Below wd.heap.size wd W) [([0, 1, 2, 3, 4, 5, 6, 7, 8, 9], 10)] [] (some 11) (by kernel_rfl) (by kernel_rfl) hI ?_
  refine OrdI_cons ?_
  (apply StI_plain (w0 := wd.drew) hI rfl rfl rfl rfl; (focus (intro W hW K hK; obtain ⟨_, _⟩ := bk w.heap.size hW x0l; obtain ⟨_, _⟩ := bk b hW hbl; go_step; exact hK)); (focus rfl)); (apply StI_plain (w0 := wd.drew) hI rfl rfl rfl rfl; (focus (intro W hW K hK; obtain ⟨_, _⟩ := bk w.heap.size hW x0l; obtain ⟨_, _⟩ := bk b hW hbl; go_step; exact hK)); (focus rfl)); (apply StI_plain (w0 := wd.drew) hI rfl rfl rfl rfl; (focus (intro W hW K hK; obtain ⟨_, _⟩ := bk w.heap.size hW x0l; obtain ⟨_, _⟩ := bk b hW hbl; go_step; exact hK)); (focus rfl)); (apply StI_plain (w0 := wd.drew) hI rfl rfl rfl rfl; (focus (intro W hW K hK; obtain ⟨_, _⟩ := bk w.heap.size hW x0l; obtain ⟨_, _⟩ := bk b hW hbl; go_step; exact hK)); (focus rfl)); (apply StI_plain (w0 := wd.drew) hI rfl rfl rfl rfl; (focus (intro W hW K hK; obtain ⟨_, _⟩ := bk w.heap.size hW x0l; obtain ⟨_, _⟩ := bk b hW hbl; go_step; exact hK)); (focus rfl)); (apply StI_plain (w0 := wd.drew) hI rfl rfl rfl rfl; (focus (intro W hW K hK; obtain ⟨_, _⟩ := bk w.heap.size hW x0l; obtain ⟨_, _⟩ := bk b hW hbl; go_step; exact hK)); (focus rfl)); (apply StI_plain (w0 := wd.drew) hI rfl rfl rfl rfl; (focus (intro W hW K hK; obtain ⟨_, _⟩ := bk w.heap.size hW x0l; obtain ⟨_, _⟩ := bk b hW hbl; go_step; exact hK)); (focus rfl)); (apply StI_plain (w0 := wd.drew) hI rfl rfl rfl rfl; (focus (intro W hW K hK; obtain ⟨_, _⟩ := bk w.heap.size hW x0l; obtain ⟨_, _⟩ := bk b hW hbl; go_step; exact hK)); (focus rfl)); (apply StI_plain (w0 := wd.drew) hI rfl rfl rfl rfl; (focus (intro W hW K hK; obtain ⟨_, _⟩ := bk w.heap.size hW x0l; obtain ⟨_, _⟩ := bk b hW hbl; go_step; exact hK)); (focus rfl)); (apply StI_plain (w0 := wd.drew) hI rfl rfl rfl rfl; (focus (intro W hW K hK; obtain ⟨_, _⟩ := bk w.heap.size hW x0l; obtain ⟨_, _⟩ := bk b hW hbl; go_step; exact hK)); (focus rfl))
  (apply StI_eff rfl; go_wp2_with (first | (go_at_call 93; refine (uminus_any s0 s1 u1 u2 ⟨by omega, by omega⟩ ⟨by omega, by omega⟩ ⟨by omega, by omega⟩ ⟨by omega, by omega⟩ _).mono ?_; rintro e w1 ⟨rfl, hb1⟩)))
  have hI1 : Below wd.heap.size wd w1 := below_mid hI (Nat.le_refl _) hb1
  refine onNormal_mk hI1 (OrdI_snk ?_)
  have y1 := heap_below hI1 Hx1.out
  have hbe := bl_step Hhbd.out hI1
  have y1c := cells_of y1
  have y1f := frozen_of y1
  have y1l := lt_of_heap y1
  have Hy1 := Lib.hid y1; clear y1; have Hhbe := Lib.hid hbe; clear hbe
  (apply StI_eff rfl; go_wp2_with (first | fail))
  refine onNormal_last ?_
  go_wp2_with fail
  ((try simp only [Exit.inBlock, Exit.then]); refine bodyPost_ret (v := .agg #[.int .i64 (s0 - u2), .int .i64 (s1 - u1)]) (by simp [results, Try.results108, go_sem, *]) rfl ?_)
  exact ⟨rfl, bl_setCell (bl_setCell Hhbe.out _ _ (by show _ ≤ w.heap.size + 1; omega)) _ _ (by show _ ≤ w.heap.size + 1; omega)⟩

abbrev modC (d0 d1 l0 l1 : Int) : Array Value := #[.int .i64 d0, .int .i64 d1, .int .i64 l0, .int .i64 l1]
theorem lag_bd {t d : Int} (h0 : 0 ≤ t) (h1 : t ≤ 1024) (hd : -3000000000000000 ≤ d ∧ d ≤ 3000000000000000) : -3100000000000000000 ≤ t * d ∧ t * d ≤ 3100000000000000000 := by
  obtain ⟨d0, d1⟩ := hd
  have a1 := Int.mul_le_mul_of_nonneg_left d1 h0
  have a2 := Int.mul_le_mul_of_nonneg_left d0 h0
  omega
def FolB (wd : World) (dn up : Int) (v9 v10 : Value) (wx : World) : Prop := v9 = .int .i64 dn ∧ v10 = .int .i64 up ∧ Below wd.heap.size wd wx

set_option maxHeartbeats 4000000 in
set_option maxRecDepth 100000 in
theorem ufollow_any (d0 d1 l0 l1 z0 z1 s0 s1 : Int) (hl0 : 0 ≤ l0 ∧ l0 ≤ 1024) (hl1 : 0 ≤ l1 ∧ l1 ≤ 1024) (hz0 : -1000000000000000 ≤ z0 ∧ z0 ≤ 1000000000000000) (hz1 : -1000000000000000 ≤ z1 ∧ z1 ≤ 1000000000000000) (hs0 : -1000000000000000 ≤ s0 ∧ s0 ≤ 1000000000000000) (hs1 : -1000000000000000 ≤ s1 ∧ s1 ≤ 1000000000000000)
    (x y : Int) (hx : (followS (l0, l1) (z0, z1) (s0, s1)).1 = x) (hy : (followS (l0, l1) (z0, z1) (s0, s1)).2 = y) (w : World) :
    Calls Try.prog 55 #[.agg (modC d0 d1 l0 l1), .agg #[.int .i64 z0, .int .i64 z1], .agg #[.int .i64 s0, .int .i64 s1]] w fun e w' => e = .returned (.agg #[.int .i64 x, .int .i64 y]) ∧ Below w.heap.size w w' := by
  obtain ⟨dn, hdn⟩ : ∃ d, (if s0 < z0 then l1 else l0) = d := ⟨_, rfl⟩
  obtain ⟨up, hup⟩ : ∃ d, (if s1 < z1 then l0 else l1) = d := ⟨_, rfl⟩
  unfold followS at hx hy
  simp only at hx hy
  rw [hdn] at hx
  rw [hup] at hy
  have bdn : 0 ≤ dn ∧ dn ≤ 1024 := by rw [← hdn]; split <;> omega
  have bup : 0 ≤ up ∧ up ≤ 1024 := by rw [← hup]; split <;> omega
  obtain ⟨a0, a1⟩ := hz0
  obtain ⟨a2, a3⟩ := hz1
  obtain ⟨a4, a5⟩ := hs0
  obtain ⟨a6, a7⟩ := hs1
  have p1 := lag_bd (d := s0 - z0) bdn.1 bdn.2 ⟨by omega, by omega⟩
  have p2 := lag_bd (d := s1 - z1) bup.1 bup.2 ⟨by omega, by omega⟩
  obtain ⟨e1, he1⟩ : ∃ d, s0 - z0 = d := ⟨_, rfl⟩
  obtain ⟨e2, he2⟩ : ∃ d, s1 - z1 = d := ⟨_, rfl⟩
  rw [he1] at hx p1
  rw [he2] at hy p2
  obtain ⟨m1, hm1⟩ : ∃ d, dn * e1 = d := ⟨_, rfl⟩
  obtain ⟨m2, hm2⟩ : ∃ d, up * e2 = d := ⟨_, rfl⟩
  rw [hm1] at hx p1
  rw [hm2] at hy p2
  obtain ⟨p10, p11⟩ := p1
  obtain ⟨p20, p21⟩ := p2
  have hq1 := ufloor_any m1 1024 (by omega) (by omega) (by omega) (by omega)
  have hq2 := uceil_any m2 1024 (by omega) (by omega) (by omega) (by omega)
  have r1 := ediv_bd (a := m1) (show (0 : Int) < 1024 by omega) (by omega) (by omega)
  have r2 := ediv_bd (a := -m2) (show (0 : Int) < 1024 by omega) (by omega) (by omega)
  obtain ⟨q1, hqe1⟩ : ∃ q, m1 / 1024 = q := ⟨_, rfl⟩
  obtain ⟨q2, hqe2⟩ : ∃ q, sceil m2 1024 = q := ⟨_, rfl⟩
  have r3 : -4611686018427387904 ≤ q2 ∧ q2 ≤ 4611686018427387904 := by rw [← hqe2]; unfold sceil; omega
  rw [hqe1] at hq1 r1 hx
  rw [hqe2] at hq2 hy
  obtain ⟨r10, r11⟩ := r1
  obtain ⟨r30, r31⟩ := r3
  clear r2 bdn bup hl0 hl1
  have Hhqe1 := Lib.hid hqe1; clear hqe1; have Hhqe2 := Lib.hid hqe2; clear hqe2; have Hhdn := Lib.hid hdn; clear hdn; have Hhup := Lib.hid hup; clear hup
  by_cases c1 : s0 < z0 <;> by_cases c2 : s1 < z1
  all_goals
    have hdn' := Hhdn.out
    have hup' := Hhup.out
    first | rw [if_pos c1] at hdn' | rw [if_neg c1] at hdn'
    first | rw [if_pos c2] at hup' | rw [if_neg c2] at hup'
    subst hdn' hup'
    go_enter Try.func55, Try.ntmps55
    go_upto_region 1 with fail
    have x3 : ((((w.alloc (.cells #[.int .i64 d0, .int .i64 d1, .int .i64 l0, .int .i64 l1] 63)).alloc (.cells #[.int .i64 z0, .int .i64 z1] 122)).alloc (.cells #[.int .i64 s0, .int .i64 s1] 122)).alloc (.cells #[.int .i64 0, .int .i64 0] 122)).heap[w.heap.size]? = some (.cells #[.int .i64 d0, .int .i64 d1, .int .i64 l0, .int .i64 l1] 63 (0, 0)) := (by repeat (first | (refine heap_alloc_at' _ _ ?_; focus (simp; done)) | refine heap_alloc_off ?_ _))
    have x4 : ((((w.alloc (.cells #[.int .i64 d0, .int .i64 d1, .int .i64 l0, .int .i64 l1] 63)).alloc (.cells #[.int .i64 z0, .int .i64 z1] 122)).alloc (.cells #[.int .i64 s0, .int .i64 s1] 122)).alloc (.cells #[.int .i64 0, .int .i64 0] 122)).heap[w.heap.size + 1]? = some (.cells #[.int .i64 z0, .int .i64 z1] 122 (0, 0)) := (by repeat (first | (refine heap_alloc_at' _ _ ?_; focus (simp; done)) | refine heap_alloc_off ?_ _))
    have x5 : ((((w.alloc (.cells #[.int .i64 d0, .int .i64 d1, .int .i64 l0, .int .i64 l1] 63)).alloc (.cells #[.int .i64 z0, .int .i64 z1] 122)).alloc (.cells #[.int .i64 s0, .int .i64 s1] 122)).alloc (.cells #[.int .i64 0, .int .i64 0] 122)).heap[w.heap.size + 1 + 1]? = some (.cells #[.int .i64 s0, .int .i64 s1] 122 (0, 0)) := (by repeat (first | (refine heap_alloc_at' _ _ ?_; focus (simp; done)) | refine heap_alloc_off ?_ _))
    have x6 : ((((w.alloc (.cells #[.int .i64 d0, .int .i64 d1, .int .i64 l0, .int .i64 l1] 63)).alloc (.cells #[.int .i64 z0, .int .i64 z1] 122)).alloc (.cells #[.int .i64 s0, .int .i64 s1] 122)).alloc (.cells #[.int .i64 0, .int .i64 0] 122)).heap[w.heap.size + 1 + 1 + 1]? = some (.cells #[.int .i64 0, .int .i64 0] 122 (0, 0)) := heap_alloc_at' _ _ (by simp)
    have hbd : Below w.heap.size w ((((w.alloc (.cells #[.int .i64 d0, .int .i64 d1, .int .i64 l0, .int .i64 l1] 63)).alloc (.cells #[.int .i64 z0, .int .i64 z1] 122)).alloc (.cells #[.int .i64 s0, .int .i64 s1] 122)).alloc (.cells #[.int .i64 0, .int .i64 0] 122)) := (by repeat (first | exact Below.refl _ _ | (refine bl_setCell ?_ _ _ ?_; rotate_left; focus (first | omega | (simp; done) | (simp; omega))) | refine bl_alloc ?_ _ | refine bl_step ?_ (by assumption) | refine bl_drew ?_ | refine bl_drewN ?_ _))
    generalize ((((w.alloc (.cells #[.int .i64 d0, .int .i64 d1, .int .i64 l0, .int .i64 l1] 63)).alloc (.cells #[.int .i64 z0, .int .i64 z1] 122)).alloc (.cells #[.int .i64 s0, .int .i64 s1] 122)).alloc (.cells #[.int .i64 0, .int .i64 0] 122)) = wd at x3 x4 x5 x6 hbd ⊢
    have x3c := cells_of x3
    have x4c := cells_of x4
    have x5c := cells_of x5
    have x3l := lt_of_heap x3
    have x4l := lt_of_heap x4
    have x5l := lt_of_heap x5
    have Hx3 := Lib.hid x3; clear x3; have Hx4 := Lib.hid x4; clear x4; have Hx5 := Lib.hid x5; clear x5; have Hx6 := Lib.hid x6; clear x6; have Hhbd := Lib.hid hbd; clear hbd
    have hI : Below wd.heap.size wd wd.drew := (Below.refl _ _).drew
    refine wp_region_ord (fun W => Below wd.heap.size wd W) [] [0, 1, 2, 3, 4, 5, 6, 7] none (by kernel_rfl) (by kernel_rfl) hI ?_
    refine OrdI_fin ?_
    (apply StI_plain (w0 := wd.drew) hI rfl rfl rfl rfl; (focus (intro W hW K hK; obtain ⟨_, _⟩ := bk w.heap.size hW x3l; go_step; exact hK)); (focus rfl)); (apply StI_plain (w0 := wd.drew) hI rfl rfl rfl rfl; (focus (intro W hW K hK; obtain ⟨_, _⟩ := bk w.heap.size hW x3l; go_step; exact hK)); (focus rfl)); (apply StI_plain (w0 := wd.drew) hI rfl rfl rfl rfl; (focus (intro W hW K hK; obtain ⟨_, _⟩ := bk w.heap.size hW x3l; go_step; exact hK)); (focus rfl)); (apply StI_plain (w0 := wd.drew) hI rfl rfl rfl rfl; (focus (intro W hW K hK; obtain ⟨_, _⟩ := bk w.heap.size hW x3l; go_step; exact hK)); (focus rfl)); (apply StI_plain (w0 := wd.drew) hI rfl rfl rfl rfl; (focus (intro W hW K hK; obtain ⟨_, _⟩ := bk w.heap.size hW x3l; go_step; exact hK)); (focus rfl)); (apply StI_plain (w0 := wd.drew) hI rfl rfl rfl rfl; (focus (intro W hW K hK; obtain ⟨_, _⟩ := bk w.heap.size hW x3l; go_step; exact hK)); (focus rfl)); (apply StI_plain (w0 := wd.drew) hI rfl rfl rfl rfl; (focus (intro W hW K hK; obtain ⟨_, _⟩ := bk w.heap.size hW x3l; go_step; exact hK)); (focus rfl)); (apply StI_plain (w0 := wd.drew) hI rfl rfl rfl rfl; (focus (intro W hW K hK; obtain ⟨_, _⟩ := bk w.heap.size hW x3l; go_step; exact hK)); (focus rfl))
    refine StI_nil ?_
    have y4 := heap_below hI Hx4.out
    have y5 := heap_below hI Hx5.out
    have y6 := heap_below hI Hx6.out
    have hbe := bl_step Hhbd.out hI
    obtain ⟨wc, hwc⟩ : ∃ x, wd.drew = x := ⟨_, rfl⟩
    rw [hwc] at y4 y5 y6 hbe ⊢
    clear x3c x4c x5c x3l x4l x5l hI hwc Hx3 Hx4 Hx5 Hx6 Hhbd
    have y4c := cells_of y4
    have y5c := cells_of y5
    have y4l := lt_of_heap y4
    have y5l := lt_of_heap y5
    have hI : Below wc.heap.size wc wc.drew := (Below.refl _ _).drew
    have Hy4 := Lib.hid y4; clear y4; have Hy5 := Lib.hid y5; clear y5; have Hy6 := Lib.hid y6; clear y6; have Hhbe := Lib.hid hbe; clear hbe
    go_upto_region 7 with fail
    refine wp_region_ord (fun W => Below wc.heap.size wc W) [([0, 1, 2, 3, 4, 5, 6, 7, 8, 9, 10, 11, 14, 15, 16, 17, 18, 19, 20, 21, 22, 23, 24, 25], 12), ([13], 26), ([27], 28)] [] (some 29) (by kernel_rfl) (by kernel_rfl) hI ?_
    refine OrdI_cons ?_
    (apply StI_plain (w0 := wc.drew) hI rfl rfl rfl rfl; (focus (intro W hW K hK; obtain ⟨_, _⟩ := bk (w.heap.size + 1) hW y4l; obtain ⟨_, _⟩ := bk (w.heap.size + 1 + 1) hW y5l; go_step; exact hK)); (focus rfl)); (apply StI_plain (w0 := wc.drew) hI rfl rfl rfl rfl; (focus (intro W hW K hK; obtain ⟨_, _⟩ := bk (w.heap.size + 1) hW y4l; obtain ⟨_, _⟩ := bk (w.heap.size + 1 + 1) hW y5l; go_step; exact hK)); (focus rfl)); (apply StI_plain (w0 := wc.drew) hI rfl rfl rfl rfl; (focus (intro W hW K hK; obtain ⟨_, _⟩ := bk (w.heap.size + 1) hW y4l; obtain ⟨_, _⟩ := bk (w.heap.size + 1 + 1) hW y5l; go_step; exact hK)); (focus rfl)); (apply StI_plain (w0 := wc.drew) hI rfl rfl rfl rfl; (focus (intro W hW K hK; obtain ⟨_, _⟩ := bk (w.heap.size + 1) hW y4l; obtain ⟨_, _⟩ := bk (w.heap.size + 1 + 1) hW y5l; go_step; exact hK)); (focus rfl)); (apply StI_plain (w0 := wc.drew) hI rfl rfl rfl rfl; (focus (intro W hW K hK; obtain ⟨_, _⟩ := bk (w.heap.size + 1) hW y4l; obtain ⟨_, _⟩ := bk (w.heap.size + 1 + 1) hW y5l; go_step; exact hK)); (focus rfl)); (apply StI_plain (w0 := wc.drew) hI rfl rfl rfl rfl; (focus (intro W hW K hK; obtain ⟨_, _⟩ := bk (w.heap.size + 1) hW y4l; obtain ⟨_, _⟩ := bk (w.heap.size + 1 + 1) hW y5l; go_step; exact hK)); (focus rfl)); (apply StI_plain (w0 := wc.drew) hI rfl rfl rfl rfl; (focus (intro W hW K hK; obtain ⟨_, _⟩ := bk (w.heap.size + 1) hW y4l; obtain ⟨_, _⟩ := bk (w.heap.size + 1 + 1) hW y5l; go_step; exact hK)); (focus rfl)); (apply StI_plain (w0 := wc.drew) hI rfl rfl rfl rfl; (focus (intro W hW K hK; obtain ⟨_, _⟩ := bk (w.heap.size + 1) hW y4l; obtain ⟨_, _⟩ := bk (w.heap.size + 1 + 1) hW y5l; go_step; exact hK)); (focus rfl)); (apply StI_plain (w0 := wc.drew) hI rfl rfl rfl rfl; (focus (intro W hW K hK; obtain ⟨_, _⟩ := bk (w.heap.size + 1) hW y4l; obtain ⟨_, _⟩ := bk (w.heap.size + 1 + 1) hW y5l; go_step; exact hK)); (focus rfl)); (apply StI_plain (w0 := wc.drew) hI rfl rfl rfl rfl; (focus (intro W hW K hK; obtain ⟨_, _⟩ := bk (w.heap.size + 1) hW y4l; obtain ⟨_, _⟩ := bk (w.heap.size + 1 + 1) hW y5l; go_step; exact hK)); (focus rfl)); (apply StI_plain (w0 := wc.drew) hI rfl rfl rfl rfl; (focus (intro W hW K hK; obtain ⟨_, _⟩ := bk (w.heap.size + 1) hW y4l; obtain ⟨_, _⟩ := bk (w.heap.size + 1 + 1) hW y5l; go_step; exact hK)); (focus rfl)); (apply StI_plain (w0 := wc.drew) hI rfl rfl rfl rfl; (focus (intro W hW K hK; obtain ⟨_, _⟩ := bk (w.heap.size + 1) hW y4l; obtain ⟨_, _⟩ := bk (w.heap.size + 1 + 1) hW y5l; go_step; exact hK)); (focus rfl)); (apply StI_plain (w0 := wc.drew) hI rfl rfl rfl rfl; (focus (intro W hW K hK; obtain ⟨_, _⟩ := bk (w.heap.size + 1) hW y4l; obtain ⟨_, _⟩ := bk (w.heap.size + 1 + 1) hW y5l; go_step; exact hK)); (focus rfl)); (apply StI_plain (w0 := wc.drew) hI rfl rfl rfl rfl; (focus (intro W hW K hK; obtain ⟨_, _⟩ := bk (w.heap.size + 1) hW y4l; obtain ⟨_, _⟩ := bk (w.heap.size + 1 + 1) hW y5l; go_step; exact hK)); (focus rfl)); (apply StI_plain (w0 := wc.drew) hI rfl rfl rfl rfl; (focus (intro W hW K hK; obtain ⟨_, _⟩ := bk (w.heap.size + 1) hW y4l; obtain ⟨_, _⟩ := bk (w.heap.size + 1 + 1) hW y5l; go_step; exact hK)); (focus rfl)); (apply StI_plain (w0 := wc.drew) hI rfl rfl rfl rfl; (focus (intro W hW K hK; obtain ⟨_, _⟩ := bk (w.heap.size + 1) hW y4l; obtain ⟨_, _⟩ := bk (w.heap.size + 1 + 1) hW y5l; go_step; exact hK)); (focus rfl)); (apply StI_plain (w0 := wc.drew) hI rfl rfl rfl rfl; (focus (intro W hW K hK; obtain ⟨_, _⟩ := bk (w.heap.size + 1) hW y4l; obtain ⟨_, _⟩ := bk (w.heap.size + 1 + 1) hW y5l; go_step; exact hK)); (focus rfl)); (apply StI_plain (w0 := wc.drew) hI rfl rfl rfl rfl; (focus (intro W hW K hK; obtain ⟨_, _⟩ := bk (w.heap.size + 1) hW y4l; obtain ⟨_, _⟩ := bk (w.heap.size + 1 + 1) hW y5l; go_step; exact hK)); (focus rfl)); (apply StI_plain (w0 := wc.drew) hI rfl rfl rfl rfl; (focus (intro W hW K hK; obtain ⟨_, _⟩ := bk (w.heap.size + 1) hW y4l; obtain ⟨_, _⟩ := bk (w.heap.size + 1 + 1) hW y5l; go_step; exact hK)); (focus rfl)); (apply StI_plain (w0 := wc.drew) hI rfl rfl rfl rfl; (focus (intro W hW K hK; obtain ⟨_, _⟩ := bk (w.heap.size + 1) hW y4l; obtain ⟨_, _⟩ := bk (w.heap.size + 1 + 1) hW y5l; go_step; exact hK)); (focus rfl)); (apply StI_plain (w0 := wc.drew) hI rfl rfl rfl rfl; (focus (intro W hW K hK; obtain ⟨_, _⟩ := bk (w.heap.size + 1) hW y4l; obtain ⟨_, _⟩ := bk (w.heap.size + 1 + 1) hW y5l; go_step; exact hK)); (focus rfl)); (apply StI_plain (w0 := wc.drew) hI rfl rfl rfl rfl; (focus (intro W hW K hK; obtain ⟨_, _⟩ := bk (w.heap.size + 1) hW y4l; obtain ⟨_, _⟩ := bk (w.heap.size + 1 + 1) hW y5l; go_step; exact hK)); (focus rfl)); (apply StI_plain (w0 := wc.drew) hI rfl rfl rfl rfl; (focus (intro W hW K hK; obtain ⟨_, _⟩ := bk (w.heap.size + 1) hW y4l; obtain ⟨_, _⟩ := bk (w.heap.size + 1 + 1) hW y5l; go_step; exact hK)); (focus rfl)); (apply StI_plain (w0 := wc.drew) hI rfl rfl rfl rfl; (focus (intro W hW K hK; obtain ⟨_, _⟩ := bk (w.heap.size + 1) hW y4l; obtain ⟨_, _⟩ := bk (w.heap.size + 1 + 1) hW y5l; go_step; exact hK)); (focus rfl))
    (apply StI_eff rfl; go_wp2_with (first | (go_at_call 80; refine (hq1 _).mono ?_; rintro e w' ⟨rfl, rfl⟩)))
    refine onNormal_mk hI (OrdI_cons ?_)
    (apply StI_plain (w0 := wc.drew) hI rfl rfl rfl rfl; (focus (intro W hW K hK; skip; go_step; exact hK)); (focus rfl))
    (apply StI_eff rfl; go_wp2_with (first | (go_at_call 81; refine (hq2 _).mono ?_; rintro e w' ⟨rfl, rfl⟩)))
    refine onNormal_mk hI (OrdI_cons ?_)
    (apply StI_plain (w0 := wc.drew) hI rfl rfl rfl rfl; (focus (intro W hW K hK; skip; go_step; exact hK)); (focus rfl))
    (apply StI_eff rfl; go_wp2_with (first | (go_at_call 79; refine (uof_any _ _ _).mono ?_; rintro e w1 ⟨rfl, hb1⟩)))
    have hI1 : Below wc.heap.size wc w1 := below_mid hI (Nat.le_refl _) hb1
    refine onNormal_mk hI1 (OrdI_snk ?_)
    have v6 := heap_below hI1 Hy6.out
    have hbf := bl_step Hhbe.out hI1
    have v6c := cells_of v6
    have v6f := frozen_of v6
    have v6l := lt_of_heap v6
    have Hv6 := Lib.hid v6; clear v6; have Hhbf := Lib.hid hbf; clear hbf
    (apply StI_eff rfl; go_wp2_with (first | fail))
    refine onNormal_last ?_
    go_wp2_with fail
    ((try simp only [Exit.inBlock, Exit.then]); refine bodyPost_ret (v := .agg #[.int .i64 x, .int .i64 y]) (by simp [results, Try.results55, go_sem, *]) rfl ?_)
    exact ⟨rfl, bl_setCell (bl_setCell Hhbf.out _ _ (by show _ ≤ w.heap.size + 1 + 1 + 1; omega)) _ _ (by show _ ≤ w.heap.size + 1 + 1 + 1; omega)⟩

theorem cm_bits (x : Int) : sceil x 256 = if x % 256 = 0 then x / 256 else x / 256 + 1 := by
  unfold sceil; split <;> omega
end Go.Proofs.Ytfbmjecikilghaa
namespace Go.Proofs.Ytfbmjecikilghaa
open Go.RowKit

theorem and_low (b : Int) (k : Nat) (hk : k ≤ 32) : bits .and .i64 b ((2 ^ k - 1 : Nat) : Int) = b % (2 ^ k : Nat) := by
  have hp : (2 : Nat) ^ k ∣ 2 ^ 64 := Nat.pow_dvd_pow 2 (by omega)
  have hlt : (2 : Nat) ^ k ≤ 2 ^ 32 := Nat.pow_le_pow_right (by omega) hk
  have hpos : 0 < (2 : Nat) ^ k := Nat.pow_pos (by omega)
  have e1 : (BitVec.ofInt 64 ((2 ^ k - 1 : Nat) : Int)).toNat = 2 ^ k - 1 := by
    rw [BitVec.ofInt_natCast, BitVec.toNat_ofNat]
    exact Nat.mod_eq_of_lt (by omega)
  have e2 : ((BitVec.ofInt 64 b).toNat : Int) = b % 2 ^ 64 := by
    rw [BitVec.toNat_ofInt]
    have := Int.emod_nonneg b (show ((2 : Int) ^ 64) ≠ 0 by omega)
    omega
  have e : ((BitVec.ofInt 64 b &&& BitVec.ofInt 64 ((2 ^ k - 1 : Nat) : Int)).toNat : Int) = b % (2 ^ k : Nat) := by
    rw [BitVec.toNat_and, e1, Nat.and_two_pow_sub_one_eq_mod, Int.natCast_emod, e2]
    refine Int.emod_emod_of_dvd b ?_
    exact_mod_cast hp
  show IntKind.i64.wrap ((BitVec.ofInt 64 b &&& BitVec.ofInt 64 ((2 ^ k - 1 : Nat) : Int)).toNat : Int) = _
  rw [e]
  have h0 := Int.emod_nonneg b (show (((2 ^ k : Nat) : Int)) ≠ 0 by omega)
  have h1 := Int.emod_lt_of_pos b (show 0 < ((2 ^ k : Nat) : Int) by omega)
  generalize b % ((2 ^ k : Nat) : Int) = x at *
  simp [IntKind.wrap, IntKind.bits, IntKind.signed]
  omega
theorem and255 (b : Int) : bits .and .i64 b 255 = b % 256 := and_low b 8 (by omega)
theorem and1 (b : Int) : bits .and .i64 b 1 = b % 2 := and_low b 1 (by omega)

set_option maxHeartbeats 2000000 in
set_option maxRecDepth 100000 in
theorem ucm_any (a b : Int) (h : a ≤ b) (h0 : -4000000000000000 ≤ a) (h1 : b ≤ 4000000000000000) (w : World) :
    Calls Try.prog 26 #[.agg #[.int .i64 a, .int .i64 b]] w fun e w' => e = .returned (.tuple #[.agg #[.int .i64 (a / 256), .int .i64 (sceil b 256)], .int .i64 0]) ∧ Below w.heap.size w w' := by
  have ha := and255 b
  have hc := cm_bits b
  obtain ⟨m, hm⟩ : ∃ m, b % 256 = m := ⟨_, rfl⟩
  obtain ⟨c, hcc⟩ : ∃ c, sceil b 256 = c := ⟨_, rfl⟩
  rw [hm] at ha hc
  rw [hcc] at hc ⊢
  clear hm hcc
  by_cases hz : m = 0
  · rw [if_pos hz] at hc
    have Hhc := Lib.hid hc; clear hc
    go_enter Try.func26, Try.ntmps26
    go_wp2
    ((try simp only [Exit.inBlock, Exit.then]); refine bodyPost_ret (v := .tuple #[.agg #[.int .i64 (a / 256), .int .i64 (b / 256)], .int .i64 0]) (by simp [results, Try.results26, go_sem, *]) rfl ?_)
    exact ⟨by rw [Hhc.out], (by repeat (first | exact Below.refl _ _ | (refine bl_setCell ?_ _ _ ?_; rotate_left; focus (first | omega | (simp; done) | (simp; omega))) | refine bl_alloc ?_ _ | refine bl_step ?_ (by assumption) | refine bl_drew ?_ | refine bl_drewN ?_ _))⟩
  · rw [if_neg hz] at hc
    have Hhc := Lib.hid hc; clear hc
    go_enter Try.func26, Try.ntmps26
    go_wp2
    ((try simp only [Exit.inBlock, Exit.then]); refine bodyPost_ret (v := .tuple #[.agg #[.int .i64 (a / 256), .int .i64 (b / 256 + 1)], .int .i64 0]) (by simp [results, Try.results26, go_sem, *]) rfl ?_)
    exact ⟨by rw [Hhc.out], (by repeat (first | exact Below.refl _ _ | (refine bl_setCell ?_ _ _ ?_; rotate_left; focus (first | omega | (simp; done) | (simp; omega))) | refine bl_alloc ?_ _ | refine bl_step ?_ (by assumption) | refine bl_drew ?_ | refine bl_drewN ?_ _))⟩

set_option maxHeartbeats 2000000 in
set_option maxRecDepth 100000 in
theorem ucheck_any (d0 d1 l0 l1 : Int) (hd : vldB d0 d1 1 10000 = true) (hl : vldB l0 l1 1 1024 = true) (w : World) :
    Calls Try.prog 77 #[.agg (modC d0 d1 l0 l1)] w fun e w' => e = .returned (.int .i64 0) ∧ Below w.heap.size w w' := by
  have h1 := uwithin_any d0 d1 1 10000
  have h2 := uwithin_any l0 l1 1 1024
  rw [hd] at h1
  rw [hl] at h2
  go_enter Try.func77, Try.ntmps77
  go_wp2_with fail
  refine (h1 _).mono ?_
  rintro e w1 ⟨rfl, hb1⟩
  have y := heap_below hb1 (heap_alloc_at w (.cells #[.int .i64 d0, .int .i64 d1, .int .i64 l0, .int .i64 l1] 63))
  have hbw : Below w.heap.size w w1 := (by repeat (first | exact Below.refl _ _ | (refine bl_setCell ?_ _ _ ?_; rotate_left; focus (first | omega | (simp; done) | (simp; omega))) | refine bl_alloc ?_ _ | refine bl_step ?_ (by assumption) | refine bl_drew ?_ | refine bl_drewN ?_ _))
  have yc := cells_of y
  have yl := lt_of_heap y
  clear hb1 y
  have Hhbw := Lib.hid hbw; clear hbw
  go_wp2_with fail
  refine (h2 _).mono ?_
  rintro e w2 ⟨rfl, hb2⟩
  have hbv := bl_step Hhbw.out hb2
  go_wp2_with fail
  go_ret
  exact ⟨rfl, hbv⟩
end Go.Proofs.Ytfbmjecikilghaa
