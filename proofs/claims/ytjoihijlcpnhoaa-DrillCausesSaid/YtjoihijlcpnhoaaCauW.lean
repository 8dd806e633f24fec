/- DrillCauses: the walk, over the contracts of what it calls. -/
import Derived.Test.YtjoihijlcpnhoaaEntE
import Derived.Test.YtjoihijlcpnhoaaCauP
import Derived.Deep.OwnRows
namespace Go.Proofs.Ytjoihijlcpnhoaa
open Go.RowKit

/-- The two cases and their lateness in memory. -/
structure CauM (W : World) (B qx qy bx by_ n : Nat) (v2 v3 v4 : Value) (X Y : Array Value) : Prop where
  qq : qx ≠ qy
  bb : bx ≠ by_
  xb : qx ≠ bx ∧ qx ≠ by_ ∧ qy ≠ bx ∧ qy ≠ by_
  lo : B ≤ qx ∧ B ≤ qy ∧ B ≤ bx ∧ B ≤ by_
  x : W.heap[qx]? = some (.cells #[.slice (some ⟨bx, 0, none⟩) n n, v2, v3, v4] 62 (0, 0))
  y : W.heap[qy]? = some (.cells #[.slice (some ⟨by_, 0, none⟩) n n, v2, v3, v4] 62 (0, 0))
  lx : W.heap[bx]? = some (.cells X 3 (0, 0))
  ly : W.heap[by_]? = some (.cells Y 3 (0, 0))

set_option maxHeartbeats 16000000 in
set_option maxRecDepth 100000 in
theorem causes_body (T : Town) (a1 a2 a3 a4 : Option Addr) (c1 c2 c3 c4 : Nat) (p : Plan) (p1 p2 : Option Addr) (d1 d2 : Nat) (c : Case) (l1 l2 l3 l4 : Option Addr) (e1 e2 e3 e4 : Nat) (tr a b : Int) (w : World) (htr : 0 ≤ tr ∧ tr ≤ 255) (ha : 0 ≤ a ∧ a ≤ 255) (hb : 0 ≤ b ∧ b ≤ 255)
    (hP : PlanM w.heap.size w p1 p2 p) (hC : CaseM w.heap.size w l1 l2 l3 l4 c)
    (HFew : ∀ W, Below w.heap.size w W → Calls Try.prog 15 #[.agg #[.int .i64 T.steps, .slice a1 T.places.length c1, .slice a2 T.ways.length c2, .slice a3 T.groups.length c3, .slice a4 T.vehicles.length c4], .agg #[.slice p1 p.trips.length d1, .slice p2 p.rides.length d2], .agg #[.slice l1 c.late.length e1, .slice l2 c.absent.length e2, .slice l3 c.rides.length e3, .slice l4 c.broken.length e4]] W fun e w' => (∃ v, e = .returned (.bool v) ∧ (v = true → p.trips.length ≤ 40)) ∧ Below W.heap.size W w')
    (HWk : ∀ W, Calls Try.prog 16 #[] W fun e w' => e = .returned (.bool true) ∧ Below W.heap.size W w')
    (HRun : ∀ W (x : Case) m1 m2 m3 m4 f1 f2 f3 f4, Below w.heap.size w W → CaseM W.heap.size W m1 m2 m3 m4 x → Calls Try.prog 17 #[.agg #[.int .i64 T.steps, .slice a1 T.places.length c1, .slice a2 T.ways.length c2, .slice a3 T.groups.length c3, .slice a4 T.vehicles.length c4], .agg #[.slice p1 p.trips.length d1, .slice p2 p.rides.length d2], .agg #[.slice m1 x.late.length f1, .slice m2 x.absent.length f2, .slice m3 x.rides.length f3, .slice m4 x.broken.length f4]] W (RunR T p x W)) :
    Calls Try.prog 5 #[.agg #[.int .i64 T.steps, .slice a1 T.places.length c1, .slice a2 T.ways.length c2, .slice a3 T.groups.length c3, .slice a4 T.vehicles.length c4], .agg #[.slice p1 p.trips.length d1, .slice p2 p.rides.length d2], .agg #[.slice l1 c.late.length e1, .slice l2 c.absent.length e2, .slice l3 c.rides.length e3, .slice l4 c.broken.length e4], .int .u8 tr, .int .u8 a, .int .u8 b] w
      fun e w' => e = .returned (.bool true) ∧ Below w.heap.size w w' := by
  have hl1 := hP.trips.1
  have hc1 := hC.late.1
  obtain ⟨W1, hW1⟩ : ∃ W1, W1 = (((w.alloc (.cells #[.int .i64 T.steps, .slice a1 T.places.length c1, .slice a2 T.ways.length c2, .slice a3 T.groups.length c3, .slice a4 T.vehicles.length c4] 27)).alloc (.cells #[.slice p1 p.trips.length d1, .slice p2 p.rides.length d2] 31)).alloc (.cells #[.slice l1 c.late.length e1, .slice l2 c.absent.length e2, .slice l3 c.rides.length e3, .slice l4 c.broken.length e4] 62)) := ⟨_, rfl⟩
  have hb01 : Below w.heap.size w W1 := by rw [hW1]; exact (by repeat (first | exact Below.refl _ _ | (refine bl_setCell ?_ _ _ ?_; rotate_left; focus (first | omega | (simp; done) | (simp; omega))) | refine bl_alloc ?_ _ | refine bl_step ?_ (by assumption) | refine bl_drew ?_ | refine bl_drewN ?_ _))
  have hs1 : W1.heap.size = w.heap.size + 3 := by rw [hW1]; simp
  have y0 : W1.heap[w.heap.size]? = some (.cells #[.int .i64 T.steps, .slice a1 T.places.length c1, .slice a2 T.ways.length c2, .slice a3 T.groups.length c3, .slice a4 T.vehicles.length c4] 27 (0, 0)) := by rw [hW1]; repeat (first | with_reducible assumption | (with_reducible refine heap_alloc_at' _ _ ?_; focus (simp; done)) | with_reducible refine heap_alloc_off ?_ _ | (with_reducible refine heap_setCell_off ?_ _ ?_; rotate_left; focus omega) | with_reducible refine heap_drew' ?_ | with_reducible refine heap_drewN' ?_ | with_reducible refine heap_below (by with_reducible assumption) ?_)
  have y1 : W1.heap[w.heap.size + 1]? = some (.cells #[.slice p1 p.trips.length d1, .slice p2 p.rides.length d2] 31 (0, 0)) := by rw [hW1]; repeat (first | with_reducible assumption | (with_reducible refine heap_alloc_at' _ _ ?_; focus (simp; done)) | with_reducible refine heap_alloc_off ?_ _ | (with_reducible refine heap_setCell_off ?_ _ ?_; rotate_left; focus omega) | with_reducible refine heap_drew' ?_ | with_reducible refine heap_drewN' ?_ | with_reducible refine heap_below (by with_reducible assumption) ?_)
  have y2 : W1.heap[w.heap.size + 1 + 1]? = some (.cells #[.slice l1 c.late.length e1, .slice l2 c.absent.length e2, .slice l3 c.rides.length e3, .slice l4 c.broken.length e4] 62 (0, 0)) := by rw [hW1]; repeat (first | with_reducible assumption | (with_reducible refine heap_alloc_at' _ _ ?_; focus (simp; done)) | with_reducible refine heap_alloc_off ?_ _ | (with_reducible refine heap_setCell_off ?_ _ ?_; rotate_left; focus omega) | with_reducible refine heap_drew' ?_ | with_reducible refine heap_drewN' ?_ | with_reducible refine heap_below (by with_reducible assumption) ?_)
  have HhP := Lib.hid hP; clear hP; have HhC := Lib.hid hC; clear hC; have HHFew := Lib.hid HFew; clear HFew; have HHWk := Lib.hid HWk; clear HWk; have HHRun := Lib.hid HRun; clear HRun; have Hy0 := Lib.hid y0; clear y0; have Hy1 := Lib.hid y1; clear y1; have Hy2 := Lib.hid y2; clear y2; have Hhb01 := Lib.hid hb01; clear hb01; have Hhs1 := Lib.hid hs1; clear hs1
  go_enter Try.func5, Try.ntmps5
  go_upto_region 1 with fail
  go_cut [33] from 23 to 204 (fun v wx => Below W1.heap.size W1 wx ∧ ∃ q, v = .bool q ∧ Hid (q = false → 0 < p.trips.length ∧ p.trips.length ≤ 40))
  case first =>
    as_aux_lemma =>
      go_wp2_with (go_at_call 15; refine (HHFew.out _ (by repeat (first | exact Below.refl _ _ | (refine bl_setCell ?_ _ _ ?_; rotate_left; focus (first | omega | (simp; done) | (simp; omega))) | refine bl_alloc ?_ _ | refine bl_step ?_ (by assumption) | refine bl_drew ?_ | refine bl_drewN ?_ _))).mono ?_; rintro e w1 ⟨⟨v, rfl, hv⟩, hb1⟩; obtain ⟨_, _, _⟩ := bk (w.heap.size) hb1 (by (first | omega | (simp; done) | (simp; omega))); obtain ⟨_, _, _⟩ := bk (w.heap.size + 1) hb1 (by (first | omega | (simp; done) | (simp; omega))); obtain ⟨_, _, _⟩ := bk (w.heap.size + 1 + 1) hb1 (by (first | omega | (simp; done) | (simp; omega))); have hzhb1 := bsz hb1; (try simp only [World.size_alloc] at hzhb1); have Hhb1 := Lib.hid hb1; clear hb1; have Hhv := Lib.hid hv; clear hv)
      all_goals (go_meet; refine ⟨by rw [hW1]; exact Hhb1.out, _, rfl, Lib.hid ?_⟩; intro hq; first | cases hq | (have h40 := Hhv.out (by assumption); have hq' : ¬(p.trips.length : Int) = 0 := (by simpa using hq); omega))
  case rest =>
  obtain ⟨hb1, q, rfl, hq⟩ := hcut
  have z0 := heap_below hb1 Hy0.out
  have z1 := heap_below hb1 Hy1.out
  have z2 := heap_below hb1 Hy2.out
  clear Hy0 Hy1 Hy2
  have z0c := cells_of z0
  have z1c := cells_of z1
  have z2c := cells_of z2
  have z0l := lt_of_heap z0
  have z1l := lt_of_heap z1
  have z2l := lt_of_heap z2
  cases q
  rotate_left
  · have Hz0 := Lib.hid z0; clear z0; have Hz1 := Lib.hid z1; clear z1; have Hz2 := Lib.hid z2; clear z2; have Hhb1 := Lib.hid hb1; clear hb1
    go_wp2_with (go_at_call 16; refine (HHWk.out _).mono ?_; rintro e w2 ⟨rfl, hb2⟩; obtain ⟨_, _, _⟩ := bk (w.heap.size) hb2 (by (first | omega | (simp; done) | (simp; omega))); have hzhb2 := bsz hb2; (try simp only [World.size_alloc] at hzhb2))
    go_ret
    exact ⟨rfl, (Hhb01.out.trans (Hhb1.out.mono Hhb01.out.size)).trans (hb2.mono (Nat.le_trans Hhb01.out.size Hhb1.out.size))⟩
  obtain ⟨hq1, hq2⟩ := hq.out rfl
  clear hq
  have Hz0 := Lib.hid z0; clear z0; have Hz1 := Lib.hid z1; clear z1; have Hz2 := Lib.hid z2; clear z2; have Hhb1 := Lib.hid hb1; clear hb1
  obtain ⟨k, hk⟩ : ∃ k : Nat, k = tr.toNat % p.trips.length := ⟨_, rfl⟩
  have hkl : k < p.trips.length := by rw [hk]; exact Nat.mod_lt _ hq1
  have Hhk := Lib.hid hk; clear hk
  go_upto_region 3 with fail
  go_cut [13] from 23 to 204 (fun v wx => wx = wc ∧ v = .int .i64 k)
  case first =>
    as_aux_lemma =>
      go_wp2_with fail
      go_meet
      refine ⟨rfl, ?_⟩
      refine congrArg (Value.int .i64) ?_
      rw [Hhk.out]
      have ht : tr = (tr.toNat : Int) := by omega
      rw [ht, Int.toNat_natCast]
      first | exact (Int.natCast_mod _ _).symm | exact (Int.natCast_emod _ _).symm | simp
  case rest =>
  obtain ⟨rfl, rfl⟩ := hcut
  obtain ⟨W2, hW2⟩ : ∃ W2, W2 = wc := ⟨_, rfl⟩
  subst hW2
  go_upto_region 4 with fail
  go_cut [14, 15] from 23 to 204 (fun v1 v2 wx => Below W2.heap.size W2 wx ∧ ∃ qx qy, v1 = .pointer (some ⟨qx, 0, none⟩) ∧ v2 = .pointer (some ⟨qy, 0, none⟩) ∧ Hid (qx ≠ qy ∧ W2.heap.size ≤ qx ∧ W2.heap.size ≤ qy ∧ wx.heap[qx]? = some (.cells #[.slice l1 c.late.length e1, .slice l2 c.absent.length e2, .slice l3 c.rides.length e3, .slice l4 c.broken.length e4] 62 (0, 0)) ∧ wx.heap[qy]? = some (.cells #[.slice l1 c.late.length e1, .slice l2 c.absent.length e2, .slice l3 c.rides.length e3, .slice l4 c.broken.length e4] 62 (0, 0))))
  case first =>
    as_aux_lemma =>
      go_region
      all_goals (go_wp2_with fail; go_meet; exact ⟨(by repeat (first | exact Below.refl _ _ | (refine bl_setCell ?_ _ _ ?_; rotate_left; focus (first | omega | (simp; done) | (simp; omega))) | refine bl_alloc ?_ _ | refine bl_step ?_ (by assumption) | refine bl_drew ?_ | refine bl_drewN ?_ _)), _, _, rfl, rfl, Lib.hid ⟨by omega, by omega, by omega, (by repeat (first | with_reducible assumption | (with_reducible refine heap_alloc_at' _ _ ?_; focus (simp; done)) | with_reducible refine heap_alloc_off ?_ _ | (with_reducible refine heap_setCell_off ?_ _ ?_; rotate_left; focus omega) | with_reducible refine heap_drew' ?_ | with_reducible refine heap_drewN' ?_ | with_reducible refine heap_below (by with_reducible assumption) ?_)), (by repeat (first | with_reducible assumption | (with_reducible refine heap_alloc_at' _ _ ?_; focus (simp; done)) | with_reducible refine heap_alloc_off ?_ _ | (with_reducible refine heap_setCell_off ?_ _ ?_; rotate_left; focus omega) | with_reducible refine heap_drew' ?_ | with_reducible refine heap_drewN' ?_ | with_reducible refine heap_below (by with_reducible assumption) ?_))⟩⟩)
  case rest =>
  obtain ⟨hb2, qx, qy, rfl, rfl, hxy⟩ := hcut
  obtain ⟨hne, hqx, hqy, hx, hy⟩ := hxy.out
  clear hxy z0c z1c z2c
  obtain ⟨W3, hW3⟩ : ∃ W3, W3 = wc := ⟨_, rfl⟩
  subst hW3
  have Hw0 := Hz0
  have Hw1 := Hz1
  have Hw2 := Hz2
  have z0 := heap_below hb2 Hz0.out
  have z1 := heap_below hb2 Hz1.out
  have z2 := heap_below hb2 Hz2.out
  have z0l3 := lt_of_heap z0
  have z1l3 := lt_of_heap z1
  have z2l3 := lt_of_heap z2
  have hxl := lt_of_heap hx
  have hyl := lt_of_heap hy
  have hxc := cells_of hx
  have hyc := cells_of hy
  have hxf := frozen_of hx
  have hyf := frozen_of hy
  clear Hz0 Hz1 Hz2
  have z0c := cells_of z0
  have z1c := cells_of z1
  have z2c := cells_of z2
  have hs2 := hb2.size
  have Hz0 := Lib.hid z0; clear z0; have Hz1 := Lib.hid z1; clear z1; have Hz2 := Lib.hid z2; clear z2; have Hhb2 := Lib.hid hb2; clear hb2; have Hhx := Lib.hid hx; clear hx; have Hhy := Lib.hid hy; clear hy
  have hmk := Go.run_make_row' (P := Try.prog) 59 3 (.int .i64 0) 8 underInts infoInt1 rfl .i64 .i64 p.trips.length (by omega) (by omega)
  go_upto_region 5 with fail
  go_cut [] from 23 to 204 (fun wx => Below W2.heap.size W2 wx ∧ ∃ bx by_, Hid (CauM wx W2.heap.size qx qy bx by_ p.trips.length (.slice l2 c.absent.length e2) (.slice l3 c.rides.length e3) (.slice l4 c.broken.length e4) (madeCells #[.int .i64 0] p.trips.length) (madeCells #[.int .i64 0] p.trips.length)))
  case first =>
    as_aux_lemma =>
      go_region
      all_goals (go_wp2_with fail; go_meet)
      all_goals (refine ⟨by have := Hhb2.out; repeat (first | exact Below.refl _ _ | (refine bl_setCell ?_ _ _ ?_; rotate_left; focus (first | omega | (simp; done) | (simp; omega))) | refine bl_alloc ?_ _ | refine bl_step ?_ (by assumption) | refine bl_drew ?_ | refine bl_drewN ?_ _), ?_⟩)
      all_goals first
        | exact ⟨W3.heap.size + 1, W3.heap.size, Lib.hid ⟨hne, by omega, by omega, by omega, heap_drew' (heap_alloc_off (heap_alloc_off (heap_setCell_off (by exact (heap_setCell_at Hhx.out _).trans rfl) _ hne.symm) _) _),
            heap_drew' (heap_alloc_off (heap_alloc_off (by exact (heap_setCell_at (heap_setCell_off Hhy.out _ hne) _).trans rfl) _) _), heap_drew' (heap_alloc_at' _ _ (by simp [World.setCell])), heap_drew' (heap_alloc_off (heap_alloc_at' _ _ (by simp [World.setCell])) _)⟩⟩
        | exact ⟨W3.heap.size, W3.heap.size + 1, Lib.hid ⟨hne, by omega, by omega, by omega, heap_drew' (heap_alloc_off (heap_alloc_off (heap_setCell_off (by exact (heap_setCell_at Hhx.out _).trans rfl) _ hne.symm) _) _),
            heap_drew' (heap_alloc_off (heap_alloc_off (by exact (heap_setCell_at (heap_setCell_off Hhy.out _ hne) _).trans rfl) _) _), heap_drew' (heap_alloc_off (heap_alloc_at' _ _ (by simp [World.setCell])) _), heap_drew' (heap_alloc_at' _ _ (by simp [World.setCell]))⟩⟩
  case rest =>
  obtain ⟨hb3, bx, by_, hm⟩ := hcut
  obtain ⟨W4, hW4⟩ : ∃ W4, W4 = wc := ⟨_, rfl⟩
  subst hW4
  clear hmk hxl hyl hxc hyc hxf hyf Hhx Hhy Hz0 Hz1 Hz2 z0c z1c z2c z0l3 z1l3 z2l3 hs2 Hhb2
  have hbw4 := bl_step (bl_step Hhb01.out Hhb1.out) hb3
  have hS4 := hb3.size
  obtain ⟨m1, m2, ⟨m3, m4, m5, m6⟩, ⟨m7, m8, m9, m10⟩, mx, my, mlx, mly⟩ := hm.out
  clear hm
  have z2 := heap_below hb3 Hw2.out
  have z2c := cells_of z2
  have z2l4 := lt_of_heap z2
  have mxc := cells_of mx
  have mxl := lt_of_heap mx
  have myc := cells_of my
  have myl := lt_of_heap my
  have mlxl := lt_of_heap mlx
  have mlyl := lt_of_heap mly
  have Hz2 := Lib.hid z2; clear z2; have Hmx := Lib.hid mx; clear mx; have Hmy := Lib.hid my; clear my; have Hmlx := Lib.hid mlx; clear mlx; have Hmly := Lib.hid mly; clear mly; have Hhb3 := Lib.hid hb3; clear hb3; have Hhbw4 := Lib.hid hbw4; clear hbw4
  go_upto_region 7 with (refine copy_late rfl (.tmp 54) (.tmp 56) rfl bx p.trips.length c.late l1 e1 w.heap.size rfl rfl Hmlx.out (HhC.out.late.below (ek_int _) Hhbw4.out) ?_; intro w5 hg5 hk5)
  have z2' := hk5.out.heap Hz2.out (by simp; omega)
  have my' := hk5.out.heap Hmy.out (by simp; omega)
  have mx' := hk5.out.heap Hmx.out (by simp; omega)
  have mly' := hk5.out.heap Hmly.out (by simp; omega)
  have hbw5 := Hhbw4.out.trans (hk5.out.below (B := w.heap.size) (by have := Hhbw4.out.size; omega) (by simp; omega))
  have hb5 := Hhb3.out.trans (hk5.out.below (B := W2.heap.size) (by omega) (by simp; omega))
  clear z2c mxc myc Hz2 Hmx Hmy Hmly Hmlx Hhbw4 Hhb3 hk5
  have z2c := cells_of z2'
  have myc := cells_of my'
  have myl := lt_of_heap my'
  have z2l5 := lt_of_heap z2'
  have Hz2' := Lib.hid z2'; clear z2'; have Hmx' := Lib.hid mx'; clear mx'; have Hmy' := Lib.hid my'; clear my'; have Hmly' := Lib.hid mly'; clear mly'; have Hhbw5 := Lib.hid hbw5; clear hbw5; have Hhb5 := Lib.hid hb5; clear hb5
  go_upto_region 8 with (refine copy_late rfl (.tmp 59) (.tmp 61) rfl by_ p.trips.length c.late l1 e1 w.heap.size rfl rfl Hmly'.out (HhC.out.late.below (ek_int _) Hhbw5.out) ?_; intro w6 hg6 hk6)
  have mx := hk6.out.heap Hmx'.out (by simp; omega)
  have my := hk6.out.heap Hmy'.out (by simp; omega)
  have mlx := hk6.out.heap hg5.out (by simp; omega)
  have hb6 := Hhb5.out.trans (hk6.out.below (B := W2.heap.size) (by have := Hhb5.out.size; omega) (by simp; omega))
  have mly := hg6.out
  clear z2c myc myl Hz2' Hmx' Hmy' Hmly' Hhbw5 Hhb5 hg5 hg6 hk6 mxl mlxl mlyl z2l4 z2l5
  have mxc := cells_of mx
  have myc := cells_of my
  have mxl := lt_of_heap mx
  have myl := lt_of_heap my
  have mlxl := lt_of_heap mlx
  have mlyl := lt_of_heap mly
  have mlxf := frozen_of mlx
  have mlyf := frozen_of mly
  have hkL : k < (lateL c.late p.trips.length).length := by rw [lateL_length]; exact hkl
  have ux : w6.cell? ⟨bx, k, none⟩ = some (.int .i64 (lateL c.late p.trips.length)[k]) := by rw [cells_of mlx]; simp [vI, hkL]
  have uy : w6.cell? ⟨by_, k, none⟩ = some (.int .i64 (lateL c.late p.trips.length)[k]) := by rw [cells_of mly]; simp [vI, hkL]
  generalize (lateL c.late p.trips.length)[k] = u0 at ux uy
  have Hmx := Lib.hid mx; clear mx; have Hmy := Lib.hid my; clear my; have Hmlx := Lib.hid mlx; clear mlx; have Hmly := Lib.hid mly; clear mly; have Hhb6 := Lib.hid hb6; clear hb6; have HhkL := Lib.hid hkL; clear hkL
  simp only [Act.put, List.setIfInBounds_toArray, List.set_cons_succ, List.set_cons_zero]
  go_cut [] from 23 to 204 (fun wx => Below W2.heap.size W2 wx ∧ Hid (CauM wx W2.heap.size qx qy bx by_ p.trips.length (.slice l2 c.absent.length e2) (.slice l3 c.rides.length e3) (.slice l4 c.broken.length e4) (((lateL c.late p.trips.length).set k (a % 60)).map vI).toArray (((lateL c.late p.trips.length).set k (b % 60)).map vI).toArray))
  case first =>
    as_aux_lemma =>
      go_region
      all_goals (go_wp2_with fail; go_meet)
      all_goals exact ⟨by have := Hhb6.out; repeat (first | exact Below.refl _ _ | (refine bl_setCell ?_ _ _ ?_; rotate_left; focus (first | omega | (simp; done) | (simp; omega))) | refine bl_alloc ?_ _ | refine bl_step ?_ (by assumption) | refine bl_drew ?_ | refine bl_drewN ?_ _), Lib.hid ⟨m1, m2, ⟨m3, m4, m5, m6⟩, ⟨m7, m8, m9, m10⟩, heap_drew' (heap_setCell_off (heap_setCell_off Hmx.out _ m3.symm) _ m4.symm), heap_drew' (heap_setCell_off (heap_setCell_off Hmy.out _ m5.symm) _ m6.symm),
        heap_drew' (heap_setCell_off (ints_set Hmlx.out k _) _ m2.symm), heap_drew' (ints_set (heap_setCell_off Hmly.out _ m2) k _)⟩⟩
  case rest =>
  obtain ⟨hb7, hm⟩ := hcut
  clear Hmx Hmy Hmlx Hmly Hhb6 HhkL mxc myc mxl myl mlxl mlyl mlxf mlyf ux uy
  obtain ⟨W7, hW7⟩ : ∃ W7, W7 = wc := ⟨_, rfl⟩
  subst hW7
  have hmm := hm.out
  clear hm
  have hbw7 := bl_step (bl_step Hhb01.out Hhb1.out) hb7
  obtain ⟨A, hA⟩ : ∃ A : Int, A = a % 60 := ⟨_, rfl⟩
  obtain ⟨A2, hA2⟩ : ∃ A : Int, A = b % 60 := ⟨_, rfl⟩
  have hAr : 0 ≤ A ∧ A ≤ 59 := by omega
  have hAr2 : 0 ≤ A2 ∧ A2 ≤ 59 := by omega
  rw [← hA, ← hA2] at hmm
  obtain ⟨L, hL⟩ : ∃ L, L = lateL c.late p.trips.length := ⟨_, rfl⟩
  have hLl : L.length = p.trips.length := by rw [hL]; exact lateL_length _ _
  rw [← hL] at hmm
  obtain ⟨cx, hcx⟩ : ∃ cx : Case, cx = { c with late := L.set k A } := ⟨_, rfl⟩
  obtain ⟨cy, hcy⟩ : ∃ cy : Case, cy = { c with late := L.set k A2 } := ⟨_, rfl⟩
  have HX : ∀ W, Below W7.heap.size W7 W → Calls Try.prog 17 #[.agg #[.int .i64 T.steps, .slice a1 T.places.length c1, .slice a2 T.ways.length c2, .slice a3 T.groups.length c3, .slice a4 T.vehicles.length c4], .agg #[.slice p1 p.trips.length d1, .slice p2 p.rides.length d2], .agg #[.slice (some ⟨bx, 0, none⟩) p.trips.length p.trips.length, .slice l2 c.absent.length e2, .slice l3 c.rides.length e3, .slice l4 c.broken.length e4]] W (RunR T p cx W) := by
    intro W hW
    have hww := bl_step hbw7 hW
    have h := HHRun.out W cx (some ⟨bx, 0, none⟩) l2 l3 l4 p.trips.length e2 e3 e4 hww (by
      rw [hcx]
      exact ⟨ints_sl (heap_below hW hmm.lx) (by rw [List.length_set]; omega), sl_up (HhC.out.absent.below (ek_int _) hww) hww.size, sl_up (HhC.out.rides.below (ek_int _) hww) hww.size, sl_up (HhC.out.broken.below (ek_bool _) hww) hww.size⟩)
    rw [hcx] at h ⊢
    simp only [List.length_set, hLl] at h
    exact h
  have HY : ∀ W, Below W7.heap.size W7 W → Calls Try.prog 17 #[.agg #[.int .i64 T.steps, .slice a1 T.places.length c1, .slice a2 T.ways.length c2, .slice a3 T.groups.length c3, .slice a4 T.vehicles.length c4], .agg #[.slice p1 p.trips.length d1, .slice p2 p.rides.length d2], .agg #[.slice (some ⟨by_, 0, none⟩) p.trips.length p.trips.length, .slice l2 c.absent.length e2, .slice l3 c.rides.length e3, .slice l4 c.broken.length e4]] W (RunR T p cy W) := by
    intro W hW
    have hww := bl_step hbw7 hW
    have h := HHRun.out W cy (some ⟨by_, 0, none⟩) l2 l3 l4 p.trips.length e2 e3 e4 hww (by
      rw [hcy]
      exact ⟨ints_sl (heap_below hW hmm.ly) (by rw [List.length_set]; omega), sl_up (HhC.out.absent.below (ek_int _) hww) hww.size, sl_up (HhC.out.rides.below (ek_int _) hww) hww.size, sl_up (HhC.out.broken.below (ek_bool _) hww) hww.size⟩)
    rw [hcy] at h ⊢
    simp only [List.length_set, hLl] at h
    exact h
  have hce : caseErr p cx = caseErr p cy := by
    rw [hcx, hcy]
    exact caseErr_late p c L k A A2 (by omega) (by omega) (by omega)
  have hbe : begunErr T p cy = begunErr T p cx := by unfold begunErr; rw [hce]
  have z0 := heap_below hb7 Hw0.out
  have z1 := heap_below hb7 Hw1.out
  have z2 := heap_below hb7 Hw2.out
  have z0c := cells_of z0
  have z1c := cells_of z1
  have z2c := cells_of z2
  have z0l := lt_of_heap z0
  have z1l := lt_of_heap z1
  have z2l := lt_of_heap z2
  have xc := cells_of hmm.x
  have yc := cells_of hmm.y
  have xl := lt_of_heap hmm.x
  have yl := lt_of_heap hmm.y
  have hlate : p.trips.length < c.late.length ∨ c.late.length ≤ p.trips.length := by omega
  clear Hw0 Hw1 Hw2 z0 z1 z2 m1 m2 m3 m4 m5 m6 m7 m8 m9 m10 hne hqx hqy
  have Hhmm := Lib.hid hmm; clear hmm; have Hhb7 := Lib.hid hb7; clear hb7; have HhA := Lib.hid hA; clear hA; have HhA2 := Lib.hid hA2; clear hA2; have HhL := Lib.hid hL; clear hL; have HhLl := Lib.hid hLl; clear hLl; have Hhcx := Lib.hid hcx; clear hcx; have Hhcy := Lib.hid hcy; clear hcy; have HHX := Lib.hid HX; clear HX; have HHY := Lib.hid HY; clear HY; have Hhce := Lib.hid hce; clear hce; have Hhbe := Lib.hid hbe; clear hbe; have Hhbw7 := Lib.hid hbw7; clear hbw7
  by_cases hz : begunErr T p cx = 0
  rotate_left
  · as_aux_lemma =>
      obtain ⟨ev, hev⟩ : ∃ v, begunErr T p cx = v := ⟨_, rfl⟩
      rw [hev] at hz
      have HX2 : ∀ W, Below W7.heap.size W7 W → Calls Try.prog 17 #[.agg #[.int .i64 T.steps, .slice a1 T.places.length c1, .slice a2 T.ways.length c2, .slice a3 T.groups.length c3, .slice a4 T.vehicles.length c4], .agg #[.slice p1 p.trips.length d1, .slice p2 p.rides.length d2], .agg #[.slice (some ⟨bx, 0, none⟩) p.trips.length p.trips.length, .slice l2 c.absent.length e2, .slice l3 c.rides.length e3, .slice l4 c.broken.length e4]] W fun e w' => e = .returned (.tuple #[.slice none 0 0, .int .i64 ev]) ∧ Below W.heap.size W w' := by
        intro W hW
        refine (HHX.out W hW).mono ?_
        rintro e w' ⟨hb, ⟨_, he⟩ | ⟨h1, h2, _⟩⟩
        · exact ⟨by rw [he, hev], hb⟩
        · exact absurd (by rw [← hev]; unfold begunErr; rw [if_pos h1]; exact h2) hz
      have HY2 : ∀ W, Below W7.heap.size W7 W → Calls Try.prog 17 #[.agg #[.int .i64 T.steps, .slice a1 T.places.length c1, .slice a2 T.ways.length c2, .slice a3 T.groups.length c3, .slice a4 T.vehicles.length c4], .agg #[.slice p1 p.trips.length d1, .slice p2 p.rides.length d2], .agg #[.slice (some ⟨by_, 0, none⟩) p.trips.length p.trips.length, .slice l2 c.absent.length e2, .slice l3 c.rides.length e3, .slice l4 c.broken.length e4]] W fun e w' => e = .returned (.tuple #[.slice none 0 0, .int .i64 ev]) ∧ Below W.heap.size W w' := by
        intro W hW
        refine (HHY.out W hW).mono ?_
        rintro e w' ⟨hb, ⟨_, he⟩ | ⟨h1, h2, _⟩⟩
        · exact ⟨by rw [he, Hhbe.out, hev], hb⟩
        · exact absurd (by rw [← hev, ← Hhbe.out]; unfold begunErr; rw [if_pos h1]; exact h2) hz
      have hd : (ev != 0) = true := by simpa using hz
      have Hhev := Lib.hid hev; clear hev; have HHX2 := Lib.hid HX2; clear HX2; have HHY2 := Lib.hid HY2; clear HY2; have Hhz := Lib.hid hz; clear hz
      go_upto_region 10 with (go_at_call 17; refine (HHX2.out _ (Below.refl _ _)).mono ?_; rintro e w8 ⟨rfl, hb8⟩; obtain ⟨_, _, _⟩ := bk (w.heap.size) hb8 (by (first | omega | (simp; done) | (simp; omega))); obtain ⟨_, _, _⟩ := bk (w.heap.size + 1) hb8 (by (first | omega | (simp; done) | (simp; omega))); obtain ⟨_, _, _⟩ := bk (w.heap.size + 1 + 1) hb8 (by (first | omega | (simp; done) | (simp; omega))); obtain ⟨_, _, _⟩ := bk (qx) hb8 (by (first | omega | (simp; done) | (simp; omega))); obtain ⟨_, _, _⟩ := bk (qy) hb8 (by (first | omega | (simp; done) | (simp; omega))); have hzhb8 := bsz hb8; (try simp only [World.size_alloc] at hzhb8))
      go_upto_region 11 with (go_at_call 17; refine (HHY2.out _ hb8).mono ?_; rintro e w9 ⟨rfl, hb9⟩; obtain ⟨_, _, _⟩ := bk (w.heap.size) hb9 (by (first | omega | (simp; done) | (simp; omega))); obtain ⟨_, _, _⟩ := bk (w.heap.size + 1) hb9 (by (first | omega | (simp; done) | (simp; omega))); obtain ⟨_, _, _⟩ := bk (w.heap.size + 1 + 1) hb9 (by (first | omega | (simp; done) | (simp; omega))); obtain ⟨_, _, _⟩ := bk (qx) hb9 (by (first | omega | (simp; done) | (simp; omega))); obtain ⟨_, _, _⟩ := bk (qy) hb9 (by (first | omega | (simp; done) | (simp; omega))); have hzhb9 := bsz hb9; (try simp only [World.size_alloc] at hzhb9))
      rcases hlate with hlt | hlt
      · go_wp2_with (go_at_call 16; refine (HHWk.out _).mono ?_; rintro e w10 ⟨rfl, hb10⟩; obtain ⟨_, _, _⟩ := bk (w.heap.size) hb10 (by (first | omega | (simp; done) | (simp; omega))); have hzhb10 := bsz hb10; (try simp only [World.size_alloc] at hzhb10))
        go_ret
        exact ⟨rfl, bl_step (bl_step (bl_step Hhbw7.out hb8) hb9) hb10⟩
      · go_wp2_with (go_at_call 16; refine (HHWk.out _).mono ?_; rintro e w10 ⟨rfl, hb10⟩; obtain ⟨_, _, _⟩ := bk (w.heap.size) hb10 (by (first | omega | (simp; done) | (simp; omega))); have hzhb10 := bsz hb10; (try simp only [World.size_alloc] at hzhb10))
        go_ret
        exact ⟨rfl, bl_step (bl_step (bl_step Hhbw7.out hb8) hb9) hb10⟩
  obtain ⟨hv, hc0⟩ : verifyT T p = 0 ∧ caseErr p cx = 0 := by
    unfold begunErr at hz
    by_cases h : verifyT T p = 0
    · rw [if_pos h] at hz; exact ⟨h, hz⟩
    · rw [if_neg h] at hz; exact absurd hz h
  obtain ⟨hG, hPG⟩ := verifyT_zero hv
  obtain ⟨l, hl⟩ : ∃ l, runLog T p cx = l := ⟨_, rfl⟩
  obtain ⟨m, hm⟩ : ∃ m, runLog T p cy = m := ⟨_, rfl⟩
  have HX2 : ∀ W, Below W7.heap.size W7 W → Calls Try.prog 17 #[.agg #[.int .i64 T.steps, .slice a1 T.places.length c1, .slice a2 T.ways.length c2, .slice a3 T.groups.length c3, .slice a4 T.vehicles.length c4], .agg #[.slice p1 p.trips.length d1, .slice p2 p.rides.length d2], .agg #[.slice (some ⟨bx, 0, none⟩) p.trips.length p.trips.length, .slice l2 c.absent.length e2, .slice l3 c.rides.length e3, .slice l4 c.broken.length e4]] W fun e w' => ∃ a cap, e = .returned (.tuple #[.slice a l.length cap, .int .i64 0]) ∧ Sl EntryE 5 w'.heap.size w' a l ∧ Below W.heap.size W w' := by
    intro W hW
    refine (HHX.out W hW).mono ?_
    rintro e w' ⟨hb, ⟨he, _⟩ | ⟨_, _, a, cap, h1, h2⟩⟩
    · exact absurd hz he
    · rw [hl] at h1 h2; exact ⟨a, cap, h1, h2, hb⟩
  have HY2 : ∀ W, Below W7.heap.size W7 W → Calls Try.prog 17 #[.agg #[.int .i64 T.steps, .slice a1 T.places.length c1, .slice a2 T.ways.length c2, .slice a3 T.groups.length c3, .slice a4 T.vehicles.length c4], .agg #[.slice p1 p.trips.length d1, .slice p2 p.rides.length d2], .agg #[.slice (some ⟨by_, 0, none⟩) p.trips.length p.trips.length, .slice l2 c.absent.length e2, .slice l3 c.rides.length e3, .slice l4 c.broken.length e4]] W fun e w' => ∃ a cap, e = .returned (.tuple #[.slice a m.length cap, .int .i64 0]) ∧ Sl EntryE 5 w'.heap.size w' a m ∧ Below W.heap.size W w' := by
    intro W hW
    refine (HHY.out W hW).mono ?_
    rintro e w' ⟨hb, ⟨he, _⟩ | ⟨_, _, a, cap, h1, h2⟩⟩
    · exact absurd (Hhbe.out.trans hz) he
    · rw [hm] at h1 h2; exact ⟨a, cap, h1, h2, hb⟩
  obtain ⟨x, hx⟩ : ∃ x, x = p.trips[k] := ⟨_, rfl⟩
  obtain ⟨due, hdue⟩ : ∃ d, d = dueAt x A A2 := ⟨_, rfl⟩
  have hCau : CauL due l m := by
    obtain ⟨q, r1, r2, f1, f2, f3, f4⟩ := causes T p c L k A A2 hkl HhLl.out (due_nonneg hPG hkl hAr.1 hAr2.1)
    rw [hdue, hx, ← hl, ← hm, Hhcx.out, Hhcy.out]
    exact ⟨q, r1, r2, f1, f2, f3, f4⟩
  have hTx := hPG.trips _ (List.getElem_mem hkl)
  rw [← hx] at hTx
  have hen := hTx.enter
  have hst := hG.steps
  have hnh := hTx.nh
  have hlv : 0 < x.hops.length → 0 ≤ (x.hops.getD 0 Hop.z).leave ∧ (x.hops.getD 0 Hop.z).leave ≤ T.steps := by
    intro h0
    have hmem : (x.hops.getD 0 Hop.z) ∈ x.hops := by
      rw [List.getD_eq_getElem?_getD, List.getElem?_eq_getElem h0]
      exact List.getElem_mem _
    have h1 := (hTx.hops _ hmem).2
    unfold Town.outside within at h1
    simp only [Bool.not_eq_false', Bool.and_eq_true, decide_eq_true_eq] at h1
    exact h1
  clear HHX HHY HHRun HHFew hz
  have Hhv := Lib.hid hv; clear hv; have Hhc0 := Lib.hid hc0; clear hc0; have HhG := Lib.hid hG; clear hG; have HhPG := Lib.hid hPG; clear hPG; have Hhl := Lib.hid hl; clear hl; have Hhm := Lib.hid hm; clear hm; have HHX2 := Lib.hid HX2; clear HX2; have HHY2 := Lib.hid HY2; clear HY2; have Hhx := Lib.hid hx; clear hx; have Hhdue := Lib.hid hdue; clear hdue; have HhCau := Lib.hid hCau; clear hCau; have HhTx := Lib.hid hTx; clear hTx; have Hhlv := Lib.hid hlv; clear hlv
  go_upto_region 10 with (go_at_call 17; refine (HHX2.out _ (Below.refl _ _)).mono ?_; rintro e w8 ⟨al, capl, rfl, hsl, hb8⟩; obtain ⟨_, _, _⟩ := bk (w.heap.size) hb8 (by (first | omega | (simp; done) | (simp; omega))); obtain ⟨_, _, _⟩ := bk (w.heap.size + 1) hb8 (by (first | omega | (simp; done) | (simp; omega))); obtain ⟨_, _, _⟩ := bk (w.heap.size + 1 + 1) hb8 (by (first | omega | (simp; done) | (simp; omega))); obtain ⟨_, _, _⟩ := bk (qx) hb8 (by (first | omega | (simp; done) | (simp; omega))); obtain ⟨_, _, _⟩ := bk (qy) hb8 (by (first | omega | (simp; done) | (simp; omega))); have hzhb8 := bsz hb8; (try simp only [World.size_alloc] at hzhb8); have Hhsl := Lib.hid hsl; clear hsl)
  go_upto_region 11 with (go_at_call 17; refine (HHY2.out _ hb8).mono ?_; rintro e w9 ⟨am, capm, rfl, hsm, hb9⟩; obtain ⟨_, _, _⟩ := bk (w.heap.size) hb9 (by (first | omega | (simp; done) | (simp; omega))); obtain ⟨_, _, _⟩ := bk (w.heap.size + 1) hb9 (by (first | omega | (simp; done) | (simp; omega))); obtain ⟨_, _, _⟩ := bk (w.heap.size + 1 + 1) hb9 (by (first | omega | (simp; done) | (simp; omega))); obtain ⟨_, _, _⟩ := bk (qx) hb9 (by (first | omega | (simp; done) | (simp; omega))); obtain ⟨_, _, _⟩ := bk (qy) hb9 (by (first | omega | (simp; done) | (simp; omega))); have hzhb9 := bsz hb9; (try simp only [World.size_alloc] at hzhb9); have Hhsm := Lib.hid hsm; clear hsm)
  rcases hlate with hlt | hlt
  · as_aux_lemma =>
      go_wp2_with (go_at_call 16; refine (HHWk.out _).mono ?_; rintro e w10 ⟨rfl, hb10⟩; obtain ⟨_, _, _⟩ := bk (w.heap.size) hb10 (by (first | omega | (simp; done) | (simp; omega))); have hzhb10 := bsz hb10; (try simp only [World.size_alloc] at hzhb10))
      go_ret
      exact ⟨rfl, bl_step (bl_step (bl_step Hhbw7.out hb8) hb9) hb10⟩
  have hb79 := bl_step hb8 hb9
  have hbw9 := bl_step Hhbw7.out hb79
  have hsl9 := Hhsl.out.below (ek_entry _) hb9
  have hsl9' := sl_up hsl9 hb9.size
  have hsm9 := Hhsm.out
  have ye := heap_below hb79 Hhmm.out.x
  have yf := heap_below hb79 Hhmm.out.y
  have yg := heap_below hb79 Hhmm.out.lx
  have yh := heap_below hb79 Hhmm.out.ly
  obtain ⟨b0, off0, rfl, hbb0, av, dv, f0, f1, f2, f3, hsh⟩ := HhP.out.trips.2 k hkl
  have hB9 : Below w.heap.size w w9 := hbw9
  rw [← Hhx.out] at f2 f3 hsh
  replace f2 := ek_cell hB9 hbb0 f2
  replace f3 := ek_cell hB9 hbb0 f3
  replace hsh := hsh.below (ek_hop _) hB9
  have hb0l : b0 < w9.heap.size := by have := hB9.size; omega
  obtain ⟨D0, hD0⟩ : ∃ D, D = if x.hops.length = 0 then x.enter else (x.hops.getD 0 Hop.z).leave := ⟨_, rfl⟩
  have hD0r : 0 ≤ D0 ∧ D0 ≤ 200 := by
    rw [hD0]
    split
    · omega
    · have := Hhlv.out (by omega); omega
  have hdue2 : due = D0 + min A A2 := by rw [Hhdue.out, hD0]; rfl
  have hkL : k < L.length := by rw [HhLl.out]; exact hkl
  have ux : w9.cell? ⟨bx, k, none⟩ = some (.int .i64 A) := by rw [cells_of yg]; simp [vI, hkL]
  have uy : w9.cell? ⟨by_, k, none⟩ = some (.int .i64 A2) := by rw [cells_of yh]; simp [vI, hkL]
  have ugl := lt_of_heap yg
  have uhl := lt_of_heap yh
  have uel := lt_of_heap ye
  have ufl := lt_of_heap yf
  clear f0 f1
  have Hhbw9 := Lib.hid hbw9; clear hbw9; have Hhb79 := Lib.hid hb79; clear hb79; have HhB9 := Lib.hid hB9; clear hB9; have Hhsl9 := Lib.hid hsl9; clear hsl9; have Hhsl9' := Lib.hid hsl9'; clear hsl9'; have Hhsm9 := Lib.hid hsm9; clear hsm9; have Hye := Lib.hid ye; clear ye; have Hyf := Lib.hid yf; clear yf; have Hyg := Lib.hid yg; clear yg; have Hyh := Lib.hid yh; clear yh; have Hhsh := Lib.hid hsh; clear hsh; have HhD0 := Lib.hid hD0; clear hD0; have Hhdue2 := Lib.hid hdue2; clear hdue2; have HhkL := Lib.hid hkL; clear hkL
  go_upto_if 118 with fail
  go_cut [20] from 23 to 204 (fun v wx => v = .int .i64 D0 ∧ wx = w9)
  case first =>
    as_aux_lemma =>
      rcases Nat.eq_zero_or_pos x.hops.length with hn | hn
      · have e0 : D0 = x.enter := by rw [HhD0.out, if_pos hn]
        have hn' : ¬ (0 : Int) < (x.hops.length : Int) := by omega
        go_wp2_with fail
        go_meet
        exact ⟨by rw [e0], rfl⟩
      · obtain ⟨b1, off1, rfl, hbb1, g0, g1⟩ := Hhsh.out.2 0 hn
        have hn' : (0 : Int) < (x.hops.length : Int) := by omega
        have e0 : D0 = (x.hops[0]'hn).leave := by rw [HhD0.out, if_neg (by omega), List.getD_eq_getElem?_getD, List.getElem?_eq_getElem hn]; rfl
        have hb1l : b1 < w9.heap.size := by have := HhB9.out.size; omega
        rw [← e0] at g1
        clear g0
        have He0 := Lib.hid e0; clear e0
        go_wp2_with fail
        go_meet
        exact ⟨rfl, rfl⟩
  case rest =>
  obtain ⟨rfl, rfl⟩ := hcut
  go_upto_region 20 with fail
  go_cut [20] from 23 to 204 (fun v wx => v = .int .i64 due ∧ Below wc.heap.size wc wx)
  case first =>
    as_aux_lemma =>
      go_region
      all_goals (go_wp2_with fail)
      all_goals go_meet
      all_goals exact ⟨congrArg _ (by rw [Hhdue2.out]; omega), (by repeat (first | exact Below.refl _ _ | (refine bl_setCell ?_ _ _ ?_; rotate_left; focus (first | omega | (simp; done) | (simp; omega))) | refine bl_alloc ?_ _ | refine bl_step ?_ (by assumption) | refine bl_drew ?_ | refine bl_drewN ?_ _))⟩
  case rest =>
  obtain ⟨rfl, hbv⟩ := hcut
  have hbw10 := bl_step HhB9.out hbv
  have hslv := sl_up (Hhsl9'.out.below (ek_entry _) hbv) hbv.size
  have hsmv := sl_up (Hhsm9.out.below (ek_entry _) hbv) hbv.size
  obtain ⟨W10, hW10⟩ : ∃ W10, W10 = wc := ⟨_, rfl⟩
  subst hW10
  have hll := hslv.1
  have hml := hsmv.1
  clear f2 f3 ux uy
  have Hhbv := Lib.hid hbv; clear hbv; have Hhbw10 := Lib.hid hbw10; clear hbw10; have Hhslv := Lib.hid hslv; clear hslv; have Hhsmv := Lib.hid hsmv; clear hsmv
  go_wp2_with fail
  go_loopw [21, 22] (fun i _ wr => ∃ j : Nat, i = .int .i64 j ∧ j ≤ max l.length m.length ∧ Hid (Below W10.heap.size W10 wr)) (fun i _ _ => max l.length m.length - (intOf i).toNat)
  case atStart => exact ⟨0, rfl, by omega, Lib.hid (Below.refl _ _)⟩
  case round =>
    obtain ⟨j, rfl, hj, hbr0⟩ := hrel
    have hbr := bl_step Hhbw10.out hbr0.out
    have hsl := Hhslv.out.below (ek_entry _) hbr0.out
    have hsm := Hhsmv.out.below (ek_entry _) hbr0.out
    have hszr := hbr0.out.size
    have Hhbr := Lib.hid hbr; clear hbr
    by_cases hP1 : ∃ (h1 : j < l.length) (h2 : j < m.length), l[j] = m[j] ∧ (l[j]).step < due
    · as_aux_lemma =>
        obtain ⟨h1, h2, he, hd⟩ := hP1
        obtain ⟨bl, ol, rfl, hbl, q0, q1, q2, q3, q4⟩ := hsl.2 j h1
        obtain ⟨bm, om, rfl, hbm, r0, r1, r2, r3, r4⟩ := hsm.2 j h2
        rw [← he] at r0 r1 r2 r3 r4
        obtain ⟨es, hes⟩ : ∃ e, e = l[j] := ⟨_, rfl⟩
        rw [← hes] at q0 q1 q2 q3 q4 r0 r1 r2 r3 r4 hd
        obtain ⟨n0, n1, n2, n3, n4⟩ := es
        simp only at q0 q1 q2 q3 q4 r0 r1 r2 r3 r4 hd
        have hbl' : bl < wr.heap.size := by omega
        have hbm' : bm < wr.heap.size := by omega
        have i1 : (j : Int) < (l.length : Int) := by omega
        have i2 : (j : Int) < (m.length : Int) := by omega
        clear he hsl hsm
        have Hhes := Lib.hid hes; clear hes
        go_upto_region 26 with fail
        have i3 : ¬ (l.length : Int) ≤ (j : Int) := by omega
        have i4 : ¬ (m.length : Int) ≤ (j : Int) := by omega
        have i5 : decide ((l.length : Int) ≤ (j : Int)) = false := by simpa using i3
        have i6 : decide ((m.length : Int) ≤ (j : Int)) = false := by simpa using i4
        go_quiet (fail)
        go_wp2_with fail
        go_roundw
        case rel => exact ⟨j + 1, by go_num, by omega, Lib.hid (by have := hbr0.out; repeat (first | exact Below.refl _ _ | (refine bl_setCell ?_ _ _ ?_; rotate_left; focus (first | omega | (simp; done) | (simp; omega))) | refine bl_alloc ?_ _ | refine bl_step ?_ (by assumption) | refine bl_drew ?_ | refine bl_drewN ?_ _))⟩
        case measure => simp [intOf]; omega
    · have hlo : (∀ h1 : j < l.length, due ≤ (l[j]).step) ∧ (∀ h2 : j < m.length, due ≤ (m[j]).step) := by
        rcases HhCau.out.at j with ⟨h1, h2, he⟩ | h
        · have hd : due ≤ (l[j]).step := by
            by_cases hlt : (l[j]).step < due
            · exact absurd ⟨h1, h2, he, hlt⟩ hP1
            · omega
          exact ⟨fun _ => hd, fun _ => by rw [← he]; exact hd⟩
        · exact h
      clear hP1
      by_cases h1 : j < l.length
      · obtain ⟨bl, ol, rfl, hbl, q0, _⟩ := hsl.2 j h1
        have g1 := hlo.1 h1
        obtain ⟨n0, hn0⟩ : ∃ n, n = (l[j]).step := ⟨_, rfl⟩
        rw [← hn0] at q0 g1
        have i1 : (j : Int) < (l.length : Int) := by omega
        have hbl' : bl < wr.heap.size := by omega
        have d1 : ¬ n0 < due := by omega
        by_cases h2 : j < m.length
        · as_aux_lemma =>
            obtain ⟨bm, om, rfl, hbm, r0, _⟩ := hsm.2 j h2
            have g2 := hlo.2 h2
            obtain ⟨n1, hn1⟩ : ∃ n, n = (m[j]).step := ⟨_, rfl⟩
            rw [← hn1] at r0 g2
            have i2 : (j : Int) < (m.length : Int) := by omega
            have hbm' : bm < wr.heap.size := by omega
            have d2 : ¬ n1 < due := by omega
            clear hlo hsl hsm
            have Hhn0 := Lib.hid hn0; clear hn0; have Hhn1 := Lib.hid hn1; clear hn1
            go_wp2_with (go_at_call 16; refine (HHWk.out _).mono ?_; rintro e w10 ⟨rfl, hb10⟩)
            go_ret
            exact ⟨rfl, bl_step Hhbr.out hb10⟩
        · as_aux_lemma =>
            have i2 : ¬ (j : Int) < (m.length : Int) := by omega
            clear hlo hsl hsm
            have Hhn0 := Lib.hid hn0; clear hn0
            go_wp2_with (go_at_call 16; refine (HHWk.out _).mono ?_; rintro e w10 ⟨rfl, hb10⟩)
            go_ret
            exact ⟨rfl, bl_step Hhbr.out hb10⟩
      · have i1 : ¬ (j : Int) < (l.length : Int) := by omega
        by_cases h2 : j < m.length
        · as_aux_lemma =>
            obtain ⟨bm, om, rfl, hbm, r0, _⟩ := hsm.2 j h2
            have g2 := hlo.2 h2
            obtain ⟨n1, hn1⟩ : ∃ n, n = (m[j]).step := ⟨_, rfl⟩
            rw [← hn1] at r0 g2
            have i2 : (j : Int) < (m.length : Int) := by omega
            have hbm' : bm < wr.heap.size := by omega
            have d2 : ¬ n1 < due := by omega
            clear hlo hsl hsm
            have Hhn1 := Lib.hid hn1; clear hn1
            go_wp2_with (go_at_call 16; refine (HHWk.out _).mono ?_; rintro e w10 ⟨rfl, hb10⟩)
            go_ret
            exact ⟨rfl, bl_step Hhbr.out hb10⟩
        · as_aux_lemma =>
            have i2 : ¬ (j : Int) < (m.length : Int) := by omega
            clear hlo hsl hsm
            go_wp2_with (go_at_call 16; refine (HHWk.out _).mono ?_; rintro e w10 ⟨rfl, hb10⟩)
            go_ret
            exact ⟨rfl, bl_step Hhbr.out hb10⟩

end Go.Proofs.Ytjoihijlcpnhoaa
