/- tide: the series as a function with a memory, its sum, a quarter of a turn. -/
import Derived.Test.YtfbmjecikilghaaSer
import Derived.Deep.DeepCutAuto
namespace Go.Proofs.Ytfbmjecikilghaa
open Go.RowKit

/-- Just this world. -/
def Is (a w : World) : Prop := w = a

/-- The three cells of a series: term, square and number. -/
structure SerM (w : World) (bt bs bn : Nat) (t sq n : Nat) : Prop where
  term : w.heap[bt]? = some (.cells #[.int .u64 t] 167 (0, 0))
  square : w.heap[bs]? = some (.cells #[.int .u64 sq] 167 (0, 0))
  num : w.heap[bn]? = some (.cells #[.int .u64 n] 166 (0, 0))
  ts : bt ≠ bs
  tn : bt ≠ bn
  sn : bs ≠ bn

theorem SerM.off {w : World} {bt bs bn t sq n : Nat} (h : SerM w bt bs bn t sq n) (q o : Nat) (v : Value) (h1 : bt ≠ q) (h2 : bn ≠ q) (h3 : bs ≠ q) : SerM (w.setCell ⟨q, o, none⟩ v) bt bs bn t sq n :=
  ⟨heap_setCell_off h.term _ h1.symm, heap_setCell_off h.square _ h3.symm, heap_setCell_off h.num _ h2.symm, h.ts, h.tn, h.sn⟩

theorem nx1 (n : Nat) (h : n ≤ 1000) : ((n : Int) + 1) * ((n : Int) + 2) = (((n + 1) * (n + 2) : Nat) : Int) ∧ (n + 1) * (n + 2) ≤ 1003002 ∧ 2 ≤ (n + 1) * (n + 2) := by
  refine ⟨by push_cast; rfl, ?_, ?_⟩
  · exact Nat.mul_le_mul (show n + 1 ≤ 1001 by omega) (show n + 2 ≤ 1002 by omega)
  · exact Nat.mul_le_mul (show 1 ≤ n + 1 by omega) (show 2 ≤ n + 2 by omega)

set_option maxHeartbeats 4000000 in
set_option maxRecDepth 100000 in
theorem series1_any (bt bs bn t sq n : Nat) (w : World) (h : SerM w bt bs bn t sq n) (ht : t ≤ 4611686018427387904) (hs : sq ≤ 4611686018427387904) (hn : n ≤ 1000) :
    Calls Try.prog 104 #[.pointer (some ⟨bt, 0, none⟩), .pointer (some ⟨bs, 0, none⟩), .pointer (some ⟨bn, 0, none⟩)] w
      fun e w' => e = .returned (.int .u64 t) ∧ Keeps [bt, bn] w w' ∧ SerM w' bt bs bn (t * sq / 4611686018427387904 / ((n + 1) * (n + 2))) sq (n + 2) := by
  obtain ⟨h1, h2, h3, n1, n2, n3⟩ := h
  obtain ⟨m1, m2, m3⟩ := nx1 n hn
  have q1 : t * sq / 4611686018427387904 < 18446744073709551616 := by
    have := Nat.mul_le_mul ht hs
    omega
  obtain ⟨p, hp⟩ : ∃ p : Nat, t * sq / 4611686018427387904 = p := ⟨_, rfl⟩
  have ht' := times_any t sq (by omega) (by omega) q1
  rw [hp] at ht' q1 ⊢
  obtain ⟨m, hm⟩ : ∃ m : Nat, (n + 1) * (n + 2) = m := ⟨_, rfl⟩
  rw [hm] at m1 m2 m3 ⊢
  have d1 : (p : Int).tdiv (m : Int) = ((p / m : Nat) : Int) := by rw [Int.tdiv_eq_ediv_of_nonneg (by omega)]; rfl
  have d1' : (p : Int) / (m : Int) = ((p / m : Nat) : Int) := rfl
  obtain ⟨d, hd⟩ : ∃ d : Nat, p / m = d := ⟨_, rfl⟩
  have dl : d < 18446744073709551616 := by rw [← hd]; exact Nat.lt_of_le_of_lt (Nat.div_le_self _ _) q1
  rw [hd] at d1 d1' ⊢
  have c1 := cells_of h1; have f1 := frozen_of h1
  have c2 := cells_of h2
  have c3 := cells_of h3; have f3 := frozen_of h3
  have w1 : IntKind.u64.wrap ((n : Int) + 1) = (n : Int) + 1 := by rw [IntKind.wrap_u64]; omega
  have w2 : IntKind.u64.wrap ((n : Int) + 2) = (n : Int) + 2 := by rw [IntKind.wrap_u64]; omega
  have w3 : IntKind.u64.wrap (m : Int) = (m : Int) := by rw [IntKind.wrap_u64]; omega
  have w4 : IntKind.u64.wrap (d : Int) = (d : Int) := by rw [IntKind.wrap_u64]; omega
  have w5 : ¬ m = 0 := by omega
  have Hh1 := Lib.hid h1; clear h1; have Hh2 := Lib.hid h2; clear h2; have Hh3 := Lib.hid h3; clear h3; have Hhp := Lib.hid hp; clear hp; have Hhm := Lib.hid hm; clear hm; have Hhd := Lib.hid hd; clear hd
  go_enter Try.func104, Try.ntmps104
  go_upto_region 2 with fail
  have hI : Is w.drew w.drew := rfl
  refine wp_region_ord (Is w.drew) [([0, 1, 3, 4, 5, 6, 7], 2)] [8] (some 9) (by kernel_rfl) (by kernel_rfl) hI ?_
  refine OrdI_cons ?_
  (apply StI_plain (w0 := w.drew) hI rfl rfl rfl rfl; (focus (intro W hW K hK; have hW : W = w.drew := hW; subst hW; go_step; exact hK)); (focus rfl)); (apply StI_plain (w0 := w.drew) hI rfl rfl rfl rfl; (focus (intro W hW K hK; have hW : W = w.drew := hW; subst hW; go_step; exact hK)); (focus rfl)); (apply StI_plain (w0 := w.drew) hI rfl rfl rfl rfl; (focus (intro W hW K hK; have hW : W = w.drew := hW; subst hW; go_step; exact hK)); (focus rfl)); (apply StI_plain (w0 := w.drew) hI rfl rfl rfl rfl; (focus (intro W hW K hK; have hW : W = w.drew := hW; subst hW; go_step; exact hK)); (focus rfl)); (apply StI_plain (w0 := w.drew) hI rfl rfl rfl rfl; (focus (intro W hW K hK; have hW : W = w.drew := hW; subst hW; go_step; exact hK)); (focus rfl)); (apply StI_plain (w0 := w.drew) hI rfl rfl rfl rfl; (focus (intro W hW K hK; have hW : W = w.drew := hW; subst hW; go_step; exact hK)); (focus rfl)); (apply StI_plain (w0 := w.drew) hI rfl rfl rfl rfl; (focus (intro W hW K hK; have hW : W = w.drew := hW; subst hW; go_step; exact hK)); (focus rfl))
  (apply StI_eff rfl; go_wp2_with (first | (go_at_call 103; refine (ht' _).mono ?_; rintro e w' ⟨rfl, rfl⟩)))
  refine onNormal_mk hI (OrdI_snk ?_)
  (apply StI_plain (w0 := w.drew) hI rfl rfl rfl rfl; (focus (intro W hW K hK; have hW : W = w.drew := hW; subst hW; go_step; exact hK)); (focus rfl))
  (apply StI_eff rfl; go_wp2_with (first | fail))
  refine onNormal_last ?_
  go_wp2_with fail
  go_ret
  refine ⟨rfl, ?_, ?_, ?_, ?_, n1, n2, n3⟩
  · exact (((Keeps.refl _ _).setCell _ _ (.inl (by simp))).setCell _ _ (.inl (by simp))).drew
  · refine heap_drew' ?_
    refine heap_setCell_off ?_ _ (Ne.symm n2)
    exact (heap_setCell_at Hh1.out _).trans rfl
  · refine heap_drew' ?_
    refine heap_setCell_off ?_ _ (Ne.symm n3)
    exact heap_setCell_off Hh2.out _ n1
  · refine heap_drew' ?_
    refine (heap_setCell_at (heap_setCell_off Hh3.out _ n2) _).trans ?_
    simp

set_option maxHeartbeats 2000000 in
set_option maxRecDepth 100000 in
theorem series_any (x first n : Nat) (hx : x ≤ 4611686018427387904) (w : World) :
    Calls Try.prog 95 #[.int .u64 x, .int .u64 first, .int .u64 n] w
      fun e w' => e = .returned (.func (.func 104) #[] #[.pointer (some ⟨w.heap.size + 2, 0, none⟩), .pointer (some ⟨w.heap.size + 1, 0, none⟩), .pointer (some ⟨w.heap.size, 0, none⟩)]) ∧ Below w.heap.size w w' ∧
        w'.heap.size = w.heap.size + 3 ∧ SerM w' (w.heap.size + 2) (w.heap.size + 1) w.heap.size first (sqr x) n := by
  have q1 : x * x / 4611686018427387904 < 18446744073709551616 := by
    have := Nat.mul_le_mul hx hx
    omega
  have ht' := times_any x x (by omega) (by omega) q1
  obtain ⟨p, hp⟩ : ∃ p : Nat, x * x / 4611686018427387904 = p := ⟨_, rfl⟩
  have hs : sqr x = p := hp
  rw [hp] at ht' q1
  rw [hs]
  have Hhp := Lib.hid hp; clear hp; have Hhs := Lib.hid hs; clear hs
  go_enter Try.func95, Try.ntmps95
  go_wp2_with (go_at_call 103; refine (ht' _).mono ?_; rintro e w' ⟨rfl, rfl⟩)
  go_ret
  refine ⟨rfl, (by repeat (first | exact Below.refl _ _ | (refine bl_setCell ?_ _ _ ?_; rotate_left; focus (first | omega | (simp; done) | (simp; omega))) | refine bl_alloc ?_ _ | refine bl_step ?_ (by assumption) | refine bl_drew ?_ | refine bl_drewN ?_ _)), by simp, ?_, ?_, ?_, by omega, by omega, by omega⟩
  · exact heap_alloc_at' _ _ (by simp)
  · exact heap_alloc_off (heap_alloc_at' _ _ (by simp)) _
  · exact heap_alloc_off (heap_alloc_off (heap_alloc_at' _ _ rfl) _) _

/-- Between two terms: what has been added up, and what is still to come. -/
def SumI (w0 : World) (bt bs bn ar sq A B : Nat) (k : Value) (wr : World) : Prop :=
  ∃ f t n kk a b : Nat, k = .int .i64 kk ∧ kk + f = 40 ∧ n ≤ 1 + 2 * kk ∧ ser sq f t n kk a b = some (A, B) ∧ SerM wr bt bs bn t sq n ∧
    wr.heap[ar]? = some (.cells #[.int .u64 a, .int .u64 b] 181 (0, 0)) ∧ Keeps [bt, bn] w0 wr

theorem ser_end {sq f n k a b A B : Nat} (h : ser sq (f + 1) 0 n k a b = some (A, B)) : a = A ∧ b = B := by
  simpa [ser] using h
theorem ser_next {sq f t n k a b A B : Nat} (h0 : t ≠ 0) (h : ser sq (f + 1) t n k a b = some (A, B)) :
    t ≤ 4611686018427387904 ∧ n ≤ 1000 ∧ a ≤ 9223372036854775808 ∧ b ≤ 9223372036854775808 ∧ k ≤ 1000 ∧
      ser sq f (t * sq / 4611686018427387904 / ((n + 1) * (n + 2))) (n + 2) (k + 1) (if k % 2 = 0 then a + t else a) (if k % 2 = 0 then b else b + t) = some (A, B) := by
  rw [ser, if_neg h0] at h
  split at h
  · rename_i hc
    exact ⟨hc.1, hc.2.1, hc.2.2.1, hc.2.2.2.1, hc.2.2.2.2, h⟩
  · simp at h
theorem ser_bd {sq f t n k a b A B : Nat} (h : ser sq f t n k a b = some (A, B)) : t ≤ 4611686018427387904 := by
  cases f with
  | zero => simp [ser] at h
  | succ f =>
    by_cases h0 : t = 0
    · omega
    · exact (ser_next h0 h).1

set_option maxHeartbeats 4000000 in
set_option maxRecDepth 100000 in
theorem sum_any (bt bs bn t sq n A B : Nat) (w : World) (h : SerM w bt bs bn t sq n) (hq : sq ≤ 4611686018427387904) (hn : n ≤ 1) (hs : ser sq 40 t n 0 0 0 = some (A, B)) (hAB : B ≤ A) (hA : A ≤ 9223372036854775808) :
    Calls Try.prog 94 #[.func (.func 104) #[] #[.pointer (some ⟨bt, 0, none⟩), .pointer (some ⟨bs, 0, none⟩), .pointer (some ⟨bn, 0, none⟩)]] w
      fun e w' => e = .returned (.int .u64 ((A - B : Nat) : Int)) ∧ Keeps [bt, bn] w w' := by
  have lt := lt_of_heap h.term
  have ls := lt_of_heap h.square
  have ln := lt_of_heap h.num
  obtain ⟨_, _, _, _⟩ := (⟨Nat.ne_of_lt lt, Nat.ne_of_lt ln, Nat.ne_of_lt ls, trivial⟩ : bt ≠ w.heap.size ∧ bn ≠ w.heap.size ∧ bs ≠ w.heap.size ∧ True)
  have HS := Lib.hid hs
  have HM := Lib.hid h
  clear h hs
  go_enter Try.func94, Try.ntmps94
  go_wp2_with fail
  go_loopw [4] (fun k wr => SumI w bt bs bn w.heap.size sq A B k wr) (fun k _ => 40 - (intOf k).toNat)
  case atStart =>
    obtain ⟨g1, g2, g3, g4, g5, g6⟩ := HM.out
    exact ⟨40, t, n, 0, 0, 0, rfl, rfl, by omega, HS.out, ⟨heap_alloc_off g1 _, heap_alloc_off g2 _, heap_alloc_off g3 _, g4, g5, g6⟩, heap_alloc_at' _ _ rfl, (by repeat (first | with_reducible exact Keeps.refl _ _ | with_reducible refine Keeps.drew ?_ | with_reducible refine Keeps.drewN ?_ _ | with_reducible refine Keeps.alloc ?_ _ | (with_reducible refine Keeps.setCell ?_ _ _ ?_; rotate_left; focus (first | (simp; done) | (simp; omega))) | with_reducible assumption | with_reducible refine Keeps.stepB ?_ (by with_reducible assumption)))⟩
  case round =>
    obtain ⟨f, t', n', kk, a, b, rfl, hf, hn', hser, hm, har, hkp⟩ := hrel
    cases f with
    | zero => simp [ser] at hser
    | succ f =>
      have hkk : kk < 40 := by omega
      have htb := ser_bd hser
      have hc := series1_any bt bs bn t' sq n' wr hm htb hq (by omega)
      have har' := lt_of_heap har
      by_cases h0 : t' = 0
      · subst h0
        obtain ⟨ha, hb⟩ := ser_end hser
        subst ha hb
        have hsub : IntKind.u64.wrap ((a : Int) - (b : Int)) = ((a - b : Nat) : Int) := by rw [IntKind.wrap_u64]; omega
        have HF := Lib.hid hf
        clear hf hser hm
        have Hhkp := Lib.hid hkp; clear hkp; have Hhar := Lib.hid har; clear har
        go_wp2_with fail
        go_at_call 104
        refine hc.mono ?_
        rintro e w1 ⟨rfl, hk1, _⟩
        have har1 := hk1.heap Hhar.out (by simp; omega)
        have arc := cells_of har1
        have hkk1 := Hhkp.out.trans hk1
        have Hhar1 := Lib.hid har1; clear har1; have Hhk1 := Lib.hid hk1; clear hk1; have Hhkk1 := Lib.hid hkk1; clear hkk1
        clear hc
        go_wp2_with fail
        go_ret
        exact ⟨ret_int (by first | rfl | exact hsub | exact (Int.ofNat_sub hAB).symm), by have := Hhkk1.out; repeat (first | with_reducible exact Keeps.refl _ _ | with_reducible refine Keeps.drew ?_ | with_reducible refine Keeps.drewN ?_ _ | with_reducible refine Keeps.alloc ?_ _ | (with_reducible refine Keeps.setCell ?_ _ _ ?_; rotate_left; focus (first | (simp; done) | (simp; omega))) | with_reducible assumption | with_reducible refine Keeps.stepB ?_ (by with_reducible assumption))⟩
      · obtain ⟨_, hn1, ha, hb, _, hser'⟩ := ser_next h0 hser
        have h0' : ((t' : Int) == 0) = false := by simpa using h0
        clear hser hm
        obtain ⟨t2, ht2⟩ : ∃ x : Nat, t' * sq / 4611686018427387904 / ((n' + 1) * (n' + 2)) = x := ⟨_, rfl⟩
        rw [ht2] at hc hser'
        have k0 : 0 ≤ (kk : Int) := by omega
        have k1 : (kk : Int) ≤ 100 := by omega
        have Hhkp := Lib.hid hkp; clear hkp; have Hhar := Lib.hid har; clear har; have Hht2 := Lib.hid ht2; clear ht2; have Hhser' := Lib.hid hser'; clear hser'
        clear h0
        go_wp2_with fail
        go_at_call 104
        refine hc.mono ?_
        rintro e w1 ⟨rfl, hk1, hm1⟩
        have har1 := hk1.heap Hhar.out (by simp; omega)
        have arc := cells_of har1
        have arf := frozen_of har1
        have hkk1 := Hhkp.out.trans hk1
        have Hhar1 := Lib.hid har1; clear har1; have Hhk1 := Lib.hid hk1; clear hk1; have Hhkk1 := Lib.hid hkk1; clear hkk1; have Hhm1 := Lib.hid hm1; clear hm1
        clear hc
        rcases Nat.mod_two_eq_zero_or_one kk with hm2 | hm2
        · have km : (kk : Int) % 2 = 0 := by omega
          have km' : (kk : Int).tmod 2 = 0 := by rw [Int.tmod_eq_emod_of_nonneg k0]; exact km
          have wa : IntKind.u64.wrap ((a : Int) + (t' : Int)) = ((a + t' : Nat) : Int) := by rw [IntKind.wrap_u64]; omega
          have Hhm2 := Lib.hid hm2; clear hm2
          go_wp2_with fail
          have hs2 := Hhser'.out
          rw [if_pos Hhm2.out, if_pos Hhm2.out] at hs2
          have hz := Hhm1.out
          refine ⟨⟨f, t2, n' + 2, kk + 1, a + t', b, by go_num, by omega, by omega, hs2, hz.off _ _ _ (by assumption) (by assumption) (by assumption), (heap_setCell_at Hhar1.out _).trans (by simp), Hhkk1.out.setCell _ _ (.inr (by simp))⟩, by simp [intOf]; omega⟩
        · have km : (kk : Int) % 2 = 1 := by omega
          have km' : (kk : Int).tmod 2 = 1 := by rw [Int.tmod_eq_emod_of_nonneg k0]; exact km
          have wa : IntKind.u64.wrap ((b : Int) + (t' : Int)) = ((b + t' : Nat) : Int) := by rw [IntKind.wrap_u64]; omega
          have Hhm2 := Lib.hid hm2; clear hm2
          go_wp2_with fail
          have hs2 := Hhser'.out
          rw [if_neg (by have := Hhm2.out; omega), if_neg (by have := Hhm2.out; omega)] at hs2
          have hz := Hhm1.out
          refine ⟨⟨f, t2, n' + 2, kk + 1, a, b + t', by go_num, by omega, by omega, hs2, hz.off _ _ _ (by assumption) (by assumption) (by assumption), (heap_setCell_at Hhar1.out _).trans (by simp), Hhkk1.out.setCell _ _ (.inr (by simp))⟩, by simp [intOf]; omega⟩

theorem rad_le (a : Nat) (h : a ≤ 450) : rad a ≤ 4611686018427387904 := by unfold rad; omega
theorem sqr_le {x : Nat} (h : x ≤ 4611686018427387904) : sqr x ≤ 4611686018427387904 := by
  unfold sqr
  have := Nat.mul_le_mul h h
  omega
theorem rad0_le (a : Nat) : 900 - a ≤ 450 ∨ a ≤ 450 := by omega

/-- What is known of the sums of a quarter's angle. -/
theorem qser_spec {a : Nat} (ha : a ≤ 900) (h0 : a ≠ 0) (h6 : a ≠ 600) (h9 : a ≠ 900) :
    ∃ x y, qser a = some (x, y) ∧ qval a = x - y ∧ y ≤ x ∧ x ≤ 9223372036854775808 ∧ 1024 ≤ qval a ∧ qval a + 1024 ≤ 4611686018427387904 := by
  have h := allTo_spec _ _ qok_all a ha
  unfold qok at h
  have d0 : decide (a = 0) = false := by simpa using h0
  have d6 : decide (a = 600) = false := by simpa using h6
  have d9 : decide (a = 900) = false := by simpa using h9
  rw [d0, d6, d9] at h
  cases hq : qser a with
  | none => rw [hq] at h; simp at h
  | some p =>
    obtain ⟨x, y⟩ := p
    have hv : qval a = x - y := by unfold qval; rw [hq]
    rw [hq] at h
    simp only [Bool.false_or, Bool.and_eq_true, decide_eq_true_eq] at h
    obtain ⟨⟨g1, g2⟩, g3⟩ := h
    refine ⟨x, y, rfl, hv, by omega, by omega, by omega, by omega⟩

set_option maxHeartbeats 2000000 in
set_option maxRecDepth 100000 in
theorem quarter_any (a : Nat) (ha : a ≤ 900) (w : World) :
    Calls Try.prog 86 #[.int .i64 a] w fun e w' => e = .returned (.agg #[.int .i64 ((qlo a : Nat)), .int .i64 ((qhi a : Nat))]) ∧ Below w.heap.size w w' := by
  by_cases h0 : a = 0
  · subst h0
    go_enter Try.func86, Try.ntmps86
    go_wp2_with (go_at_call 42; refine (of_any _ _ _).mono ?_; rintro e w1 ⟨rfl, hb1⟩; obtain ⟨_, _, _⟩ := bk (w.heap.size) hb1 (by (first | omega | (simp; done) | (simp; omega))); have hzhb1 := bsz hb1; try simp only [World.size_alloc] at hzhb1)
    ((try simp only [Exit.inBlock, Exit.then]); refine bodyPost_ret (v := .agg #[.int .i64 65536, .int .i64 65536]) (by simp [results, Try.results86, go_sem, *]) rfl ?_)
    exact ⟨rfl, (by repeat (first | exact Below.refl _ _ | (refine bl_setCell ?_ _ _ ?_; rotate_left; focus (first | omega | (simp; done) | (simp; omega))) | refine bl_alloc ?_ _ | refine bl_step ?_ (by assumption) | refine bl_drew ?_ | refine bl_drewN ?_ _))⟩
  by_cases h6 : a = 600
  · subst h6
    go_enter Try.func86, Try.ntmps86
    go_wp2_with (go_at_call 42; refine (of_any _ _ _).mono ?_; rintro e w1 ⟨rfl, hb1⟩; obtain ⟨_, _, _⟩ := bk (w.heap.size) hb1 (by (first | omega | (simp; done) | (simp; omega))); have hzhb1 := bsz hb1; try simp only [World.size_alloc] at hzhb1)
    ((try simp only [Exit.inBlock, Exit.then]); refine bodyPost_ret (v := .agg #[.int .i64 32768, .int .i64 32768]) (by simp [results, Try.results86, go_sem, *]) rfl ?_)
    exact ⟨rfl, (by repeat (first | exact Below.refl _ _ | (refine bl_setCell ?_ _ _ ?_; rotate_left; focus (first | omega | (simp; done) | (simp; omega))) | refine bl_alloc ?_ _ | refine bl_step ?_ (by assumption) | refine bl_drew ?_ | refine bl_drewN ?_ _))⟩
  by_cases h9 : a = 900
  · subst h9
    go_enter Try.func86, Try.ntmps86
    go_wp2_with (go_at_call 42; refine (of_any _ _ _).mono ?_; rintro e w1 ⟨rfl, hb1⟩; obtain ⟨_, _, _⟩ := bk (w.heap.size) hb1 (by (first | omega | (simp; done) | (simp; omega))); have hzhb1 := bsz hb1; try simp only [World.size_alloc] at hzhb1)
    ((try simp only [Exit.inBlock, Exit.then]); refine bodyPost_ret (v := .agg #[.int .i64 0, .int .i64 0]) (by simp [results, Try.results86, go_sem, *]) rfl ?_)
    exact ⟨rfl, (by repeat (first | exact Below.refl _ _ | (refine bl_setCell ?_ _ _ ?_; rotate_left; focus (first | omega | (simp; done) | (simp; omega))) | refine bl_alloc ?_ _ | refine bl_step ?_ (by assumption) | refine bl_drew ?_ | refine bl_drewN ?_ _))⟩
  obtain ⟨x, y, hq, hv, hyx, hx, v1, v2⟩ := qser_spec ha h0 h6 h9
  have e0 : ((a : Int) == 0) = false := by simpa using h0
  have e6 : ((a : Int) == 600) = false := by simp; omega
  have e9 : ((a : Int) == 900) = false := by simp; omega
  have hlo : qlo a = (qval a - 1024) / 70368744177664 := by unfold qlo; rw [if_neg h0, if_neg h6, if_neg h9]
  have hhi : qhi a = (qval a + 1024) / 70368744177664 + 1 := by unfold qhi; rw [if_neg h0, if_neg h6, if_neg h9]
  rw [hlo, hhi, hv]
  obtain ⟨v, hvv⟩ : ∃ v, x - y = v := ⟨_, rfl⟩
  rw [hv] at v1 v2
  rw [hvv] at v1 v2 ⊢
  unfold qser at hq
  have x1 : IntKind.u64.wrap ((v : Int) - 1024) = ((v - 1024 : Nat) : Int) := by rw [IntKind.wrap_u64]; omega
  have x2 : IntKind.u64.wrap ((v : Int) + 1024) = ((v + 1024 : Nat) : Int) := by rw [IntKind.wrap_u64]; omega
  clear h0 h6 h9 hlo hhi hv
  by_cases h4 : a ≤ 450
  · rw [if_pos h4] at hq
    have h4' : decide ((a : Int) ≤ 450) = true := by simp; omega
    have hs := fun W s (hW : SerM W (s + 2) (s + 1) s 4611686018427387904 (sqr (rad a)) 0) => sum_any _ _ _ _ _ _ x y W hW (sqr_le (rad_le a h4)) (by omega) hq hyx hx
    rw [hvv] at hs
    have Hhq := Lib.hid hq; clear hq; have Hhvv := Lib.hid hvv; clear hvv
    go_enter Try.func86, Try.ntmps86
    go_wp2_with fail
    refine (radians_any a h4 _).mono ?_
    rintro e w1 ⟨rfl, hb1⟩
    obtain ⟨_, _, _⟩ := bk (w.heap.size) hb1 (by (first | omega | (simp; done) | (simp; omega))); have hzhb1 := bsz hb1; try simp only [World.size_alloc] at hzhb1
    go_wp2_with fail
    refine (series_any (rad a) 4611686018427387904 0 (rad_le a h4) _).mono ?_
    rintro e w2 ⟨rfl, hb2, hz2, hm2⟩
    have hwb : w.heap.size < w1.heap.size := by omega
    obtain ⟨_, _, _⟩ := bk (w.heap.size) hb2 (by (first | omega | (simp; done) | (simp; omega))); have hzhb2 := bsz hb2; try simp only [World.size_alloc] at hzhb2
    have Hhz2 := Lib.hid hz2; clear hz2
    go_wp2_with fail
    refine (hs w2 w1.heap.size hm2).mono ?_
    rintro e w3 ⟨rfl, hk3⟩
    have hc3 := hk3.cell w.heap.size (by omega) (by simp; omega)
    have hf3 := hk3.frozen w.heap.size (by omega) (by simp; omega)
    have hl3 : w.heap.size < w3.heap.size := by have := hk3.size; omega
    have hB3 : Below w.heap.size w w3 := by
      refine (show Below w.heap.size w w2 from (by repeat (first | exact Below.refl _ _ | (refine bl_setCell ?_ _ _ ?_; rotate_left; focus (first | omega | (simp; done) | (simp; omega))) | refine bl_alloc ?_ _ | refine bl_step ?_ (by assumption) | refine bl_drew ?_ | refine bl_drewN ?_ _))).trans (hk3.below (by omega) (by intro i hi; simp at hi; omega))
    clear hs hm2
    have Hhk3 := Lib.hid hk3; clear hk3; have HhB3 := Lib.hid hB3; clear hB3
    go_wp2_with fail
    refine (of_any _ _ _).mono ?_
    rintro e w4 ⟨rfl, hb4⟩
    obtain ⟨_, _, _⟩ := bk w.heap.size hb4 (by omega)
    go_wp2_with fail
    ((try simp only [Exit.inBlock, Exit.then]); refine bodyPost_ret (v := .agg #[.int .i64 (((v - 1024) / 70368744177664 : Nat)), .int .i64 (((v + 1024) / 70368744177664 + 1 : Nat))]) (by simp [results, Try.results86, go_sem, *]) rfl ?_)
    exact ⟨rfl, bl_setCell (bl_setCell (bl_step HhB3.out hb4) _ _ (Nat.le_refl _)) _ _ (Nat.le_refl _)⟩
  · rw [if_neg h4] at hq
    have h4' : decide ((a : Int) ≤ 450) = false := by simp; omega
    have h5 : 900 - a ≤ 450 := by omega
    have h5' : 900 - (a : Int) = ((900 - a : Nat) : Int) := by omega
    have hs := fun W s (hW : SerM W (s + 2) (s + 1) s (rad (900 - a)) (sqr (rad (900 - a))) 1) => sum_any _ _ _ _ _ _ x y W hW (sqr_le (rad_le _ h5)) (by omega) hq hyx hx
    rw [hvv] at hs
    obtain ⟨a', ha'⟩ : ∃ a', 900 - a = a' := ⟨_, rfl⟩
    rw [ha'] at h5 h5' hs
    have Hhq := Lib.hid hq; clear hq; have Hhvv := Lib.hid hvv; clear hvv; have Hha' := Lib.hid ha'; clear ha'
    go_enter Try.func86, Try.ntmps86
    go_wp2_with fail
    refine (radians_any a' h5 _).mono ?_
    rintro e w1 ⟨rfl, hb1⟩
    obtain ⟨_, _, _⟩ := bk (w.heap.size) hb1 (by (first | omega | (simp; done) | (simp; omega))); have hzhb1 := bsz hb1; try simp only [World.size_alloc] at hzhb1
    go_wp2_with fail
    refine (series_any (rad a') (rad a') 1 (rad_le a' h5) _).mono ?_
    rintro e w2 ⟨rfl, hb2, hz2, hm2⟩
    have hwb : w.heap.size < w1.heap.size := by omega
    obtain ⟨_, _, _⟩ := bk (w.heap.size) hb2 (by (first | omega | (simp; done) | (simp; omega))); have hzhb2 := bsz hb2; try simp only [World.size_alloc] at hzhb2
    have Hhz2 := Lib.hid hz2; clear hz2
    go_wp2_with fail
    refine (hs w2 w1.heap.size hm2).mono ?_
    rintro e w3 ⟨rfl, hk3⟩
    have hc3 := hk3.cell w.heap.size (by omega) (by simp; omega)
    have hf3 := hk3.frozen w.heap.size (by omega) (by simp; omega)
    have hl3 : w.heap.size < w3.heap.size := by have := hk3.size; omega
    have hB3 : Below w.heap.size w w3 := by
      refine (show Below w.heap.size w w2 from (by repeat (first | exact Below.refl _ _ | (refine bl_setCell ?_ _ _ ?_; rotate_left; focus (first | omega | (simp; done) | (simp; omega))) | refine bl_alloc ?_ _ | refine bl_step ?_ (by assumption) | refine bl_drew ?_ | refine bl_drewN ?_ _))).trans (hk3.below (by omega) (by intro i hi; simp at hi; omega))
    clear hs hm2
    have Hhk3 := Lib.hid hk3; clear hk3; have HhB3 := Lib.hid hB3; clear hB3
    go_wp2_with fail
    refine (of_any _ _ _).mono ?_
    rintro e w4 ⟨rfl, hb4⟩
    obtain ⟨_, _, _⟩ := bk w.heap.size hb4 (by omega)
    go_wp2_with fail
    ((try simp only [Exit.inBlock, Exit.then]); refine bodyPost_ret (v := .agg #[.int .i64 (((v - 1024) / 70368744177664 : Nat)), .int .i64 (((v + 1024) / 70368744177664 + 1 : Nat))]) (by simp [results, Try.results86, go_sem, *]) rfl ?_)
    exact ⟨rfl, bl_setCell (bl_setCell (bl_step HhB3.out hb4) _ _ (Nat.le_refl _)) _ _ (Nat.le_refl _)⟩
end Go.Proofs.Ytfbmjecikilghaa
