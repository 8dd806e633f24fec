/- slices.Repeat of one integer. -/
import Derived.Test.YtfbmjecikilghaaBits
import Derived.Test.YtfbmjecikilghaaRow
import Derived.Laws.CopyOwn
import Derived.Outline
namespace Go.Proofs.Ytfbmjecikilghaa
open Go.RowKit

set_option maxHeartbeats 2000000 in
set_option maxRecDepth 100000 in
theorem mul_one (n : Nat) (hn : n ≤ 1000) (w : World) :
    Calls Try.prog 89 #[.int .u64 1, .int .u64 n] w fun e w' => e = .returned (.tuple #[.int .u64 0, .int .u64 n]) ∧ w = w' := by
  have hm := mul64_any 1 n (by omega) (by omega) w
  have e1 : 1 * n / 18446744073709551616 = 0 := by omega
  have e2 : 1 * n % 18446744073709551616 = n := by omega
  rw [e1, e2] at hm
  clear e1 e2
  go_enter Try.func89, Try.ntmps89
  go_wp2_with fail
  refine hm.mono ?_
  rintro e w' ⟨rfl, rfl⟩
  go_wp2_with fail
  go_ret2
  exact ⟨rfl, rfl⟩

theorem infoInt : (Try.prog.info? 3).map (fun i => (i.zero, i.size, i.bytes)) = some (some (.int .i64 0), 1, 8) := by kernel_rfl
theorem sizeInt : (Try.prog.info? 3).map (·.size) = some 1 := by kernel_rfl
theorem row_cells {w : World} {base n g : Nat} {e : TypeId} {xs : List Value} (h : w.ownsRow base e 1 (.slice (some ⟨g, 0, none⟩) n n) n xs) : w.heap[g]? = some (.cells xs.toArray e (0, 0)) := by
  rcases h.2 with ⟨h1, _⟩ | ⟨g', cap', cur, h1, _, hh, _, _, hs, ht⟩
  · cases h1
  · cases h1
    rw [Nat.mul_one] at hs ht
    rw [List.take_of_length_le (by simp; omega)] at ht
    rw [hh, ← ht]
theorem cells_row {w : World} {base n g : Nat} {e : TypeId} {xs : List Value} (h : w.heap[g]? = some (.cells xs.toArray e (0, 0))) (hx : xs.length = n) (hb : base ≤ g) (hn : n ≤ maxLen) : w.ownsRow base e 1 (.slice (some ⟨g, 0, none⟩) n n) n xs :=
  ⟨by omega, .inr ⟨g, n, xs.toArray, rfl, hb, h, Nat.le_refl _, hn, by simp; omega, by rw [Nat.mul_one]; simp; exact hx ▸ List.take_length⟩⟩

theorem zeros_list (n : Nat) : List.map (fun x => ([Value.int .i64 0][x % 1]?).getD default) (List.range n) = List.replicate n (Value.int .i64 0) := by
  rw [List.eq_replicate_iff]
  refine ⟨by simp, fun b hb => ?_⟩
  obtain ⟨k, _, rfl⟩ := List.mem_map.1 hb
  rw [Nat.mod_one]
  rfl
/-- What has been copied. -/
def repC (n m : Nat) (x : Int) : List Value := List.replicate m (.int .i64 x) ++ List.replicate (n - m) (.int .i64 0)
theorem repC_len (n m : Nat) (x : Int) (h : m ≤ n) : (repC n m x).length = n := by simp [repC]; omega
theorem repC_splice (n m k : Nat) (x : Int) : splice (repC n m x) m (List.replicate k (.int .i64 x)) = repC n (m + k) x := by
  unfold splice repC
  rw [List.take_append_of_le_length (by simp), List.take_of_length_le (by simp), ← List.append_assoc, List.replicate_append_replicate]
  congr 1
  rw [List.drop_append]
  simp
  omega
theorem repC_get (n m j : Nat) (x : Int) (h : j < m) : (repC n m x)[j]? = some (.int .i64 x) := by
  unfold repC
  rw [List.getElem?_append_left (by simpa using h), List.getElem?_replicate, if_pos h]

def RepI (w : World) (n : Nat) (x : Int) (v : Value) (wr : World) : Prop :=
  ∃ m : Nat, 1 ≤ m ∧ m ≤ n ∧ v = .int .i64 m ∧ wr.heap[w.heap.size]? = some (.cells (repC n m x).toArray 3 (0, 0)) ∧ Below w.heap.size w wr

set_option maxHeartbeats 4000000 in
set_option maxRecDepth 100000 in
theorem repeat_ok (n : Nat) (hn1 : 1 ≤ n) (hn2 : n ≤ 1000) (x : Int) (b off cap : Nat) (w : World) (hx : w.cell? ⟨b, off, none⟩ = some (.int .i64 x)) :
    Calls Try.prog 70 #[.slice (some ⟨b, off, none⟩) 1 cap, .int .i64 n] w fun e w' => ∃ v, e = .returned v ∧ w'.ownsRow w.heap.size 3 1 v n (List.replicate n (.int .i64 x)) ∧ Below w.heap.size w w' := by
  have hm := mul_one n hn2
  have hbl : b < w.heap.size := World.block_lt_of_cell? w ⟨b, off, none⟩ hx
  have g1 : decide ((n : Int) < 0) = false := by simp
  have g2 : decide ((9223372036854775807 : Int) < n) = false := by simp; omega
  obtain ⟨i0, hinf, hz0, hz1, hz2⟩ := info_parts infoInt
  go_enter Try.func70, Try.ntmps70
  go_wp2_with fail
  refine (hm _).mono ?_
  rintro e w' ⟨rfl, rfl⟩
  go_upto_region 7 with (at_make; refine wpList_make_full _ rfl _ _ 44 rfl w.heap.size 3 i0 (.int .i64 0) 1 Try.underlying44 hinf hz0 hz1 .i64 .i64 _ _ n rfl rfl rfl rfl (by rw [hz2]; omega) (by unfold maxLen; omega) (Nat.le_refl _) ?_; intro w1 hown hgrow)
  have hro := row_cells hown
  have he : (madeCells (Value.int .i64 0).cells (n * 1)).toList = repC n 0 x := by simp [repC, madeCells, Value.cells]; exact zeros_list n
  rw [he] at hro
  have hxb : w1.cell? ⟨b, off, none⟩ = some (.int .i64 x) := (World.cell?_of_block (a := ⟨b, off, none⟩) (hgrow.block b hbl (by simp))).trans hx
  have hb1 : Below w.heap.size w w1 := ⟨hgrow.os, hgrow.tape, hgrow.output, hgrow.size, fun k hk => hgrow.block k hk (by simp)⟩
  have r1 := repC_splice n 0 1 x
  have rl := repC_len n 0 x (by omega)
  clear hown hgrow he hinf hz0 hz1 hz2
  have Hhro := Lib.hid hro; clear hro; have Hhb1 := Lib.hid hb1; clear hb1; have Hr1 := Lib.hid r1; clear r1; have Hrl := Lib.hid rl; clear rl
  have hsrc : ∀ j v, [Value.int .i64 x][j]? = some v → w1.cell? ((⟨b, off, none⟩ : Addr).add j) = some v := fun j v hj => by
    rcases j with _ | j <;> simp at hj
    subst hj; exact hxb
  have hfit : 0 + [Value.int .i64 x].length ≤ (repC n 0 x).length := by rw [Hrl.out]; exact hn1
  clear hxb
  go_wp2_with (refine wpList_copy_splice ?_ (.tmp 31) (.tmp 32) 44 44 ?_ 3 Try.underlying44 sizeInt (some ⟨w.heap.size, 0, none⟩) (some ⟨b, off, none⟩) n n 1 cap ?_ ?_ w.heap.size 0 (repC n 0 x) 3 Hhro.out [.int .i64 x] (by show 1 = min 1 n; omega) (fun _ => ⟨rfl, ⟨b, off, none⟩, rfl, hsrc⟩) hfit (by simp [Value.oneCell']) w.heap.size w Hhb1.out (Nat.le_refl _) ?_; (focus rfl); (focus rfl); (focus rfl); (focus rfl); intro w2 hg2 hb2)
  have hg3 := hg2.out
  rw [show [Value.int .i64 x] = List.replicate 1 (Value.int .i64 x) from rfl, Hr1.out] at hg3
  clear hg2 hsrc hfit
  have Hhg3 := Lib.hid hg3; clear hg3; have Hhb2 := Lib.hid hb2; clear hb2
  go_wp2_with fail
  go_loopw [8] (fun v wr => RepI w n x v wr) (fun v _ => n - (intOf v).toNat)
  case atStart => exact ⟨1, by omega, hn1, rfl, Hhg3.out, Hhb2.out⟩
  case round =>
    obtain ⟨m, m1, m2, rfl, hg, hb⟩ := hrel
    by_cases hmn : m < n
    · have hmn' : ¬ n = m := by omega
      obtain ⟨k, hk⟩ : ∃ k, Nat.min m (n - m) = k := ⟨_, rfl⟩
      have hk1 : k ≤ m := by rw [← hk]; exact Nat.min_le_left _ _
      have hk2 : k ≤ n - m := by rw [← hk]; exact Nat.min_le_right _ _
      have hk3 : 1 ≤ k := by rw [← hk]; exact Nat.le_min.2 ⟨m1, by omega⟩
      have rs := repC_splice n m k x
      have rl := repC_len n m x m2
      have Hhg := Lib.hid hg; clear hg; have Hhb := Lib.hid hb; clear hb; have Hhk := Lib.hid hk; clear hk; have Hrs := Lib.hid rs; clear rs; have Hrl := Lib.hid rl; clear rl
      go_upto_region 9 with fail
      refine wp_region_ord (fun _ => True) [([0, 1, 2, 3, 4, 5, 6], 7)] [8, 9] none (by kernel_rfl) (by kernel_rfl) trivial ?_
      refine OrdI_cons ?_
      (apply StI_plain (w0 := wr) trivial rfl rfl rfl rfl; (focus (intro W hW K hK; skip; go_step; exact hK)); (focus rfl)); (apply StI_plain (w0 := wr) trivial rfl rfl rfl rfl; (focus (intro W hW K hK; skip; go_step; exact hK)); (focus rfl)); (apply StI_plain (w0 := wr) trivial rfl rfl rfl rfl; (focus (intro W hW K hK; skip; go_step; exact hK)); (focus rfl)); (apply StI_plain (w0 := wr) trivial rfl rfl rfl rfl; (focus (intro W hW K hK; skip; go_step; exact hK)); (focus rfl)); (apply StI_plain (w0 := wr) trivial rfl rfl rfl rfl; (focus (intro W hW K hK; skip; go_step; exact hK)); (focus rfl)); (apply StI_plain (w0 := wr) trivial rfl rfl rfl rfl; (focus (intro W hW K hK; skip; go_step; exact hK)); (focus rfl)); (apply StI_plain (w0 := wr) trivial rfl rfl rfl rfl; (focus (intro W hW K hK; skip; go_step; exact hK)); (focus rfl))
      have hsrc : ∀ j v, (List.replicate k (Value.int .i64 x))[j]? = some v → wr.cell? ((⟨w.heap.size, 0, none⟩ : Addr).add j) = some v := fun j v hj => by
        have hj' : j < k := by have := (List.getElem?_eq_some_iff.1 hj).1; simpa using this
        rw [List.getElem?_replicate, if_pos hj'] at hj
        rw [← hj, Addr.add_lit, Nat.zero_add, cells_of Hhg.out]
        simpa using repC_get n m j x (by omega)
      have hfit : m + (List.replicate k (Value.int .i64 x)).length ≤ (repC n m x).length := by rw [Hrl.out, List.length_replicate]; omega
      apply StI_eff rfl
      refine wpList_copy_splice ?_ (.tmp 41) (.tmp 44) 44 44 ?_ 3 Try.underlying44 sizeInt (some ⟨w.heap.size, m, none⟩) (some ⟨w.heap.size, 0, none⟩) (n - m) (n - m) m n ?_ ?_ w.heap.size m (repC n m x) 3 Hhg.out (List.replicate k (.int .i64 x)) (by rw [List.length_replicate]; exact Hhk.out.symm) (fun _ => ⟨rfl, ⟨w.heap.size, 0, none⟩, rfl, hsrc⟩) hfit (by intro v hv; rw [List.eq_of_mem_replicate hv]; rfl) w.heap.size w (bl_drew Hhb.out) (Nat.le_refl _) ?_
      · rfl
      · rfl
      · rfl
      · rfl
      intro w3 hg3' hb3'
      have hg3 := hg3'.out
      rw [Hrs.out] at hg3
      clear hg3' hsrc hfit
      rw [List.length_replicate]
      have Hhg3 := Lib.hid hg3; clear hg3; have Hhb3' := Lib.hid hb3'; clear hb3'
      go_wp2_with fail
      refine onNormal_mk trivial (OrdI_fin ?_)
      (apply StI_plain (w0 := w3) trivial rfl rfl rfl rfl; (focus (intro W hW K hK; skip; go_step; exact hK)); (focus rfl)); (apply StI_plain (w0 := w3) trivial rfl rfl rfl rfl; (focus (intro W hW K hK; skip; go_step; exact hK)); (focus rfl))
      refine StI_nil ?_
      go_wp2_with fail
      exact ⟨⟨m + k, by omega, by omega, by go_num, Hhg3.out, Hhb3'.out⟩, by simp only [intOf]; omega⟩
    · obtain rfl : m = n := by omega
      have hr := cells_row (base := w.heap.size) hg (repC_len m m x (Nat.le_refl _)) (Nat.le_refl _) (by unfold maxLen; omega)
      have he : repC m m x = List.replicate m (.int .i64 x) := by simp [repC]
      rw [he] at hr
      clear hg
      have Hhr := Lib.hid hr; clear hr; have Hhb := Lib.hid hb; clear hb; have Hhe := Lib.hid he; clear he
      go_wp2_with fail
      go_ret
      exact ⟨_, rfl, Hhr.out, Hhb.out⟩
end Go.Proofs.Ytfbmjecikilghaa
