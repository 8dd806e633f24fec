/- town: within, has, Place.check, way and its closure, Check. -/
import Derived.Test.YtjoihijlcpnhoaaMem
namespace Go.Proofs.Ytjoihijlcpnhoaa
open Go.RowKit

theorem within_any (n lo hi : Int) (w : World) :
    Calls Try.prog 49 #[.int .i64 n, .int .i64 lo, .int .i64 hi] w fun e w' => e = .returned (.bool (within n lo hi)) ∧ w = w' := by
  go_enter Try.func49, Try.ntmps49
  go_wp2
  · go_ret
    simp [within]; omega
  · go_ret
    simp [within]; omega

theorem pcheck_any (p : Place) (w : World) :
    Calls Try.prog 84 #[.agg #[.int .i64 p.room, .int .i64 p.door, .int .i64 p.till]] w fun e w' => e = .returned (.int .i64 (pcheck p)) ∧ Below w.heap.size w w' := by
  go_enter Try.func84, Try.ntmps84
  go_wp2_with (go_at_call 49; refine (within_any _ _ _ _).mono ?_; rintro e w' ⟨rfl, rfl⟩)
  all_goals (go_ret; exact ⟨by simp_all [pcheck] <;> omega, (Below.refl _ _).alloc (Nat.le_refl _) _⟩)

theorem has_any (T : Town) (a1 a2 a3 a4 : Option Addr) (c1 c2 c3 c4 : Nat) (p : Int) (w : World) (hl : T.places.length ≤ 140737488355328) :
    Calls Try.prog 86 #[.agg #[.int .i64 T.steps, .slice a1 T.places.length c1, .slice a2 T.ways.length c2, .slice a3 T.groups.length c3, .slice a4 T.vehicles.length c4], .int .i64 p] w
      fun e w' => e = .returned (.bool (T.has p)) ∧ Below w.heap.size w w' := by
  go_enter Try.func86, Try.ntmps86
  go_wp2_with (go_at_call 49; refine (within_any _ _ _ _).mono ?_; rintro e w' ⟨rfl, rfl⟩)
  all_goals (go_ret; exact ⟨rfl, (Below.refl _ _).alloc (Nat.le_refl _) _⟩)

theorem wayC_any (st n : Int) (q : Nat) (w : World) (hc : w.cell? ⟨q, 0, none⟩ = some (.int .i64 st)) :
    Calls Try.prog 110 #[.int .i64 n, .pointer (some ⟨q, 0, none⟩)] w fun e w' => e = .returned (.bool (!within n 0 st)) ∧ Below w.heap.size w w' := by
  go_enter Try.func110, Try.ntmps110
  go_wp2_with (go_at_call 49; refine (within_any _ _ _ _).mono ?_; rintro e w' ⟨rfl, rfl⟩)
  all_goals (go_ret; exact ⟨rfl, (Below.refl _ _)⟩)

end Go.Proofs.Ytjoihijlcpnhoaa
namespace Go.Proofs.Ytjoihijlcpnhoaa
open Go.RowKit

set_option maxRecDepth 100000 in
theorem indexInt_any (l : List Int) (a : Option Addr) (cap : Nat) (B : Nat) (g : FuncId) (fi lb : Array Value) (p : Int → Bool) (w : World) (hB : B ≤ w.heap.size) (hs : Sl IntE 1 B w a l)
    (heg : ∀ (args : Array Value) (w : World), (callFunc g args).run Try.prog w = .ok (.enter g args) w)
    (hp : ∀ (x : Int) (W : World), x ∈ l → Below w.heap.size w W → Calls Try.prog g (fi ++ #[.int .i64 x] ++ lb) W fun e W' => e = .returned (.bool (p x)) ∧ Below W.heap.size W W') :
    Calls Try.prog 113 #[.slice a l.length cap, .func (.func g) fi lb] w
      fun e w' => e = .returned (.int .i64 (findI p l)) ∧ Below w.heap.size w w' := by
  have hl := hs.1
  have HP := Lib.hid hp
  clear hp
  have HS := Lib.hid hs
  clear hs
  go_enter Try.func113, Try.ntmps113
  go_wp2_with (fail)
  go_loopw [8] (fun i wr => ∃ k : Nat, k ≤ l.length ∧ i = .int .i64 k ∧ Below w.heap.size w wr ∧ NoneTo p l k) (fun i _ => l.length - (intOf i).toNat)
  case atStart => exact ⟨0, Nat.zero_le _, rfl, Below.refl _ _, fun j hj => by omega⟩
  case round =>
    obtain ⟨k, hk, rfl, hb, hno⟩ := hrel
    by_cases hlt : k < l.length
    · obtain ⟨b, off, rfl, hbb, he⟩ := (HS.out.below (ek_int B) (hb.mono hB)).2 k hlt
      have he' : wr.cell? ⟨b, off + k, none⟩ = some (.int .i64 l[k]) := by have := he; unfold IntE at this; simpa using this
      clear he
      obtain ⟨x, hx⟩ : ∃ x, x = l[k] := ⟨_, rfl⟩
      rw [← hx] at he'
      have HX := Lib.hid hx
      clear hx
      go_wp2_with (fail)
      refine (HP.out x wr (by rw [HX.out]; exact List.getElem_mem hlt) hb).mono ?_
      rintro e w' ⟨rfl, hb2⟩
      have hb3 := hb.trans (hb2.mono hb.size)
      by_cases hpx : p x = true
      · go_wp2_with (fail)
        go_ret
        exact ⟨by rw [findI_at hlt hno (HX.out ▸ hpx)]; rfl, hb3⟩
      · have hpx' : p x = false := by simpa using hpx
        clear hpx
        go_wp2_with (fail)
        go_roundw
        case rel => exact ⟨k + 1, by omega, by go_num, hb3, hno.succ hlt (HX.out ▸ hpx')⟩
        case measure => simp [intOf]; omega
    · go_wp2_with (fail)
      go_ret
      exact ⟨by rw [findI_none hno (by omega)]; rfl, hb⟩

set_option maxRecDepth 100000 in
theorem containsInt_any (l : List Int) (a : Option Addr) (cap : Nat) (B : Nat) (g : FuncId) (fi lb : Array Value) (p : Int → Bool) (w : World) (hB : B ≤ w.heap.size) (hs : Sl IntE 1 B w a l)
    (heg : ∀ (args : Array Value) (w : World), (callFunc g args).run Try.prog w = .ok (.enter g args) w)
    (hp : ∀ (x : Int) (W : World), x ∈ l → Below w.heap.size w W → Calls Try.prog g (fi ++ #[.int .i64 x] ++ lb) W fun e W' => e = .returned (.bool (p x)) ∧ Below W.heap.size W W') :
    Calls Try.prog 101 #[.slice a l.length cap, .func (.func g) fi lb] w
      fun e w' => e = .returned (.bool (l.any p)) ∧ Below w.heap.size w w' := by
  have HC := Lib.hid (indexInt_any l a cap B g fi lb p w hB hs heg hp)
  clear hp heg hs
  go_enter Try.func101, Try.ntmps101
  go_wp2_with (fail)
  refine HC.out.mono ?_
  rintro e w' ⟨rfl, hb⟩
  go_wp2_with (fail)
  go_ret
  exact ⟨by rw [findI_any]; rfl, hb⟩

set_option maxRecDepth 100000 in
theorem indexHop_any (l : List Hop) (a : Option Addr) (cap : Nat) (B : Nat) (g : FuncId) (fi lb : Array Value) (p : Hop → Bool) (w : World) (hB : B ≤ w.heap.size) (hs : Sl HopE 2 B w a l)
    (heg : ∀ (args : Array Value) (w : World), (callFunc g args).run Try.prog w = .ok (.enter g args) w)
    (hp : ∀ (x : Hop) (W : World), x ∈ l → Below w.heap.size w W → Calls Try.prog g (fi ++ #[.agg #[.int .i64 x.way, .int .i64 x.leave]] ++ lb) W fun e W' => e = .returned (.bool (p x)) ∧ Below W.heap.size W W') :
    Calls Try.prog 111 #[.slice a l.length cap, .func (.func g) fi lb] w
      fun e w' => e = .returned (.int .i64 (findI p l)) ∧ Below w.heap.size w w' := by
  have hl := hs.1
  have HP := Lib.hid hp
  clear hp
  have HS := Lib.hid hs
  clear hs
  go_enter Try.func111, Try.ntmps111
  go_wp2_with (fail)
  go_loopw [8] (fun i wr => ∃ k : Nat, k ≤ l.length ∧ i = .int .i64 k ∧ Below w.heap.size w wr ∧ NoneTo p l k) (fun i _ => l.length - (intOf i).toNat)
  case atStart => exact ⟨0, Nat.zero_le _, rfl, Below.refl _ _, fun j hj => by omega⟩
  case round =>
    obtain ⟨k, hk, rfl, hb, hno⟩ := hrel
    by_cases hlt : k < l.length
    · obtain ⟨b, off, rfl, hbb, he⟩ := (HS.out.below (ek_hop B) (hb.mono hB)).2 k hlt
      obtain ⟨x, hx⟩ : ∃ x, x = l[k] := ⟨_, rfl⟩
      rw [← hx] at he
      have HX := Lib.hid hx
      clear hx
      obtain ⟨e0, e1⟩ := he
      go_wp2_with (fail)
      refine (HP.out x wr (by rw [HX.out]; exact List.getElem_mem hlt) hb).mono ?_
      rintro e w' ⟨rfl, hb2⟩
      have hb3 := hb.trans (hb2.mono hb.size)
      by_cases hpx : p x = true
      · go_wp2_with (fail)
        go_ret
        exact ⟨by rw [findI_at hlt hno (HX.out ▸ hpx)]; rfl, hb3⟩
      · have hpx' : p x = false := by simpa using hpx
        clear hpx
        go_wp2_with (fail)
        go_roundw
        case rel => exact ⟨k + 1, by omega, by go_num, hb3, hno.succ hlt (HX.out ▸ hpx')⟩
        case measure => simp [intOf]; omega
    · go_wp2_with (fail)
      go_ret
      exact ⟨by rw [findI_none hno (by omega)]; rfl, hb⟩

set_option maxRecDepth 100000 in
theorem containsHop_any (l : List Hop) (a : Option Addr) (cap : Nat) (B : Nat) (g : FuncId) (fi lb : Array Value) (p : Hop → Bool) (w : World) (hB : B ≤ w.heap.size) (hs : Sl HopE 2 B w a l)
    (heg : ∀ (args : Array Value) (w : World), (callFunc g args).run Try.prog w = .ok (.enter g args) w)
    (hp : ∀ (x : Hop) (W : World), x ∈ l → Below w.heap.size w W → Calls Try.prog g (fi ++ #[.agg #[.int .i64 x.way, .int .i64 x.leave]] ++ lb) W fun e W' => e = .returned (.bool (p x)) ∧ Below W.heap.size W W') :
    Calls Try.prog 89 #[.slice a l.length cap, .func (.func g) fi lb] w
      fun e w' => e = .returned (.bool (l.any p)) ∧ Below w.heap.size w w' := by
  have HC := Lib.hid (indexHop_any l a cap B g fi lb p w hB hs heg hp)
  clear hp heg hs
  go_enter Try.func89, Try.ntmps89
  go_wp2_with (fail)
  refine HC.out.mono ?_
  rintro e w' ⟨rfl, hb⟩
  go_wp2_with (fail)
  go_ret
  exact ⟨by rw [findI_any]; rfl, hb⟩

set_option maxRecDepth 100000 in
theorem indexBoard_any (l : List Board) (a : Option Addr) (cap : Nat) (B : Nat) (g : FuncId) (fi lb : Array Value) (p : Board → Bool) (w : World) (hB : B ≤ w.heap.size) (hs : Sl BoardE 3 B w a l)
    (heg : ∀ (args : Array Value) (w : World), (callFunc g args).run Try.prog w = .ok (.enter g args) w)
    (hp : ∀ (x : Board) (W : World), x ∈ l → Below w.heap.size w W → Calls Try.prog g (fi ++ #[.agg #[.int .i64 x.hop, .int .i64 x.group, .int .i64 x.count]] ++ lb) W fun e W' => e = .returned (.bool (p x)) ∧ Below W.heap.size W W') :
    Calls Try.prog 112 #[.slice a l.length cap, .func (.func g) fi lb] w
      fun e w' => e = .returned (.int .i64 (findI p l)) ∧ Below w.heap.size w w' := by
  have hl := hs.1
  have HP := Lib.hid hp
  clear hp
  have HS := Lib.hid hs
  clear hs
  go_enter Try.func112, Try.ntmps112
  go_wp2_with (fail)
  go_loopw [8] (fun i wr => ∃ k : Nat, k ≤ l.length ∧ i = .int .i64 k ∧ Below w.heap.size w wr ∧ NoneTo p l k) (fun i _ => l.length - (intOf i).toNat)
  case atStart => exact ⟨0, Nat.zero_le _, rfl, Below.refl _ _, fun j hj => by omega⟩
  case round =>
    obtain ⟨k, hk, rfl, hb, hno⟩ := hrel
    by_cases hlt : k < l.length
    · obtain ⟨b, off, rfl, hbb, he⟩ := (HS.out.below (ek_board B) (hb.mono hB)).2 k hlt
      obtain ⟨x, hx⟩ : ∃ x, x = l[k] := ⟨_, rfl⟩
      rw [← hx] at he
      have HX := Lib.hid hx
      clear hx
      obtain ⟨e0, e1, e2⟩ := he
      go_wp2_with (fail)
      refine (HP.out x wr (by rw [HX.out]; exact List.getElem_mem hlt) hb).mono ?_
      rintro e w' ⟨rfl, hb2⟩
      have hb3 := hb.trans (hb2.mono hb.size)
      by_cases hpx : p x = true
      · go_wp2_with (fail)
        go_ret
        exact ⟨by rw [findI_at hlt hno (HX.out ▸ hpx)]; rfl, hb3⟩
      · have hpx' : p x = false := by simpa using hpx
        clear hpx
        go_wp2_with (fail)
        go_roundw
        case rel => exact ⟨k + 1, by omega, by go_num, hb3, hno.succ hlt (HX.out ▸ hpx')⟩
        case measure => simp [intOf]; omega
    · go_wp2_with (fail)
      go_ret
      exact ⟨by rw [findI_none hno (by omega)]; rfl, hb⟩

set_option maxRecDepth 100000 in
theorem containsBoard_any (l : List Board) (a : Option Addr) (cap : Nat) (B : Nat) (g : FuncId) (fi lb : Array Value) (p : Board → Bool) (w : World) (hB : B ≤ w.heap.size) (hs : Sl BoardE 3 B w a l)
    (heg : ∀ (args : Array Value) (w : World), (callFunc g args).run Try.prog w = .ok (.enter g args) w)
    (hp : ∀ (x : Board) (W : World), x ∈ l → Below w.heap.size w W → Calls Try.prog g (fi ++ #[.agg #[.int .i64 x.hop, .int .i64 x.group, .int .i64 x.count]] ++ lb) W fun e W' => e = .returned (.bool (p x)) ∧ Below W.heap.size W W') :
    Calls Try.prog 98 #[.slice a l.length cap, .func (.func g) fi lb] w
      fun e w' => e = .returned (.bool (l.any p)) ∧ Below w.heap.size w w' := by
  have HC := Lib.hid (indexBoard_any l a cap B g fi lb p w hB hs heg hp)
  clear hp heg hs
  go_enter Try.func98, Try.ntmps98
  go_wp2_with (fail)
  refine HC.out.mono ?_
  rintro e w' ⟨rfl, hb⟩
  go_wp2_with (fail)
  go_ret
  exact ⟨by rw [findI_any]; rfl, hb⟩

set_option maxRecDepth 100000 in
theorem indexTrip_any (l : List Trip) (a : Option Addr) (cap : Nat) (B : Nat) (g : FuncId) (fi lb : Array Value) (p : Trip → Bool) (w : World) (hB : B ≤ w.heap.size) (hs : Sl (TripE B) 4 B w a l)
    (heg : ∀ (args : Array Value) (w : World), (callFunc g args).run Try.prog w = .ok (.enter g args) w)
    (hp : ∀ (x : Trip) (W : World) (a' : Option Addr) (c' : Nat), x ∈ l → Sl HopE 2 B W a' x.hops → Below w.heap.size w W → Calls Try.prog g (fi ++ #[.agg #[.int .i64 x.group, .int .i64 x.count, .slice a' x.hops.length c', .int .i64 x.enter]] ++ lb) W fun e W' => e = .returned (.bool (p x)) ∧ Below W.heap.size W W') :
    Calls Try.prog 87 #[.slice a l.length cap, .func (.func g) fi lb] w
      fun e w' => e = .returned (.int .i64 (findI p l)) ∧ Below w.heap.size w w' := by
  have hl := hs.1
  have HP := Lib.hid hp
  clear hp
  have HS := Lib.hid hs
  clear hs
  go_enter Try.func87, Try.ntmps87
  go_wp2_with (fail)
  go_loopw [8] (fun i wr => ∃ k : Nat, k ≤ l.length ∧ i = .int .i64 k ∧ Below w.heap.size w wr ∧ NoneTo p l k) (fun i _ => l.length - (intOf i).toNat)
  case atStart => exact ⟨0, Nat.zero_le _, rfl, Below.refl _ _, fun j hj => by omega⟩
  case round =>
    obtain ⟨k, hk, rfl, hb, hno⟩ := hrel
    by_cases hlt : k < l.length
    · obtain ⟨b, off, rfl, hbb, he⟩ := (HS.out.below (ek_trip B) (hb.mono hB)).2 k hlt
      obtain ⟨x, hx⟩ : ∃ x, x = l[k] := ⟨_, rfl⟩
      rw [← hx] at he
      have HX := Lib.hid hx
      clear hx
      obtain ⟨a', c', e0, e1, e2, e3, hsl⟩ := he
      have HSL := Lib.hid hsl
      clear hsl
      go_wp2_with (fail)
      refine (HP.out x wr a' (x.hops.length + c') (by rw [HX.out]; exact List.getElem_mem hlt) HSL.out hb).mono ?_
      rintro e w' ⟨rfl, hb2⟩
      have hb3 := hb.trans (hb2.mono hb.size)
      by_cases hpx : p x = true
      · go_wp2_with (fail)
        go_ret
        exact ⟨by rw [findI_at hlt hno (HX.out ▸ hpx)]; rfl, hb3⟩
      · have hpx' : p x = false := by simpa using hpx
        clear hpx
        go_wp2_with (fail)
        go_roundw
        case rel => exact ⟨k + 1, by omega, by go_num, hb3, hno.succ hlt (HX.out ▸ hpx')⟩
        case measure => simp [intOf]; omega
    · go_wp2_with (fail)
      go_ret
      exact ⟨by rw [findI_none hno (by omega)]; rfl, hb⟩

set_option maxRecDepth 100000 in
theorem containsTrip_any (l : List Trip) (a : Option Addr) (cap : Nat) (B : Nat) (g : FuncId) (fi lb : Array Value) (p : Trip → Bool) (w : World) (hB : B ≤ w.heap.size) (hs : Sl (TripE B) 4 B w a l)
    (heg : ∀ (args : Array Value) (w : World), (callFunc g args).run Try.prog w = .ok (.enter g args) w)
    (hp : ∀ (x : Trip) (W : World) (a' : Option Addr) (c' : Nat), x ∈ l → Sl HopE 2 B W a' x.hops → Below w.heap.size w W → Calls Try.prog g (fi ++ #[.agg #[.int .i64 x.group, .int .i64 x.count, .slice a' x.hops.length c', .int .i64 x.enter]] ++ lb) W fun e W' => e = .returned (.bool (p x)) ∧ Below W.heap.size W W') :
    Calls Try.prog 51 #[.slice a l.length cap, .func (.func g) fi lb] w
      fun e w' => e = .returned (.bool (l.any p)) ∧ Below w.heap.size w w' := by
  have HC := Lib.hid (indexTrip_any l a cap B g fi lb p w hB hs heg hp)
  clear hp heg hs
  go_enter Try.func51, Try.ntmps51
  go_wp2_with (fail)
  refine HC.out.mono ?_
  rintro e w' ⟨rfl, hb⟩
  go_wp2_with (fail)
  go_ret
  exact ⟨by rw [findI_any]; rfl, hb⟩

set_option maxRecDepth 100000 in
theorem indexRide_any (l : List Ride) (a : Option Addr) (cap : Nat) (B : Nat) (g : FuncId) (fi lb : Array Value) (p : Ride → Bool) (w : World) (hB : B ≤ w.heap.size) (hs : Sl (RideE B) 3 B w a l)
    (heg : ∀ (args : Array Value) (w : World), (callFunc g args).run Try.prog w = .ok (.enter g args) w)
    (hp : ∀ (x : Ride) (W : World) (a' : Option Addr) (c' : Nat) (a'' : Option Addr) (c'' : Nat), x ∈ l → Sl HopE 2 B W a' x.hops → Sl BoardE 3 B W a'' x.boards → Below w.heap.size w W → Calls Try.prog g (fi ++ #[.agg #[.int .i64 x.vehicle, .slice a' x.hops.length c', .slice a'' x.boards.length c'']] ++ lb) W fun e W' => e = .returned (.bool (p x)) ∧ Below W.heap.size W W') :
    Calls Try.prog 88 #[.slice a l.length cap, .func (.func g) fi lb] w
      fun e w' => e = .returned (.int .i64 (findI p l)) ∧ Below w.heap.size w w' := by
  have hl := hs.1
  have HP := Lib.hid hp
  clear hp
  have HS := Lib.hid hs
  clear hs
  go_enter Try.func88, Try.ntmps88
  go_wp2_with (fail)
  go_loopw [8] (fun i wr => ∃ k : Nat, k ≤ l.length ∧ i = .int .i64 k ∧ Below w.heap.size w wr ∧ NoneTo p l k) (fun i _ => l.length - (intOf i).toNat)
  case atStart => exact ⟨0, Nat.zero_le _, rfl, Below.refl _ _, fun j hj => by omega⟩
  case round =>
    obtain ⟨k, hk, rfl, hb, hno⟩ := hrel
    by_cases hlt : k < l.length
    · obtain ⟨b, off, rfl, hbb, he⟩ := (HS.out.below (ek_ride B) (hb.mono hB)).2 k hlt
      obtain ⟨x, hx⟩ : ∃ x, x = l[k] := ⟨_, rfl⟩
      rw [← hx] at he
      have HX := Lib.hid hx
      clear hx
      obtain ⟨a', c', a'', c'', e0, e1, e2, hsl, hsl2⟩ := he
      have HSL := Lib.hid hsl
      clear hsl
      have HSL2 := Lib.hid hsl2
      clear hsl2
      go_wp2_with (fail)
      refine (HP.out x wr a' (x.hops.length + c') a'' c'' (by rw [HX.out]; exact List.getElem_mem hlt) HSL.out HSL2.out hb).mono ?_
      rintro e w' ⟨rfl, hb2⟩
      have hb3 := hb.trans (hb2.mono hb.size)
      by_cases hpx : p x = true
      · go_wp2_with (fail)
        go_ret
        exact ⟨by rw [findI_at hlt hno (HX.out ▸ hpx)]; rfl, hb3⟩
      · have hpx' : p x = false := by simpa using hpx
        clear hpx
        go_wp2_with (fail)
        go_roundw
        case rel => exact ⟨k + 1, by omega, by go_num, hb3, hno.succ hlt (HX.out ▸ hpx')⟩
        case measure => simp [intOf]; omega
    · go_wp2_with (fail)
      go_ret
      exact ⟨by rw [findI_none hno (by omega)]; rfl, hb⟩

set_option maxRecDepth 100000 in
theorem containsRide_any (l : List Ride) (a : Option Addr) (cap : Nat) (B : Nat) (g : FuncId) (fi lb : Array Value) (p : Ride → Bool) (w : World) (hB : B ≤ w.heap.size) (hs : Sl (RideE B) 3 B w a l)
    (heg : ∀ (args : Array Value) (w : World), (callFunc g args).run Try.prog w = .ok (.enter g args) w)
    (hp : ∀ (x : Ride) (W : World) (a' : Option Addr) (c' : Nat) (a'' : Option Addr) (c'' : Nat), x ∈ l → Sl HopE 2 B W a' x.hops → Sl BoardE 3 B W a'' x.boards → Below w.heap.size w W → Calls Try.prog g (fi ++ #[.agg #[.int .i64 x.vehicle, .slice a' x.hops.length c', .slice a'' x.boards.length c'']] ++ lb) W fun e W' => e = .returned (.bool (p x)) ∧ Below W.heap.size W W') :
    Calls Try.prog 53 #[.slice a l.length cap, .func (.func g) fi lb] w
      fun e w' => e = .returned (.bool (l.any p)) ∧ Below w.heap.size w w' := by
  have HC := Lib.hid (indexRide_any l a cap B g fi lb p w hB hs heg hp)
  clear hp heg hs
  go_enter Try.func53, Try.ntmps53
  go_wp2_with (fail)
  refine HC.out.mono ?_
  rintro e w' ⟨rfl, hb⟩
  go_wp2_with (fail)
  go_ret
  exact ⟨by rw [findI_any]; rfl, hb⟩

set_option maxRecDepth 100000 in
/-- A predicate that changes what it holds; it is true where the fold stops. -/
theorem indexHopS_any {σ : Type} (l : List Hop) (a : Option Addr) (cap : Nat) (B : Nat) (g : FuncId) (fi lb : Array Value) (step : σ → Hop → Option σ) (I : σ → World → Prop) (G : σ → Prop) (st0 : σ) (w : World) (hB : B ≤ w.heap.size) (hs : Sl HopE 2 B w a l) (hI0 : I st0 w) (hG0 : G st0)
    (hIB : ∀ st W, I st W → Below B w W)
    (hGs : ∀ st x st', G st → x ∈ l → step st x = some st' → G st')
    (heg : ∀ (args : Array Value) (w : World), (callFunc g args).run Try.prog w = .ok (.enter g args) w)
    (hp : ∀ (st : σ) (x : Hop) (W : World), x ∈ l → G st → I st W → Calls Try.prog g (fi ++ #[.agg #[.int .i64 x.way, .int .i64 x.leave]] ++ lb) W fun e W' => e = .returned (.bool (step st x).isNone) ∧ I ((step st x).getD st) W') :
    Calls Try.prog 111 #[.slice a l.length cap, .func (.func g) fi lb] w
      fun e w' => ∃ i st, e = .returned (.int .i64 i) ∧ decide (0 ≤ i) = (foldS step st0 l).isNone ∧ I st w' ∧ (∀ s, foldS step st0 l = some s → s = st ∧ G st) := by
  have hl := hs.1
  have HP := Lib.hid hp
  clear hp
  have HS := Lib.hid hs
  clear hs
  go_enter Try.func111, Try.ntmps111
  go_wp2_with (fail)
  go_loopw [8] (fun i wr => ∃ (k : Nat) (st : σ), k ≤ l.length ∧ i = .int .i64 k ∧ I st wr ∧ G st ∧ Hid (foldS step st0 l = foldS step st (l.drop k))) (fun i _ => l.length - (intOf i).toNat)
  case atStart => exact ⟨0, st0, Nat.zero_le _, rfl, hI0, hG0, Lib.hid rfl⟩
  case round =>
    obtain ⟨k, st, hk, rfl, hI, hG, hr⟩ := hrel
    by_cases hlt : k < l.length
    · obtain ⟨b, off, rfl, hbb, he⟩ := (HS.out.below (ek_hop B) (hIB st wr hI)).2 k hlt
      have hbw : b < wr.heap.size := by have := (hIB st wr hI).size; omega
      have hr' := hr.out
      rw [foldS_drop step st l k hlt] at hr'
      have hm : l[k] ∈ l := List.getElem_mem hlt
      obtain ⟨x, hx⟩ : ∃ x, x = l[k] := ⟨_, rfl⟩
      rw [← hx] at he hr' hm
      have HX := Lib.hid hx
      clear hx
      obtain ⟨e0, e1⟩ := he
      have Hr := Lib.hid hr'
      clear hr' hr
      go_wp2_with (fail)
      refine (HP.out st x wr hm hG hI).mono ?_
      rintro e w' ⟨rfl, hI2⟩
      cases hst : step st x with
      | none =>
        rw [hst] at hI2
        go_wp2_with (fail)
        go_ret
        have hr2 := Hr.out
        rw [hst] at hr2
        exact ⟨k, st, rfl, by simp [hr2], hI2, fun s h => by rw [hr2] at h; cases h⟩
      | some st' =>
        rw [hst] at hI2
        have hr2 := Hr.out
        rw [hst] at hr2
        have hG2 := hGs st x st' hG hm hst
        have Hr2 := Lib.hid hr2
        clear hr2 hst
        go_wp2_with (fail)
        go_roundw
        case rel => exact ⟨k + 1, st', by omega, by go_num, hI2, hG2, Lib.hid Hr2.out⟩
        case measure => simp [intOf]; omega
    · have hr' := hr.out
      rw [foldS_end step st l k hlt] at hr'
      have Hr := Lib.hid hr'
      clear hr' hr
      go_wp2_with (fail)
      go_ret
      exact ⟨-1, st, rfl, by rw [Hr.out]; rfl, hI, fun s h => by rw [Hr.out] at h; cases h; exact ⟨rfl, hG⟩⟩

set_option maxRecDepth 100000 in
theorem containsHopS_any {σ : Type} (l : List Hop) (a : Option Addr) (cap : Nat) (B : Nat) (g : FuncId) (fi lb : Array Value) (step : σ → Hop → Option σ) (I : σ → World → Prop) (G : σ → Prop) (st0 : σ) (w : World) (hB : B ≤ w.heap.size) (hs : Sl HopE 2 B w a l) (hI0 : I st0 w) (hG0 : G st0)
    (hIB : ∀ st W, I st W → Below B w W)
    (hGs : ∀ st x st', G st → x ∈ l → step st x = some st' → G st')
    (heg : ∀ (args : Array Value) (w : World), (callFunc g args).run Try.prog w = .ok (.enter g args) w)
    (hp : ∀ (st : σ) (x : Hop) (W : World), x ∈ l → G st → I st W → Calls Try.prog g (fi ++ #[.agg #[.int .i64 x.way, .int .i64 x.leave]] ++ lb) W fun e W' => e = .returned (.bool (step st x).isNone) ∧ I ((step st x).getD st) W') :
    Calls Try.prog 89 #[.slice a l.length cap, .func (.func g) fi lb] w
      fun e w' => ∃ st, e = .returned (.bool (foldS step st0 l).isNone) ∧ I st w' ∧ (∀ s, foldS step st0 l = some s → s = st ∧ G st) := by
  have HC := Lib.hid (indexHopS_any l a cap B g fi lb step I G st0 w hB hs hI0 hG0 hIB hGs heg hp)
  clear hp heg hs hIB hGs
  go_enter Try.func89, Try.ntmps89
  go_wp2_with (fail)
  refine HC.out.mono ?_
  rintro e w' ⟨i, st, rfl, hi, hI, hs⟩
  have Hi := Lib.hid hi
  have Hs := Lib.hid hs
  clear hi hs
  go_wp2_with (fail)
  go_ret
  exact ⟨st, by rw [← Hi.out]; rfl, hI, Hs.out⟩

end Go.Proofs.Ytjoihijlcpnhoaa
namespace Go.Proofs.Ytjoihijlcpnhoaa
open Go.RowKit

theorem enters_wayC : ∀ (args : Array Value) (w : World), (callFunc 110 args).run Try.prog w = .ok (.enter 110 args) w := by
  intro args w
  go_simp

set_option maxHeartbeats 2000000 in
set_option maxRecDepth 100000 in
theorem wcheck_any (T : Town) (a1 a2 a3 a4 : Option Addr) (c1 c2 c3 c4 : Nat) (x : Way) (w : World) (hl : T.places.length ≤ 140737488355328) :
    Calls Try.prog 85 #[.agg #[.int .i64 T.steps, .slice a1 T.places.length c1, .slice a2 T.ways.length c2, .slice a3 T.groups.length c3, .slice a4 T.vehicles.length c4],
        .agg #[.int .i64 x.src, .int .i64 x.dst, .int .i64 x.s0, .int .i64 x.s1, .int .i64 x.s2, .int .i64 x.room, .int .i64 x.cars, .int .i64 x.till]] w
      fun e w' => e = .returned (.int .i64 (wcheck T x)) ∧ Below w.heap.size w w' := by
  go_enter Try.func85, Try.ntmps85
  go_wp2_with (first
    | (go_at_call 49; refine (within_any _ _ _ _).mono ?_; rintro e w' ⟨rfl, rfl⟩)
    | (go_at_call 86; refine (has_any T _ _ _ _ _ _ _ _ _ _ hl).mono ?_; rintro e w1 ⟨rfl, hb1⟩; obtain ⟨_, _, _⟩ := bk (w.heap.size) hb1 (by (first | omega | (simp; done) | (simp; omega))); obtain ⟨_, _, _⟩ := bk (w.heap.size + 1) hb1 (by (first | omega | (simp; done) | (simp; omega))); have hzhb1 := bsz hb1; (try simp only [World.size_alloc] at hzhb1))
    | (go_at_call 101; refine (show Calls _ _ _ _ (fun e w' => e = .returned (.bool (badSteps T x)) ∧ Below _ _ w') from containsInt_any [x.s0, x.s1, x.s2] _ _ _ 110 #[] _ (fun n => !within n 0 T.steps) _ (Nat.le_refl _) ?c1 enters_wayC ?c2).mono ?_; rotate_left; rotate_left; rintro e w1 ⟨rfl, hb1⟩; obtain ⟨_, _, _⟩ := bk (w.heap.size) hb1 (by (first | omega | (simp; done) | (simp; omega))); obtain ⟨_, _, _⟩ := bk (w.heap.size + 1) hb1 (by (first | omega | (simp; done) | (simp; omega))); have hzhb1 := bsz hb1; (try simp only [World.size_alloc] at hzhb1)))
  case c1 =>
    refine ⟨by simp, fun k hk => ⟨w.heap.size + 1, 2, rfl, by (first | omega | (simp; done) | (simp; omega)), ?_⟩⟩
    simp only [List.length_cons, List.length_nil] at hk
    unfold IntE
    rcases k with _ | _ | _ | k
    · simp only [*]; simp [go_sem]
    · simp only [*]; simp [go_sem]
    · simp only [*]; simp [go_sem]
    · omega
  case c2 =>
    intro n W _ hW
    obtain ⟨_, _, _⟩ := bk (w.heap.size) hW (by (first | omega | (simp; done) | (simp; omega))); have hzhW := bsz hW; (try simp only [World.size_alloc] at hzhW)
    refine wayC_any T.steps n _ W ?_
    simp only [*]; simp [go_sem]
  all_goals (go_tidy; go_ret; exact ⟨by simp_all [wcheck], (by repeat (first | exact Below.refl _ _ | (refine bl_setCell ?_ _ _ ?_; rotate_left; focus (first | omega | (simp; done) | (simp; omega))) | refine bl_alloc ?_ _ | refine bl_step ?_ (by assumption) | refine bl_drew ?_ | refine bl_drewN ?_ _))⟩)

set_option maxHeartbeats 2000000 in
set_option maxRecDepth 100000 in
theorem checkT_bad (T : Town) (a1 a2 a3 a4 : Option Addr) (c1 c2 c3 c4 : Nat) (w : World) (hl : T.places.length ≤ 140737488355328)
    (h : ¬ (within T.steps 1 200 = true ∧ T.places.length ≠ 0 ∧ ¬ (64 < T.places.length ∨ 256 < T.ways.length ∨ 64 < T.groups.length ∨ 32 < T.vehicles.length))) :
    Calls Try.prog 50 #[.agg #[.int .i64 T.steps, .slice a1 T.places.length c1, .slice a2 T.ways.length c2, .slice a3 T.groups.length c3, .slice a4 T.vehicles.length c4]] w fun e w' => e = .returned (.int .i64 (checkT T)) ∧ Below w.heap.size w w' := by
  by_cases h0 : within T.steps 1 200 = true
  · by_cases h1 : T.places.length = 0
    · have h1' : ((T.places.length : Int) == 0) = true := by simp [h1]
      have H1 := Lib.hid h1
      clear h1 h
      go_enter Try.func50, Try.ntmps50
      go_wp2_with (go_at_call 49; refine (within_any _ _ _ _).mono ?_; rintro e w' ⟨rfl, rfl⟩)
      go_ret
      exact ⟨by simp [checkT, h0, H1.out], (by repeat (first | exact Below.refl _ _ | (refine bl_setCell ?_ _ _ ?_; rotate_left; focus (first | omega | (simp; done) | (simp; omega))) | refine bl_alloc ?_ _ | refine bl_step ?_ (by assumption) | refine bl_drew ?_ | refine bl_drewN ?_ _))⟩
    · have h1' : ((T.places.length : Int) == 0) = false := by simpa using h1
      have h2 : 64 < T.places.length ∨ 256 < T.ways.length ∨ 64 < T.groups.length ∨ 32 < T.vehicles.length := by
        refine Decidable.byContradiction fun hn => h ⟨h0, h1, hn⟩
      have hv : checkT T = 9 := by unfold checkT; rw [if_neg (by simp [h0]), if_neg h1, if_pos h2]
      have HV := Lib.hid hv
      have h3 : (decide (64 < T.places.length) || decide (256 < T.ways.length) || decide (64 < T.groups.length) || decide (32 < T.vehicles.length)) = true := by simpa [or_assoc] using h2
      clear h hv h1
      have H2 := Lib.hid h2
      clear h2
      go_enter Try.func50, Try.ntmps50
      go_wp2_with (go_at_call 49; refine (within_any _ _ _ _).mono ?_; rintro e w' ⟨rfl, rfl⟩)
      all_goals first
        | (exfalso; have := H2.out; omega)
        | (go_ret; exact ⟨by rw [HV.out]; rfl, (by repeat (first | exact Below.refl _ _ | (refine bl_setCell ?_ _ _ ?_; rotate_left; focus (first | omega | (simp; done) | (simp; omega))) | refine bl_alloc ?_ _ | refine bl_step ?_ (by assumption) | refine bl_drew ?_ | refine bl_drewN ?_ _))⟩)
  · go_enter Try.func50, Try.ntmps50
    go_wp2_with (go_at_call 49; refine (within_any _ _ _ _).mono ?_; rintro e w' ⟨rfl, rfl⟩)
    go_ret
    exact ⟨by simp [checkT, h0], (by repeat (first | exact Below.refl _ _ | (refine bl_setCell ?_ _ _ ?_; rotate_left; focus (first | omega | (simp; done) | (simp; omega))) | refine bl_alloc ?_ _ | refine bl_step ?_ (by assumption) | refine bl_drew ?_ | refine bl_drewN ?_ _))⟩

set_option maxHeartbeats 2000000 in
set_option maxRecDepth 100000 in
theorem checkT_good (T : Town) (a1 a2 a3 a4 : Option Addr) (c1 c2 c3 c4 : Nat) (B : Nat) (w : World) (hT : TownM B w a1 a2 a3 a4 T) (hB : B ≤ w.heap.size)
    (h0 : within T.steps 1 200 = true) (hg1 : T.places.length ≠ 0) (hg2 : ¬ (64 < T.places.length ∨ 256 < T.ways.length ∨ 64 < T.groups.length ∨ 32 < T.vehicles.length)) :
    Calls Try.prog 50 #[.agg #[.int .i64 T.steps, .slice a1 T.places.length c1, .slice a2 T.ways.length c2, .slice a3 T.groups.length c3, .slice a4 T.vehicles.length c4]] w fun e w' => e = .returned (.int .i64 (checkT T)) ∧ Below w.heap.size w w' := by
  have hv : checkT T = firstErr ((T.places.drop 0).map pcheck ++ (T.ways.map (wcheck T) ++ (T.groups.map (gcheck T) ++ T.vehicles.map (vcheck T)))) := by
    unfold checkT; rw [if_neg (by simp [h0]), if_neg hg1, if_neg hg2]; rfl
  have h1 : ((T.places.length : Int) == 0) = false := by simpa using hg1
  have g1 : ¬ (64 < (T.places.length : Int)) := by omega
  have g2 : ¬ (256 < (T.ways.length : Int)) := by omega
  have g3 : ¬ (64 < (T.groups.length : Int)) := by omega
  have g4 : ¬ (32 < (T.vehicles.length : Int)) := by omega
  have hl := hT.places.1
  clear hg1 hg2
  have Hhv := Lib.hid hv; clear hv; have HhT := Lib.hid hT; clear hT
  go_enter Try.func50, Try.ntmps50
  go_wp2_with (go_at_call 49; refine (within_any _ _ _ _).mono ?_; rintro e w' ⟨rfl, rfl⟩)
  go_loopw [49] (fun i wr => ∃ k : Nat, k ≤ T.places.length ∧ i = .int .i64 k ∧ Below (w.alloc (.cells #[.int .i64 T.steps, .slice a1 T.places.length c1, .slice a2 T.ways.length c2, .slice a3 T.groups.length c3, .slice a4 T.vehicles.length c4] 27)).heap.size (w.alloc (.cells #[.int .i64 T.steps, .slice a1 T.places.length c1, .slice a2 T.ways.length c2, .slice a3 T.groups.length c3, .slice a4 T.vehicles.length c4] 27)) wr ∧ Hid (checkT T = firstErr ((T.places.drop k).map pcheck ++ (T.ways.map (wcheck T) ++ (T.groups.map (gcheck T) ++ T.vehicles.map (vcheck T)))))) (fun i _ => T.places.length - (intOf i).toNat)
  case atStart => exact ⟨0, Nat.zero_le _, rfl, Below.refl _ _, Hhv⟩
  case round =>
    obtain ⟨k, hk, rfl, hb, hr⟩ := hrel
    obtain ⟨_, _, _⟩ := bk (w.heap.size) hb (by (first | omega | (simp; done) | (simp; omega))); have hzhb := bsz hb; (try simp only [World.size_alloc] at hzhb)
    by_cases hlt : k < T.places.length
    · obtain ⟨b, off, rfl, hbb, he⟩ := (HhT.out.below ((bl_step (bl_alloc (Below.refl _ w) _) hb).mono hB)).places.2 k hlt
      obtain ⟨x, hx⟩ : ∃ x, x = T.places[k] := ⟨_, rfl⟩
      rw [← hx] at he
      obtain ⟨e0, e1, e2⟩ := he
      have Hhx := Lib.hid hx; clear hx
      by_cases hpx : pcheck x = 0
      · have hpx' : (pcheck x != 0) = false := by simp [hpx]
        have Hhpx := Lib.hid hpx; clear hpx
        go_wp2_with (first | (go_at_call 84; refine (pcheck_any x _).mono ?_; rintro e w1 ⟨rfl, hb1⟩; have hzhb1 := bsz hb1))
        go_roundw
        case rel => exact ⟨k + 1, by omega, by go_num, (by repeat (first | exact Below.refl _ _ | (refine bl_setCell ?_ _ _ ?_; rotate_left; focus (first | omega | (simp; done) | (simp; omega))) | refine bl_alloc ?_ _ | refine bl_step ?_ (by assumption) | refine bl_drew ?_ | refine bl_drewN ?_ _)), by have := hr.out; rw [firstErr_drop _ _ _ _ hlt, ← Hhx.out, if_pos Hhpx.out] at this; exact this⟩
        case measure => simp [intOf]; omega
      · have hpx' : (pcheck x != 0) = true := by simpa using hpx
        have Hhpx := Lib.hid hpx; clear hpx
        go_wp2_with (first | (go_at_call 84; refine (pcheck_any x _).mono ?_; rintro e w1 ⟨rfl, hb1⟩; have hzhb1 := bsz hb1))
        go_ret
        exact ⟨by have := hr.out; rw [firstErr_drop _ _ _ _ hlt, ← Hhx.out, if_neg Hhpx.out] at this; rw [this]; rfl, (by repeat (first | exact Below.refl _ _ | (refine bl_setCell ?_ _ _ ?_; rotate_left; focus (first | omega | (simp; done) | (simp; omega))) | refine bl_alloc ?_ _ | refine bl_step ?_ (by assumption) | refine bl_drew ?_ | refine bl_drewN ?_ _))⟩
    · have hr' := hr.out
      rw [firstErr_end _ _ _ _ hlt] at hr'
      have Hhr' := Lib.hid hr'; clear hr'
      go_wp2_with fail
      go_loopw [62] (fun i wr => ∃ k : Nat, k ≤ T.ways.length ∧ i = .int .i64 k ∧ Below (w.alloc (.cells #[.int .i64 T.steps, .slice a1 T.places.length c1, .slice a2 T.ways.length c2, .slice a3 T.groups.length c3, .slice a4 T.vehicles.length c4] 27)).heap.size (w.alloc (.cells #[.int .i64 T.steps, .slice a1 T.places.length c1, .slice a2 T.ways.length c2, .slice a3 T.groups.length c3, .slice a4 T.vehicles.length c4] 27)) wr ∧ Hid (checkT T = firstErr ((T.ways.drop k).map (wcheck T) ++ (T.groups.map (gcheck T) ++ T.vehicles.map (vcheck T))))) (fun i _ => T.ways.length - (intOf i).toNat)
      case atStart => exact ⟨0, Nat.zero_le _, rfl, hb, Hhr'⟩
      case round =>
        obtain ⟨k, hk, rfl, hb, hr⟩ := hrel
        obtain ⟨_, _, _⟩ := bk (w.heap.size) hb (by (first | omega | (simp; done) | (simp; omega))); have hzhb := bsz hb; (try simp only [World.size_alloc] at hzhb)
        by_cases hlt : k < T.ways.length
        · obtain ⟨b, off, rfl, hbb, he⟩ := (HhT.out.below ((bl_step (bl_alloc (Below.refl _ w) _) hb).mono hB)).ways.2 k hlt
          obtain ⟨x, hx⟩ : ∃ x, x = T.ways[k] := ⟨_, rfl⟩
          rw [← hx] at he
          obtain ⟨e0, e1, e2, e3, e4, e5, e6, e7⟩ := he
          have Hhx := Lib.hid hx; clear hx
          by_cases hpx : (wcheck T) x = 0
          · have hpx' : (wcheck T x != 0) = false := by simp [hpx]
            have Hhpx := Lib.hid hpx; clear hpx
            go_wp2_with (first | (go_at_call 85; refine (wcheck_any T _ _ _ _ _ _ _ _ x _ hl).mono ?_; rintro e w1 ⟨rfl, hb1⟩; have hzhb1 := bsz hb1))
            go_roundw
            case rel => exact ⟨k + 1, by omega, by go_num, (by repeat (first | exact Below.refl _ _ | (refine bl_setCell ?_ _ _ ?_; rotate_left; focus (first | omega | (simp; done) | (simp; omega))) | refine bl_alloc ?_ _ | refine bl_step ?_ (by assumption) | refine bl_drew ?_ | refine bl_drewN ?_ _)), by have := hr.out; rw [firstErr_drop _ _ _ _ hlt, ← Hhx.out, if_pos Hhpx.out] at this; exact this⟩
            case measure => simp [intOf]; omega
          · have hpx' : (wcheck T x != 0) = true := by simpa using hpx
            have Hhpx := Lib.hid hpx; clear hpx
            go_wp2_with (first | (go_at_call 85; refine (wcheck_any T _ _ _ _ _ _ _ _ x _ hl).mono ?_; rintro e w1 ⟨rfl, hb1⟩; have hzhb1 := bsz hb1))
            go_ret
            exact ⟨by have := hr.out; rw [firstErr_drop _ _ _ _ hlt, ← Hhx.out, if_neg Hhpx.out] at this; rw [this]; rfl, (by repeat (first | exact Below.refl _ _ | (refine bl_setCell ?_ _ _ ?_; rotate_left; focus (first | omega | (simp; done) | (simp; omega))) | refine bl_alloc ?_ _ | refine bl_step ?_ (by assumption) | refine bl_drew ?_ | refine bl_drewN ?_ _))⟩
        · have hr' := hr.out
          rw [firstErr_end _ _ _ _ hlt] at hr'
          have Hhr' := Lib.hid hr'; clear hr'
          go_wp2_with fail
          go_loopw [76] (fun i wr => ∃ k : Nat, k ≤ T.groups.length ∧ i = .int .i64 k ∧ Below (w.alloc (.cells #[.int .i64 T.steps, .slice a1 T.places.length c1, .slice a2 T.ways.length c2, .slice a3 T.groups.length c3, .slice a4 T.vehicles.length c4] 27)).heap.size (w.alloc (.cells #[.int .i64 T.steps, .slice a1 T.places.length c1, .slice a2 T.ways.length c2, .slice a3 T.groups.length c3, .slice a4 T.vehicles.length c4] 27)) wr ∧ Hid (checkT T = firstErr ((T.groups.drop k).map (gcheck T) ++ T.vehicles.map (vcheck T)))) (fun i _ => T.groups.length - (intOf i).toNat)
          case atStart => exact ⟨0, Nat.zero_le _, rfl, hb, Hhr'⟩
          case round =>
            obtain ⟨k, hk, rfl, hb, hr⟩ := hrel
            obtain ⟨_, _, _⟩ := bk (w.heap.size) hb (by (first | omega | (simp; done) | (simp; omega))); have hzhb := bsz hb; (try simp only [World.size_alloc] at hzhb)
            by_cases hlt : k < T.groups.length
            · obtain ⟨b, off, rfl, hbb, he⟩ := (HhT.out.below ((bl_step (bl_alloc (Below.refl _ w) _) hb).mono hB)).groups.2 k hlt
              obtain ⟨x, hx⟩ : ∃ x, x = T.groups[k] := ⟨_, rfl⟩
              rw [← hx] at he
              obtain ⟨e0, e1, e2⟩ := he
              have Hhx := Lib.hid hx; clear hx
              rcases gcheck_cases T x with ⟨q1, hpx⟩ | ⟨q1, q2, hpx⟩ | ⟨q1, q2, q3, hpx⟩ | ⟨q1, q2, q3, hpx⟩
              · have Hhpx := Lib.hid hpx; clear hpx
                go_wp2_with (first | (go_at_call 49; refine (within_any _ _ _ _).mono ?_; rintro e w' ⟨rfl, rfl⟩) | (go_at_call 86; refine (has_any T _ _ _ _ _ _ _ _ _ _ hl).mono ?_; rintro e w1 ⟨rfl, hb1⟩; obtain ⟨_, _, _⟩ := bk (w.heap.size) hb1 (by (first | omega | (simp; done) | (simp; omega))); obtain ⟨_, _, _⟩ := bk (wr.heap.size) hb1 (by (first | omega | (simp; done) | (simp; omega))); have hzhb1 := bsz hb1; (try simp only [World.size_alloc] at hzhb1)))
                go_ret
                exact ⟨by have := hr.out; rw [firstErr_drop _ _ _ _ hlt, ← Hhx.out, if_neg (by rw [Hhpx.out]; decide), Hhpx.out] at this; rw [this]; rfl, (by repeat (first | exact Below.refl _ _ | (refine bl_setCell ?_ _ _ ?_; rotate_left; focus (first | omega | (simp; done) | (simp; omega))) | refine bl_alloc ?_ _ | refine bl_step ?_ (by assumption) | refine bl_drew ?_ | refine bl_drewN ?_ _))⟩
              · have Hhpx := Lib.hid hpx; clear hpx
                go_wp2_with (first | (go_at_call 49; refine (within_any _ _ _ _).mono ?_; rintro e w' ⟨rfl, rfl⟩) | (go_at_call 86; refine (has_any T _ _ _ _ _ _ _ _ _ _ hl).mono ?_; rintro e w1 ⟨rfl, hb1⟩; obtain ⟨_, _, _⟩ := bk (w.heap.size) hb1 (by (first | omega | (simp; done) | (simp; omega))); obtain ⟨_, _, _⟩ := bk (wr.heap.size) hb1 (by (first | omega | (simp; done) | (simp; omega))); have hzhb1 := bsz hb1; (try simp only [World.size_alloc] at hzhb1)))
                go_ret
                exact ⟨by have := hr.out; rw [firstErr_drop _ _ _ _ hlt, ← Hhx.out, if_neg (by rw [Hhpx.out]; decide), Hhpx.out] at this; rw [this]; rfl, (by repeat (first | exact Below.refl _ _ | (refine bl_setCell ?_ _ _ ?_; rotate_left; focus (first | omega | (simp; done) | (simp; omega))) | refine bl_alloc ?_ _ | refine bl_step ?_ (by assumption) | refine bl_drew ?_ | refine bl_drewN ?_ _))⟩
              · have Hhpx := Lib.hid hpx; clear hpx
                go_wp2_with (first | (go_at_call 49; refine (within_any _ _ _ _).mono ?_; rintro e w' ⟨rfl, rfl⟩) | (go_at_call 86; refine (has_any T _ _ _ _ _ _ _ _ _ _ hl).mono ?_; rintro e w1 ⟨rfl, hb1⟩; obtain ⟨_, _, _⟩ := bk (w.heap.size) hb1 (by (first | omega | (simp; done) | (simp; omega))); obtain ⟨_, _, _⟩ := bk (wr.heap.size) hb1 (by (first | omega | (simp; done) | (simp; omega))); have hzhb1 := bsz hb1; (try simp only [World.size_alloc] at hzhb1)))
                go_ret
                exact ⟨by have := hr.out; rw [firstErr_drop _ _ _ _ hlt, ← Hhx.out, if_neg (by rw [Hhpx.out]; decide), Hhpx.out] at this; rw [this]; rfl, (by repeat (first | exact Below.refl _ _ | (refine bl_setCell ?_ _ _ ?_; rotate_left; focus (first | omega | (simp; done) | (simp; omega))) | refine bl_alloc ?_ _ | refine bl_step ?_ (by assumption) | refine bl_drew ?_ | refine bl_drewN ?_ _))⟩
              · have Hhpx := Lib.hid hpx; clear hpx
                go_wp2_with (first | (go_at_call 49; refine (within_any _ _ _ _).mono ?_; rintro e w' ⟨rfl, rfl⟩) | (go_at_call 86; refine (has_any T _ _ _ _ _ _ _ _ _ _ hl).mono ?_; rintro e w1 ⟨rfl, hb1⟩; obtain ⟨_, _, _⟩ := bk (w.heap.size) hb1 (by (first | omega | (simp; done) | (simp; omega))); obtain ⟨_, _, _⟩ := bk (wr.heap.size) hb1 (by (first | omega | (simp; done) | (simp; omega))); have hzhb1 := bsz hb1; (try simp only [World.size_alloc] at hzhb1)))
                go_roundw
                case rel => exact ⟨k + 1, by omega, by go_num, (by repeat (first | exact Below.refl _ _ | (refine bl_setCell ?_ _ _ ?_; rotate_left; focus (first | omega | (simp; done) | (simp; omega))) | refine bl_alloc ?_ _ | refine bl_step ?_ (by assumption) | refine bl_drew ?_ | refine bl_drewN ?_ _)), by have := hr.out; rw [firstErr_drop _ _ _ _ hlt, ← Hhx.out, if_pos Hhpx.out] at this; exact this⟩
                case measure => simp [intOf]; omega
            · have hr' := hr.out
              rw [firstErr_end _ _ _ _ hlt] at hr'
              have Hhr' := Lib.hid hr'; clear hr'
              go_wp2_with fail
              go_loopw [100] (fun i wr => ∃ k : Nat, k ≤ T.vehicles.length ∧ i = .int .i64 k ∧ Below (w.alloc (.cells #[.int .i64 T.steps, .slice a1 T.places.length c1, .slice a2 T.ways.length c2, .slice a3 T.groups.length c3, .slice a4 T.vehicles.length c4] 27)).heap.size (w.alloc (.cells #[.int .i64 T.steps, .slice a1 T.places.length c1, .slice a2 T.ways.length c2, .slice a3 T.groups.length c3, .slice a4 T.vehicles.length c4] 27)) wr ∧ Hid (checkT T = firstErr ((T.vehicles.drop k).map (vcheck T) ++ []))) (fun i _ => T.vehicles.length - (intOf i).toNat)
              case atStart => exact ⟨0, Nat.zero_le _, rfl, hb, by rw [List.append_nil]; exact Hhr'⟩
              case round =>
                obtain ⟨k, hk, rfl, hb, hr⟩ := hrel
                obtain ⟨_, _, _⟩ := bk (w.heap.size) hb (by (first | omega | (simp; done) | (simp; omega))); have hzhb := bsz hb; (try simp only [World.size_alloc] at hzhb)
                by_cases hlt : k < T.vehicles.length
                · obtain ⟨b, off, rfl, hbb, he⟩ := (HhT.out.below ((bl_step (bl_alloc (Below.refl _ w) _) hb).mono hB)).vehicles.2 k hlt
                  obtain ⟨x, hx⟩ : ∃ x, x = T.vehicles[k] := ⟨_, rfl⟩
                  rw [← hx] at he
                  obtain ⟨e0, e1⟩ := he
                  have Hhx := Lib.hid hx; clear hx
                  rcases vcheck_cases T x with ⟨q1, hpx⟩ | ⟨q1, q2, hpx⟩ | ⟨q1, q2, hpx⟩
                  · have Hhpx := Lib.hid hpx; clear hpx
                    go_wp2_with (first | (go_at_call 49; refine (within_any _ _ _ _).mono ?_; rintro e w' ⟨rfl, rfl⟩) | (go_at_call 86; refine (has_any T _ _ _ _ _ _ _ _ _ _ hl).mono ?_; rintro e w1 ⟨rfl, hb1⟩; obtain ⟨_, _, _⟩ := bk (w.heap.size) hb1 (by (first | omega | (simp; done) | (simp; omega))); obtain ⟨_, _, _⟩ := bk (wr.heap.size) hb1 (by (first | omega | (simp; done) | (simp; omega))); have hzhb1 := bsz hb1; (try simp only [World.size_alloc] at hzhb1)))
                    go_ret
                    exact ⟨by have := hr.out; rw [firstErr_drop _ _ _ _ hlt, ← Hhx.out, if_neg (by rw [Hhpx.out]; decide), Hhpx.out] at this; rw [this]; rfl, (by repeat (first | exact Below.refl _ _ | (refine bl_setCell ?_ _ _ ?_; rotate_left; focus (first | omega | (simp; done) | (simp; omega))) | refine bl_alloc ?_ _ | refine bl_step ?_ (by assumption) | refine bl_drew ?_ | refine bl_drewN ?_ _))⟩
                  · have Hhpx := Lib.hid hpx; clear hpx
                    go_wp2_with (first | (go_at_call 49; refine (within_any _ _ _ _).mono ?_; rintro e w' ⟨rfl, rfl⟩) | (go_at_call 86; refine (has_any T _ _ _ _ _ _ _ _ _ _ hl).mono ?_; rintro e w1 ⟨rfl, hb1⟩; obtain ⟨_, _, _⟩ := bk (w.heap.size) hb1 (by (first | omega | (simp; done) | (simp; omega))); obtain ⟨_, _, _⟩ := bk (wr.heap.size) hb1 (by (first | omega | (simp; done) | (simp; omega))); have hzhb1 := bsz hb1; (try simp only [World.size_alloc] at hzhb1)))
                    go_ret
                    exact ⟨by have := hr.out; rw [firstErr_drop _ _ _ _ hlt, ← Hhx.out, if_neg (by rw [Hhpx.out]; decide), Hhpx.out] at this; rw [this]; rfl, (by repeat (first | exact Below.refl _ _ | (refine bl_setCell ?_ _ _ ?_; rotate_left; focus (first | omega | (simp; done) | (simp; omega))) | refine bl_alloc ?_ _ | refine bl_step ?_ (by assumption) | refine bl_drew ?_ | refine bl_drewN ?_ _))⟩
                  · have Hhpx := Lib.hid hpx; clear hpx
                    go_wp2_with (first | (go_at_call 49; refine (within_any _ _ _ _).mono ?_; rintro e w' ⟨rfl, rfl⟩) | (go_at_call 86; refine (has_any T _ _ _ _ _ _ _ _ _ _ hl).mono ?_; rintro e w1 ⟨rfl, hb1⟩; obtain ⟨_, _, _⟩ := bk (w.heap.size) hb1 (by (first | omega | (simp; done) | (simp; omega))); obtain ⟨_, _, _⟩ := bk (wr.heap.size) hb1 (by (first | omega | (simp; done) | (simp; omega))); have hzhb1 := bsz hb1; (try simp only [World.size_alloc] at hzhb1)))
                    go_roundw
                    case rel => exact ⟨k + 1, by omega, by go_num, (by repeat (first | exact Below.refl _ _ | (refine bl_setCell ?_ _ _ ?_; rotate_left; focus (first | omega | (simp; done) | (simp; omega))) | refine bl_alloc ?_ _ | refine bl_step ?_ (by assumption) | refine bl_drew ?_ | refine bl_drewN ?_ _)), by have := hr.out; rw [firstErr_drop _ _ _ _ hlt, ← Hhx.out, if_pos Hhpx.out] at this; exact this⟩
                    case measure => simp [intOf]; omega
                · have hr' := hr.out
                  rw [firstErr_end _ _ _ _ hlt] at hr'
                  have Hhr' := Lib.hid hr'; clear hr'
                  go_wp2_with fail
                  go_ret
                  exact ⟨by rw [Hhr'.out]; rfl, (by repeat (first | exact Below.refl _ _ | (refine bl_setCell ?_ _ _ ?_; rotate_left; focus (first | omega | (simp; done) | (simp; omega))) | refine bl_alloc ?_ _ | refine bl_step ?_ (by assumption) | refine bl_drew ?_ | refine bl_drewN ?_ _))⟩

theorem check_any (T : Town) (a1 a2 a3 a4 : Option Addr) (c1 c2 c3 c4 : Nat) (B : Nat) (w : World) (hT : TownM B w a1 a2 a3 a4 T) (hB : B ≤ w.heap.size) :
    Calls Try.prog 50 #[.agg #[.int .i64 T.steps, .slice a1 T.places.length c1, .slice a2 T.ways.length c2, .slice a3 T.groups.length c3, .slice a4 T.vehicles.length c4]] w fun e w' => e = .returned (.int .i64 (checkT T)) ∧ Below w.heap.size w w' := by
  by_cases h : within T.steps 1 200 = true ∧ T.places.length ≠ 0 ∧ ¬ (64 < T.places.length ∨ 256 < T.ways.length ∨ 64 < T.groups.length ∨ 32 < T.vehicles.length)
  · exact checkT_good T _ _ _ _ _ _ _ _ B w hT hB h.1 h.2.1 h.2.2
  · exact checkT_bad T _ _ _ _ _ _ _ _ w hT.places.1 h
end Go.Proofs.Ytjoihijlcpnhoaa
namespace Go.Proofs.Ytjoihijlcpnhoaa
open Go.RowKit

set_option maxHeartbeats 2000000 in
set_option maxRecDepth 100000 in
theorem dry_any (T : Town) (a1 a2 a3 a4 : Option Addr) (c1 c2 c3 c4 : Nat) (B : Nat) (p s : Int) (w : World) (hT : TownM B w a1 a2 a3 a4 T) (hB : B ≤ w.heap.size) (h0 : 0 ≤ p) (h1 : p < (T.places.length : Int)) :
    Calls Try.prog 45 #[.agg #[.int .i64 T.steps, .slice a1 T.places.length c1, .slice a2 T.ways.length c2, .slice a3 T.groups.length c3, .slice a4 T.vehicles.length c4], .agg #[.int .i64 p, .int .i64 s]] w fun e w' => e = .returned (.bool (T.dry p s)) ∧ Below w.heap.size w w' := by
  obtain ⟨b, off, rfl, hb, he⟩ := hT.places.at h0 h1 Place.z
  have hbw : b < w.heap.size := by omega
  have hl := hT.places.1
  obtain ⟨x, hx⟩ : ∃ x, x = T.places.getD p.toNat Place.z := ⟨_, rfl⟩
  rw [← hx] at he
  obtain ⟨e0, e1, e2⟩ := he
  have Hhx := Lib.hid hx; clear hx; have HhT := Lib.hid hT; clear hT
  go_enter Try.func45, Try.ntmps45
  go_wp2_with fail
  go_quiet (fail)
  go_wp2_with fail
  go_ret
  exact ⟨by unfold Town.dry Town.pl; rw [← Hhx.out]; rfl, (by repeat (first | exact Below.refl _ _ | (refine bl_setCell ?_ _ _ ?_; rotate_left; focus (first | omega | (simp; done) | (simp; omega))) | refine bl_alloc ?_ _ | refine bl_step ?_ (by assumption) | refine bl_drew ?_ | refine bl_drewN ?_ _))⟩

set_option maxHeartbeats 2000000 in
set_option maxRecDepth 100000 in
theorem refuge_any (T : Town) (a1 a2 a3 a4 : Option Addr) (c1 c2 c3 c4 : Nat) (B : Nat) (p : Int) (w : World) (hT : TownM B w a1 a2 a3 a4 T) (hB : B ≤ w.heap.size) (h0 : 0 ≤ p) (h1 : p < (T.places.length : Int)) :
    Calls Try.prog 48 #[.agg #[.int .i64 T.steps, .slice a1 T.places.length c1, .slice a2 T.ways.length c2, .slice a3 T.groups.length c3, .slice a4 T.vehicles.length c4], .int .i64 p] w fun e w' => e = .returned (.bool (T.refuge p)) ∧ Below w.heap.size w w' := by
  obtain ⟨b, off, rfl, hb, he⟩ := hT.places.at h0 h1 Place.z
  have hbw : b < w.heap.size := by omega
  have hl := hT.places.1
  obtain ⟨x, hx⟩ : ∃ x, x = T.places.getD p.toNat Place.z := ⟨_, rfl⟩
  rw [← hx] at he
  obtain ⟨e0, e1, e2⟩ := he
  have Hhx := Lib.hid hx; clear hx; have HhT := Lib.hid hT; clear hT
  go_enter Try.func48, Try.ntmps48
  go_wp2_with fail
  go_ret
  exact ⟨by unfold Town.refuge Town.pl; rw [← Hhx.out]; rfl, (by repeat (first | exact Below.refl _ _ | (refine bl_setCell ?_ _ _ ?_; rotate_left; focus (first | omega | (simp; done) | (simp; omega))) | refine bl_alloc ?_ _ | refine bl_step ?_ (by assumption) | refine bl_drew ?_ | refine bl_drewN ?_ _))⟩

set_option maxHeartbeats 2000000 in
set_option maxRecDepth 100000 in
theorem unknown_any (T : Town) (a1 a2 a3 a4 : Option Addr) (c1 c2 c3 c4 : Nat) (h : Hop) (w : World) (hl : T.ways.length ≤ 140737488355328) :
    Calls Try.prog 90 #[.agg #[.int .i64 T.steps, .slice a1 T.places.length c1, .slice a2 T.ways.length c2, .slice a3 T.groups.length c3, .slice a4 T.vehicles.length c4], .agg #[.int .i64 h.way, .int .i64 h.leave]] w fun e w' => e = .returned (.bool (T.unknown h)) ∧ Below w.heap.size w w' := by
  go_enter Try.func90, Try.ntmps90
  go_wp2_with (go_at_call 49; refine (within_any _ _ _ _).mono ?_; rintro e w' ⟨rfl, rfl⟩)
  go_ret
  exact ⟨rfl, (by repeat (first | exact Below.refl _ _ | (refine bl_setCell ?_ _ _ ?_; rotate_left; focus (first | omega | (simp; done) | (simp; omega))) | refine bl_alloc ?_ _ | refine bl_step ?_ (by assumption) | refine bl_drew ?_ | refine bl_drewN ?_ _))⟩

set_option maxHeartbeats 2000000 in
set_option maxRecDepth 100000 in
theorem outside_any (T : Town) (a1 a2 a3 a4 : Option Addr) (c1 c2 c3 c4 : Nat) (h : Hop) (w : World) :
    Calls Try.prog 91 #[.agg #[.int .i64 T.steps, .slice a1 T.places.length c1, .slice a2 T.ways.length c2, .slice a3 T.groups.length c3, .slice a4 T.vehicles.length c4], .agg #[.int .i64 h.way, .int .i64 h.leave]] w fun e w' => e = .returned (.bool (T.outside h)) ∧ Below w.heap.size w w' := by
  go_enter Try.func91, Try.ntmps91
  go_wp2_with (go_at_call 49; refine (within_any _ _ _ _).mono ?_; rintro e w' ⟨rfl, rfl⟩)
  go_ret
  exact ⟨rfl, (by repeat (first | exact Below.refl _ _ | (refine bl_setCell ?_ _ _ ?_; rotate_left; focus (first | omega | (simp; done) | (simp; omega))) | refine bl_alloc ?_ _ | refine bl_step ?_ (by assumption) | refine bl_drew ?_ | refine bl_drewN ?_ _))⟩
end Go.Proofs.Ytjoihijlcpnhoaa
