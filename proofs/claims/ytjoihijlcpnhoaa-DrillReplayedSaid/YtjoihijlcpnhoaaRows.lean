/-
  No cell of these rows narrows 'for every input' (looked for: loops, veiled, ifaces, maps, wideKeys, modest, calm, conditions, laid).
  DERIVED. THE GIVEN ROWS OF THIS SEAT. 5 by the template 'for every input the law returns true; each argument reads behind the call as it read before'; 0 by the template 'total and deterministic' (their statements: YtjoihijlcpnhoaaTotals.lean).
  GIVEN WITH THE SEED: the statements are not yours to turn. If you find one false, say at which input.
  Laid BY PROGRAM, IN A SANDBOX (cutbox-rows.mjs): the forced cells as the released guide's own fill.sh prints them over the translation d4427be3c131d468… (all of the seat's roots in one cut). By AI agents, Wed Nov 11 2026. No macro, syntax, notation, axiom, sorry.
-/
import Derived.Test.YtjoihijlcpnhoaaChecked
import GoSem.Claim
import GoSem.ClaimJoined
import GoSem.ClaimMapViews
import Derived.JoinedTies
import Derived.KernelRfl
namespace Go.Proofs.Ytjoihijlcpnhoaa
/- THE CELL 'sum', in the pinned program and in every row, IS THE sha256 OF THE DUMP (.gsa) THAT YtjoihijlcpnhoaaProg.lean LOADS. Nothing in Lean hashes anything: it is a label: what it is worth is what the hold of that sum in a sandbox is worth. -/
noncomputable def Try.pinned : Pinned := { name := "ytjoihijlcpnhoaa", sum := "d4427be3c131d468b2a115ac1154aff714f6258d80b33a7ca9becf099f9791fc", checked := Try.checked }
namespace Rows
def none {H : Type} : Left H := { results := [], args := [] }

/-- 'tidewalllaw10.TownSafe': WHATEVER THE INPUT: true; the input reads as it did. -/
def townSafeSpec : ChangeSpec := { name := "townSafe", fn := fun _ => fun
  | [d1, d2] => { results := [.lit (.bool true)], args := [d1, d2] }
  | _ => none }
def townSafeRow : OpenClaim := { program := "ytjoihijlcpnhoaa", sum := "d4427be3c131d468b2a115ac1154aff714f6258d80b33a7ca9becf099f9791fc", func := "tidewall/tidewalllaw10.TownSafe", spec := "townSafe", unfollowed := true, recurses := true, plainKeys := false, apart := false }
def TownSafeSaid : Prop := townSafeRow.holds Try.pinned (OpenSpec.ofChange townSafeSpec)

/-- ITS FALSE NEIGHBOUR: 'it returns false'. Refute it at one input. -/
def townSafeWrong : ChangeSpec := { name := "townSafe", fn := fun _ => fun
  | [d1, d2] => { results := [.lit (.bool false)], args := [d1, d2] }
  | _ => none }
def TownSafeWrongFalsely : Prop := townSafeRow.holds Try.pinned (OpenSpec.ofChange townSafeWrong)

/-- 'tidewalllaw11.DrillSafe': WHATEVER THE INPUT: true; the input reads as it did. -/
def drillSafeSpec : ChangeSpec := { name := "drillSafe", fn := fun _ => fun
  | [d1, d2, d3] => { results := [.lit (.bool true)], args := [d1, d2, d3] }
  | _ => none }
def drillSafeRow : OpenClaim := { program := "ytjoihijlcpnhoaa", sum := "d4427be3c131d468b2a115ac1154aff714f6258d80b33a7ca9becf099f9791fc", func := "tidewall/tidewalllaw11.DrillSafe", spec := "drillSafe", unfollowed := true, recurses := true, plainKeys := false, apart := false }
def DrillSafeSaid : Prop := drillSafeRow.holds Try.pinned (OpenSpec.ofChange drillSafeSpec)

/-- ITS FALSE NEIGHBOUR: 'it returns false'. Refute it at one input. -/
def drillSafeWrong : ChangeSpec := { name := "drillSafe", fn := fun _ => fun
  | [d1, d2, d3] => { results := [.lit (.bool false)], args := [d1, d2, d3] }
  | _ => none }
def DrillSafeWrongFalsely : Prop := drillSafeRow.holds Try.pinned (OpenSpec.ofChange drillSafeWrong)

/-- 'tidewalllaw11.DrillCauses': WHATEVER THE INPUT: true; the input reads as it did. -/
def drillCausesSpec : ChangeSpec := { name := "drillCauses", fn := fun _ => fun
  | [d1, d2, d3, d4, d5, d6] => { results := [.lit (.bool true)], args := [d1, d2, d3, d4, d5, d6] }
  | _ => none }
def drillCausesRow : OpenClaim := { program := "ytjoihijlcpnhoaa", sum := "d4427be3c131d468b2a115ac1154aff714f6258d80b33a7ca9becf099f9791fc", func := "tidewall/tidewalllaw11.DrillCauses", spec := "drillCauses", unfollowed := true, recurses := true, plainKeys := false, apart := false }
def DrillCausesSaid : Prop := drillCausesRow.holds Try.pinned (OpenSpec.ofChange drillCausesSpec)

/-- ITS FALSE NEIGHBOUR: 'it returns false'. Refute it at one input. -/
def drillCausesWrong : ChangeSpec := { name := "drillCauses", fn := fun _ => fun
  | [d1, d2, d3, d4, d5, d6] => { results := [.lit (.bool false)], args := [d1, d2, d3, d4, d5, d6] }
  | _ => none }
def DrillCausesWrongFalsely : Prop := drillCausesRow.holds Try.pinned (OpenSpec.ofChange drillCausesWrong)

/-- 'tidewalllaw11.DrillReplayed': WHATEVER THE INPUT: true; the input reads as it did. -/
def drillReplayedSpec : ChangeSpec := { name := "drillReplayed", fn := fun _ => fun
  | [d1, d2, d3, d4, d5] => { results := [.lit (.bool true)], args := [d1, d2, d3, d4, d5] }
  | _ => none }
def drillReplayedRow : OpenClaim := { program := "ytjoihijlcpnhoaa", sum := "d4427be3c131d468b2a115ac1154aff714f6258d80b33a7ca9becf099f9791fc", func := "tidewall/tidewalllaw11.DrillReplayed", spec := "drillReplayed", unfollowed := true, recurses := true, plainKeys := false, apart := false }
def DrillReplayedSaid : Prop := drillReplayedRow.holds Try.pinned (OpenSpec.ofChange drillReplayedSpec)

/-- ITS FALSE NEIGHBOUR: 'it returns false'. Refute it at one input. -/
def drillReplayedWrong : ChangeSpec := { name := "drillReplayed", fn := fun _ => fun
  | [d1, d2, d3, d4, d5] => { results := [.lit (.bool false)], args := [d1, d2, d3, d4, d5] }
  | _ => none }
def DrillReplayedWrongFalsely : Prop := drillReplayedRow.holds Try.pinned (OpenSpec.ofChange drillReplayedWrong)

/-- 'tidewalllaw10.TownKnown': WHATEVER THE INPUT: true; the input reads as it did. -/
def townKnownSpec : ChangeSpec := { name := "townKnown", fn := fun _ => fun
  | [] => { results := [.lit (.bool true)], args := [] }
  | _ => none }
def townKnownRow : OpenClaim := { program := "ytjoihijlcpnhoaa", sum := "d4427be3c131d468b2a115ac1154aff714f6258d80b33a7ca9becf099f9791fc", func := "tidewall/tidewalllaw10.TownKnown", spec := "townKnown", unfollowed := true, recurses := true, plainKeys := false, apart := false }
def TownKnownSaid : Prop := townKnownRow.holds Try.pinned (OpenSpec.ofChange townKnownSpec)

/-- ITS FALSE NEIGHBOUR: 'it returns false'. Refute it at one input. -/
def townKnownWrong : ChangeSpec := { name := "townKnown", fn := fun _ => fun
  | [] => { results := [.lit (.bool false)], args := [] }
  | _ => none }
def TownKnownWrongFalsely : Prop := townKnownRow.holds Try.pinned (OpenSpec.ofChange townKnownWrong)

/- THE SECOND FORM. 'bulk': how many values and letters a reading holds, each counted each time it is reached (what is shared counts as often as it is met; a slice's spare places count too). A statement '..UptoSaid' is the law's where the arguments, and the package variables that the reading takes, are together of bulk at most 1048576: NARROWER than '..Said'. Prove '..Said' where nothing that the law and all that it calls make is longer than what came in: it says more and counts as full. Else prove '..UptoSaid'. A law counts once. -/
mutual
def uptoBulk {H : Type} : DataW H → Nat
  | .lit (.string bytes) => bytes.length + 1
  | .lit _ => 1
  | .nil => 1
  | .ptr d => uptoBulk d + 1
  | .slice elems spare => uptoBulkAll elems + uptoBulkAll spare + 1
  | .agg parts => uptoBulkAll parts + 1
  | .iface _ d => uptoBulk d + 1
  | .map entries => uptoBulkEntries entries + 1
  | .held _ => 1
def uptoBulkAll {H : Type} : List (DataW H) → Nat
  | [] => 0
  | d :: r => uptoBulk d + uptoBulkAll r
def uptoBulkEntries {H : Type} : List (Lit × DataW H) → Nat
  | [] => 0
  | x :: r => uptoBulkEntry x + uptoBulkEntries r
def uptoBulkEntry {H : Type} : Lit × DataW H → Nat
  | (.string bytes, d) => bytes.length + uptoBulk d + 1
  | (_, d) => uptoBulk d + 1
 end
def uptoSmall : (H : Type) → List (DataW H) → Bool := fun _ ds => decide (uptoBulkAll ds ≤ 1048576)
def OpenSpec.upto (s : _root_.Go.ChangeSpec) : _root_.Go.OpenSpec := { _root_.Go.OpenSpec.ofChange s with cond := some uptoSmall }

/-- 'tidewalllaw10.TownSafe', WHERE WHAT IT READS IS OF BULK AT MOST 1048576: true; the input reads as it did. -/
def townSafeUptoRow : OpenClaim := { program := "ytjoihijlcpnhoaa", sum := "d4427be3c131d468b2a115ac1154aff714f6258d80b33a7ca9becf099f9791fc", func := "tidewall/tidewalllaw10.TownSafe", spec := "townSafe", unfollowed := true, recurses := true, plainKeys := false, apart := false, narrowed := true }
def TownSafeUptoSaid : Prop := townSafeUptoRow.holds Try.pinned (OpenSpec.upto townSafeSpec)

/-- 'tidewalllaw11.DrillSafe', WHERE WHAT IT READS IS OF BULK AT MOST 1048576: true; the input reads as it did. -/
def drillSafeUptoRow : OpenClaim := { program := "ytjoihijlcpnhoaa", sum := "d4427be3c131d468b2a115ac1154aff714f6258d80b33a7ca9becf099f9791fc", func := "tidewall/tidewalllaw11.DrillSafe", spec := "drillSafe", unfollowed := true, recurses := true, plainKeys := false, apart := false, narrowed := true }
def DrillSafeUptoSaid : Prop := drillSafeUptoRow.holds Try.pinned (OpenSpec.upto drillSafeSpec)

/-- 'tidewalllaw11.DrillCauses', WHERE WHAT IT READS IS OF BULK AT MOST 1048576: true; the input reads as it did. -/
def drillCausesUptoRow : OpenClaim := { program := "ytjoihijlcpnhoaa", sum := "d4427be3c131d468b2a115ac1154aff714f6258d80b33a7ca9becf099f9791fc", func := "tidewall/tidewalllaw11.DrillCauses", spec := "drillCauses", unfollowed := true, recurses := true, plainKeys := false, apart := false, narrowed := true }
def DrillCausesUptoSaid : Prop := drillCausesUptoRow.holds Try.pinned (OpenSpec.upto drillCausesSpec)

/-- 'tidewalllaw11.DrillReplayed', WHERE WHAT IT READS IS OF BULK AT MOST 1048576: true; the input reads as it did. -/
def drillReplayedUptoRow : OpenClaim := { program := "ytjoihijlcpnhoaa", sum := "d4427be3c131d468b2a115ac1154aff714f6258d80b33a7ca9becf099f9791fc", func := "tidewall/tidewalllaw11.DrillReplayed", spec := "drillReplayed", unfollowed := true, recurses := true, plainKeys := false, apart := false, narrowed := true }
def DrillReplayedUptoSaid : Prop := drillReplayedUptoRow.holds Try.pinned (OpenSpec.upto drillReplayedSpec)

/-- 'tidewalllaw10.TownKnown', WHERE WHAT IT READS IS OF BULK AT MOST 1048576: true; the input reads as it did. -/
def townKnownUptoRow : OpenClaim := { program := "ytjoihijlcpnhoaa", sum := "d4427be3c131d468b2a115ac1154aff714f6258d80b33a7ca9becf099f9791fc", func := "tidewall/tidewalllaw10.TownKnown", spec := "townKnown", unfollowed := true, recurses := true, plainKeys := false, apart := false, narrowed := true }
def TownKnownUptoSaid : Prop := townKnownUptoRow.holds Try.pinned (OpenSpec.upto townKnownSpec)

end Rows
end Go.Proofs.Ytjoihijlcpnhoaa
