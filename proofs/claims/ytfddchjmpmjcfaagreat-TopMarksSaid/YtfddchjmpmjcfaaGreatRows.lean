/-
  No cell of these rows narrows 'for every input' (looked for: loops, veiled, ifaces, maps, wideKeys, modest, calm, conditions, laid).
  DERIVED. THE GIVEN ROWS OF THIS SEAT. 10 by the template 'for every input the law returns true; each argument reads behind the call as it read before'; 0 by the template 'total and deterministic' (their statements: YtfddchjmpmjcfaaGreatTotals.lean).
  GIVEN WITH THE SEED: the statements are not yours to turn. If you find one false, say at which input.
  Laid BY PROGRAM, IN A SANDBOX (cutbox-rows.mjs): the forced cells as the released guide's own fill.sh prints them over the translation 37cb0c2ddfa577c4… (all of the seat's roots in one cut). By AI agents, Wed Nov 11 2026. No macro, syntax, notation, axiom, sorry.
-/
import Derived.Test.YtfddchjmpmjcfaaGreatChecked
import GoSem.Claim
import GoSem.ClaimJoined
import GoSem.ClaimMapViews
import Derived.JoinedTies
import Derived.KernelRfl
namespace Go.Proofs.YtfddchjmpmjcfaaGreat
/- THE CELL 'sum', in the pinned program and in every row, IS THE sha256 OF THE DUMP (.gsa) THAT YtfddchjmpmjcfaaGreatProg.lean LOADS. Nothing in Lean hashes anything: it is a label: what it is worth is what the hold of that sum in a sandbox is worth. -/
noncomputable def Tryz.pinned : Pinned := { name := "ytfddchjmpmjcfaagreat", sum := "37cb0c2ddfa577c48e75b7f03c51e3dea984ee1a4b0f3dc0e59b894c5a423f88", checked := Tryz.checked }
namespace Rows
def none {H : Type} : Left H := { results := [], args := [] }

/-- 'foliottop.TopHolds': WHATEVER THE INPUT: true; the input reads as it did. -/
def topHoldsSpec : ChangeSpec := { name := "topHolds", fn := fun _ => fun
  | [d1, d2] => { results := [.lit (.bool true)], args := [d1, d2] }
  | _ => none }
def topHoldsRow : OpenClaim := { program := "ytfddchjmpmjcfaagreat", sum := "37cb0c2ddfa577c48e75b7f03c51e3dea984ee1a4b0f3dc0e59b894c5a423f88", func := "foliot/foliottop.TopHolds", spec := "topHolds", inPlace := ["slices.overlaps[foliot/api.Task]", "slices.overlaps[foliot/api.Job]"], unfollowed := true, recurses := true, plainKeys := false, apart := false }
def TopHoldsSaid : Prop := topHoldsRow.holds Tryz.pinned (OpenSpec.ofChange topHoldsSpec)

/-- ITS FALSE NEIGHBOUR: 'it returns false'. Refute it at one input. -/
def topHoldsWrong : ChangeSpec := { name := "topHolds", fn := fun _ => fun
  | [d1, d2] => { results := [.lit (.bool false)], args := [d1, d2] }
  | _ => none }
def TopHoldsWrongFalsely : Prop := topHoldsRow.holds Tryz.pinned (OpenSpec.ofChange topHoldsWrong)

/-- 'foliottop.TopBlocks': WHATEVER THE INPUT: true; the input reads as it did. -/
def topBlocksSpec : ChangeSpec := { name := "topBlocks", fn := fun _ => fun
  | [d1, d2, d3] => { results := [.lit (.bool true)], args := [d1, d2, d3] }
  | _ => none }
def topBlocksRow : OpenClaim := { program := "ytfddchjmpmjcfaagreat", sum := "37cb0c2ddfa577c48e75b7f03c51e3dea984ee1a4b0f3dc0e59b894c5a423f88", func := "foliot/foliottop.TopBlocks", spec := "topBlocks", inPlace := ["slices.overlaps[foliot/api.Task]", "slices.overlaps[foliot/api.Job]"], unfollowed := true, recurses := true, plainKeys := false, apart := false }
def TopBlocksSaid : Prop := topBlocksRow.holds Tryz.pinned (OpenSpec.ofChange topBlocksSpec)

/-- ITS FALSE NEIGHBOUR: 'it returns false'. Refute it at one input. -/
def topBlocksWrong : ChangeSpec := { name := "topBlocks", fn := fun _ => fun
  | [d1, d2, d3] => { results := [.lit (.bool false)], args := [d1, d2, d3] }
  | _ => none }
def TopBlocksWrongFalsely : Prop := topBlocksRow.holds Tryz.pinned (OpenSpec.ofChange topBlocksWrong)

/-- 'foliottop.TopResp': WHATEVER THE INPUT: true; the input reads as it did. -/
def topRespSpec : ChangeSpec := { name := "topResp", fn := fun _ => fun
  | [d1, d2, d3] => { results := [.lit (.bool true)], args := [d1, d2, d3] }
  | _ => none }
def topRespRow : OpenClaim := { program := "ytfddchjmpmjcfaagreat", sum := "37cb0c2ddfa577c48e75b7f03c51e3dea984ee1a4b0f3dc0e59b894c5a423f88", func := "foliot/foliottop.TopResp", spec := "topResp", inPlace := ["slices.overlaps[foliot/api.Task]", "slices.overlaps[foliot/api.Job]"], unfollowed := true, recurses := true, plainKeys := false, apart := false }
def TopRespSaid : Prop := topRespRow.holds Tryz.pinned (OpenSpec.ofChange topRespSpec)

/-- ITS FALSE NEIGHBOUR: 'it returns false'. Refute it at one input. -/
def topRespWrong : ChangeSpec := { name := "topResp", fn := fun _ => fun
  | [d1, d2, d3] => { results := [.lit (.bool false)], args := [d1, d2, d3] }
  | _ => none }
def TopRespWrongFalsely : Prop := topRespRow.holds Tryz.pinned (OpenSpec.ofChange topRespWrong)

/-- 'foliottop.TopCosts': WHATEVER THE INPUT: true; the input reads as it did. -/
def topCostsSpec : ChangeSpec := { name := "topCosts", fn := fun _ => fun
  | [d1, d2] => { results := [.lit (.bool true)], args := [d1, d2] }
  | _ => none }
def topCostsRow : OpenClaim := { program := "ytfddchjmpmjcfaagreat", sum := "37cb0c2ddfa577c48e75b7f03c51e3dea984ee1a4b0f3dc0e59b894c5a423f88", func := "foliot/foliottop.TopCosts", spec := "topCosts", inPlace := ["slices.overlaps[foliot/api.Task]", "slices.overlaps[foliot/api.Job]"], unfollowed := true, recurses := true, plainKeys := false, apart := false }
def TopCostsSaid : Prop := topCostsRow.holds Tryz.pinned (OpenSpec.ofChange topCostsSpec)

/-- ITS FALSE NEIGHBOUR: 'it returns false'. Refute it at one input. -/
def topCostsWrong : ChangeSpec := { name := "topCosts", fn := fun _ => fun
  | [d1, d2] => { results := [.lit (.bool false)], args := [d1, d2] }
  | _ => none }
def TopCostsWrongFalsely : Prop := topCostsRow.holds Tryz.pinned (OpenSpec.ofChange topCostsWrong)

/-- 'foliottop.TopWays': WHATEVER THE INPUT: true; the input reads as it did. -/
def topWaysSpec : ChangeSpec := { name := "topWays", fn := fun _ => fun
  | [d1, d2, d3, d4] => { results := [.lit (.bool true)], args := [d1, d2, d3, d4] }
  | _ => none }
def topWaysRow : OpenClaim := { program := "ytfddchjmpmjcfaagreat", sum := "37cb0c2ddfa577c48e75b7f03c51e3dea984ee1a4b0f3dc0e59b894c5a423f88", func := "foliot/foliottop.TopWays", spec := "topWays", inPlace := ["slices.overlaps[foliot/api.Task]", "slices.overlaps[foliot/api.Job]"], unfollowed := true, recurses := true, plainKeys := false, apart := false }
def TopWaysSaid : Prop := topWaysRow.holds Tryz.pinned (OpenSpec.ofChange topWaysSpec)

/-- ITS FALSE NEIGHBOUR: 'it returns false'. Refute it at one input. -/
def topWaysWrong : ChangeSpec := { name := "topWays", fn := fun _ => fun
  | [d1, d2, d3, d4] => { results := [.lit (.bool false)], args := [d1, d2, d3, d4] }
  | _ => none }
def TopWaysWrongFalsely : Prop := topWaysRow.holds Tryz.pinned (OpenSpec.ofChange topWaysWrong)

/-- 'foliottop.TopMarks': WHATEVER THE INPUT: true; the input reads as it did. -/
def topMarksSpec : ChangeSpec := { name := "topMarks", fn := fun _ => fun
  | [d1, d2] => { results := [.lit (.bool true)], args := [d1, d2] }
  | _ => none }
def topMarksRow : OpenClaim := { program := "ytfddchjmpmjcfaagreat", sum := "37cb0c2ddfa577c48e75b7f03c51e3dea984ee1a4b0f3dc0e59b894c5a423f88", func := "foliot/foliottop.TopMarks", spec := "topMarks", inPlace := ["slices.overlaps[foliot/api.Task]", "slices.overlaps[foliot/api.Job]"], unfollowed := true, recurses := true, plainKeys := false, apart := false }
def TopMarksSaid : Prop := topMarksRow.holds Tryz.pinned (OpenSpec.ofChange topMarksSpec)

/-- ITS FALSE NEIGHBOUR: 'it returns false'. Refute it at one input. -/
def topMarksWrong : ChangeSpec := { name := "topMarks", fn := fun _ => fun
  | [d1, d2] => { results := [.lit (.bool false)], args := [d1, d2] }
  | _ => none }
def TopMarksWrongFalsely : Prop := topMarksRow.holds Tryz.pinned (OpenSpec.ofChange topMarksWrong)

/-- 'foliottop.TopStops': WHATEVER THE INPUT: true; the input reads as it did. -/
def topStopsSpec : ChangeSpec := { name := "topStops", fn := fun _ => fun
  | [d1, d2] => { results := [.lit (.bool true)], args := [d1, d2] }
  | _ => none }
def topStopsRow : OpenClaim := { program := "ytfddchjmpmjcfaagreat", sum := "37cb0c2ddfa577c48e75b7f03c51e3dea984ee1a4b0f3dc0e59b894c5a423f88", func := "foliot/foliottop.TopStops", spec := "topStops", inPlace := ["slices.overlaps[foliot/api.Task]", "slices.overlaps[foliot/api.Job]"], unfollowed := true, recurses := true, plainKeys := false, apart := false }
def TopStopsSaid : Prop := topStopsRow.holds Tryz.pinned (OpenSpec.ofChange topStopsSpec)

/-- ITS FALSE NEIGHBOUR: 'it returns false'. Refute it at one input. -/
def topStopsWrong : ChangeSpec := { name := "topStops", fn := fun _ => fun
  | [d1, d2] => { results := [.lit (.bool false)], args := [d1, d2] }
  | _ => none }
def TopStopsWrongFalsely : Prop := topStopsRow.holds Tryz.pinned (OpenSpec.ofChange topStopsWrong)

/-- 'foliottop.TopBetter': WHATEVER THE INPUT: true; the input reads as it did. -/
def topBetterSpec : ChangeSpec := { name := "topBetter", fn := fun _ => fun
  | [d1, d2] => { results := [.lit (.bool true)], args := [d1, d2] }
  | _ => none }
def topBetterRow : OpenClaim := { program := "ytfddchjmpmjcfaagreat", sum := "37cb0c2ddfa577c48e75b7f03c51e3dea984ee1a4b0f3dc0e59b894c5a423f88", func := "foliot/foliottop.TopBetter", spec := "topBetter", inPlace := ["slices.overlaps[foliot/api.Task]", "slices.overlaps[foliot/api.Job]"], unfollowed := true, recurses := true, plainKeys := false, apart := false }
def TopBetterSaid : Prop := topBetterRow.holds Tryz.pinned (OpenSpec.ofChange topBetterSpec)

/-- ITS FALSE NEIGHBOUR: 'it returns false'. Refute it at one input. -/
def topBetterWrong : ChangeSpec := { name := "topBetter", fn := fun _ => fun
  | [d1, d2] => { results := [.lit (.bool false)], args := [d1, d2] }
  | _ => none }
def TopBetterWrongFalsely : Prop := topBetterRow.holds Tryz.pinned (OpenSpec.ofChange topBetterWrong)

/-- 'foliottop.TopWaits': WHATEVER THE INPUT: true; the input reads as it did. -/
def topWaitsSpec : ChangeSpec := { name := "topWaits", fn := fun _ => fun
  | [d1, d2] => { results := [.lit (.bool true)], args := [d1, d2] }
  | _ => none }
def topWaitsRow : OpenClaim := { program := "ytfddchjmpmjcfaagreat", sum := "37cb0c2ddfa577c48e75b7f03c51e3dea984ee1a4b0f3dc0e59b894c5a423f88", func := "foliot/foliottop.TopWaits", spec := "topWaits", inPlace := ["slices.overlaps[foliot/api.Task]", "slices.overlaps[foliot/api.Job]"], unfollowed := true, recurses := true, plainKeys := false, apart := false }
def TopWaitsSaid : Prop := topWaitsRow.holds Tryz.pinned (OpenSpec.ofChange topWaitsSpec)

/-- ITS FALSE NEIGHBOUR: 'it returns false'. Refute it at one input. -/
def topWaitsWrong : ChangeSpec := { name := "topWaits", fn := fun _ => fun
  | [d1, d2] => { results := [.lit (.bool false)], args := [d1, d2] }
  | _ => none }
def TopWaitsWrongFalsely : Prop := topWaitsRow.holds Tryz.pinned (OpenSpec.ofChange topWaitsWrong)

/-- 'foliottop.TopFixed': WHATEVER THE INPUT: true; the input reads as it did. -/
def topFixedSpec : ChangeSpec := { name := "topFixed", fn := fun _ => fun
  | [d1, d2, d3] => { results := [.lit (.bool true)], args := [d1, d2, d3] }
  | _ => none }
def topFixedRow : OpenClaim := { program := "ytfddchjmpmjcfaagreat", sum := "37cb0c2ddfa577c48e75b7f03c51e3dea984ee1a4b0f3dc0e59b894c5a423f88", func := "foliot/foliottop.TopFixed", spec := "topFixed", inPlace := ["slices.overlaps[foliot/api.Task]", "slices.overlaps[foliot/api.Job]"], unfollowed := true, recurses := true, plainKeys := false, apart := false }
def TopFixedSaid : Prop := topFixedRow.holds Tryz.pinned (OpenSpec.ofChange topFixedSpec)

/-- ITS FALSE NEIGHBOUR: 'it returns false'. Refute it at one input. -/
def topFixedWrong : ChangeSpec := { name := "topFixed", fn := fun _ => fun
  | [d1, d2, d3] => { results := [.lit (.bool false)], args := [d1, d2, d3] }
  | _ => none }
def TopFixedWrongFalsely : Prop := topFixedRow.holds Tryz.pinned (OpenSpec.ofChange topFixedWrong)

/- THE SECOND FORM. 'bulk': how many values and letters a reading holds, each counted each time it is reached (what is shared counts as often as it is met; a slice's spare places count too). A statement '..UptoSaid' is the law's where the arguments, and the package variables that the reading takes, are together of bulk at most 1048576: NARROWER than '..Said'. Prove '..Said' where nothing that the law and all that it calls make is longer than what came in: it says more and counts as full. Else prove '..UptoSaid'. A law counts once. -/
mutual
def uptoBulk {H : Type} : DataW H → Nat
  | .lit (.string bytes) => bytes.length + 1
  | .lit _ => 1
  | .nil => 1
  | .ptr d => uptoBulk d + 1
  | .slice elems spare => uptoBulkAll elems + uptoBulkAll spare + 1
  | .agg parts => uptoBulkAll parts + 1
  | .iface _ d => uptoBulk d + 1
  | .map entries => uptoBulkEntries entries + 1
  | .held _ => 1
def uptoBulkAll {H : Type} : List (DataW H) → Nat
  | [] => 0
  | d :: r => uptoBulk d + uptoBulkAll r
def uptoBulkEntries {H : Type} : List (Lit × DataW H) → Nat
  | [] => 0
  | x :: r => uptoBulkEntry x + uptoBulkEntries r
def uptoBulkEntry {H : Type} : Lit × DataW H → Nat
  | (.string bytes, d) => bytes.length + uptoBulk d + 1
  | (_, d) => uptoBulk d + 1
 end
def uptoSmall : (H : Type) → List (DataW H) → Bool := fun _ ds => decide (uptoBulkAll ds ≤ 1048576)
def OpenSpec.upto (s : _root_.Go.ChangeSpec) : _root_.Go.OpenSpec := { _root_.Go.OpenSpec.ofChange s with cond := some uptoSmall }

/-- 'foliottop.TopHolds', WHERE WHAT IT READS IS OF BULK AT MOST 1048576: true; the input reads as it did. -/
def topHoldsUptoRow : OpenClaim := { program := "ytfddchjmpmjcfaagreat", sum := "37cb0c2ddfa577c48e75b7f03c51e3dea984ee1a4b0f3dc0e59b894c5a423f88", func := "foliot/foliottop.TopHolds", spec := "topHolds", inPlace := ["slices.overlaps[foliot/api.Task]", "slices.overlaps[foliot/api.Job]"], unfollowed := true, recurses := true, plainKeys := false, apart := false, narrowed := true }
def TopHoldsUptoSaid : Prop := topHoldsUptoRow.holds Tryz.pinned (OpenSpec.upto topHoldsSpec)

/-- 'foliottop.TopBlocks', WHERE WHAT IT READS IS OF BULK AT MOST 1048576: true; the input reads as it did. -/
def topBlocksUptoRow : OpenClaim := { program := "ytfddchjmpmjcfaagreat", sum := "37cb0c2ddfa577c48e75b7f03c51e3dea984ee1a4b0f3dc0e59b894c5a423f88", func := "foliot/foliottop.TopBlocks", spec := "topBlocks", inPlace := ["slices.overlaps[foliot/api.Task]", "slices.overlaps[foliot/api.Job]"], unfollowed := true, recurses := true, plainKeys := false, apart := false, narrowed := true }
def TopBlocksUptoSaid : Prop := topBlocksUptoRow.holds Tryz.pinned (OpenSpec.upto topBlocksSpec)

/-- 'foliottop.TopResp', WHERE WHAT IT READS IS OF BULK AT MOST 1048576: true; the input reads as it did. -/
def topRespUptoRow : OpenClaim := { program := "ytfddchjmpmjcfaagreat", sum := "37cb0c2ddfa577c48e75b7f03c51e3dea984ee1a4b0f3dc0e59b894c5a423f88", func := "foliot/foliottop.TopResp", spec := "topResp", inPlace := ["slices.overlaps[foliot/api.Task]", "slices.overlaps[foliot/api.Job]"], unfollowed := true, recurses := true, plainKeys := false, apart := false, narrowed := true }
def TopRespUptoSaid : Prop := topRespUptoRow.holds Tryz.pinned (OpenSpec.upto topRespSpec)

/-- 'foliottop.TopCosts', WHERE WHAT IT READS IS OF BULK AT MOST 1048576: true; the input reads as it did. -/
def topCostsUptoRow : OpenClaim := { program := "ytfddchjmpmjcfaagreat", sum := "37cb0c2ddfa577c48e75b7f03c51e3dea984ee1a4b0f3dc0e59b894c5a423f88", func := "foliot/foliottop.TopCosts", spec := "topCosts", inPlace := ["slices.overlaps[foliot/api.Task]", "slices.overlaps[foliot/api.Job]"], unfollowed := true, recurses := true, plainKeys := false, apart := false, narrowed := true }
def TopCostsUptoSaid : Prop := topCostsUptoRow.holds Tryz.pinned (OpenSpec.upto topCostsSpec)

/-- 'foliottop.TopWays', WHERE WHAT IT READS IS OF BULK AT MOST 1048576: true; the input reads as it did. -/
def topWaysUptoRow : OpenClaim := { program := "ytfddchjmpmjcfaagreat", sum := "37cb0c2ddfa577c48e75b7f03c51e3dea984ee1a4b0f3dc0e59b894c5a423f88", func := "foliot/foliottop.TopWays", spec := "topWays", inPlace := ["slices.overlaps[foliot/api.Task]", "slices.overlaps[foliot/api.Job]"], unfollowed := true, recurses := true, plainKeys := false, apart := false, narrowed := true }
def TopWaysUptoSaid : Prop := topWaysUptoRow.holds Tryz.pinned (OpenSpec.upto topWaysSpec)

/-- 'foliottop.TopMarks', WHERE WHAT IT READS IS OF BULK AT MOST 1048576: true; the input reads as it did. -/
def topMarksUptoRow : OpenClaim := { program := "ytfddchjmpmjcfaagreat", sum := "37cb0c2ddfa577c48e75b7f03c51e3dea984ee1a4b0f3dc0e59b894c5a423f88", func := "foliot/foliottop.TopMarks", spec := "topMarks", inPlace := ["slices.overlaps[foliot/api.Task]", "slices.overlaps[foliot/api.Job]"], unfollowed := true, recurses := true, plainKeys := false, apart := false, narrowed := true }
def TopMarksUptoSaid : Prop := topMarksUptoRow.holds Tryz.pinned (OpenSpec.upto topMarksSpec)

/-- 'foliottop.TopStops', WHERE WHAT IT READS IS OF BULK AT MOST 1048576: true; the input reads as it did. -/
def topStopsUptoRow : OpenClaim := { program := "ytfddchjmpmjcfaagreat", sum := "37cb0c2ddfa577c48e75b7f03c51e3dea984ee1a4b0f3dc0e59b894c5a423f88", func := "foliot/foliottop.TopStops", spec := "topStops", inPlace := ["slices.overlaps[foliot/api.Task]", "slices.overlaps[foliot/api.Job]"], unfollowed := true, recurses := true, plainKeys := false, apart := false, narrowed := true }
def TopStopsUptoSaid : Prop := topStopsUptoRow.holds Tryz.pinned (OpenSpec.upto topStopsSpec)

/-- 'foliottop.TopBetter', WHERE WHAT IT READS IS OF BULK AT MOST 1048576: true; the input reads as it did. -/
def topBetterUptoRow : OpenClaim := { program := "ytfddchjmpmjcfaagreat", sum := "37cb0c2ddfa577c48e75b7f03c51e3dea984ee1a4b0f3dc0e59b894c5a423f88", func := "foliot/foliottop.TopBetter", spec := "topBetter", inPlace := ["slices.overlaps[foliot/api.Task]", "slices.overlaps[foliot/api.Job]"], unfollowed := true, recurses := true, plainKeys := false, apart := false, narrowed := true }
def TopBetterUptoSaid : Prop := topBetterUptoRow.holds Tryz.pinned (OpenSpec.upto topBetterSpec)

/-- 'foliottop.TopWaits', WHERE WHAT IT READS IS OF BULK AT MOST 1048576: true; the input reads as it did. -/
def topWaitsUptoRow : OpenClaim := { program := "ytfddchjmpmjcfaagreat", sum := "37cb0c2ddfa577c48e75b7f03c51e3dea984ee1a4b0f3dc0e59b894c5a423f88", func := "foliot/foliottop.TopWaits", spec := "topWaits", inPlace := ["slices.overlaps[foliot/api.Task]", "slices.overlaps[foliot/api.Job]"], unfollowed := true, recurses := true, plainKeys := false, apart := false, narrowed := true }
def TopWaitsUptoSaid : Prop := topWaitsUptoRow.holds Tryz.pinned (OpenSpec.upto topWaitsSpec)

/-- 'foliottop.TopFixed', WHERE WHAT IT READS IS OF BULK AT MOST 1048576: true; the input reads as it did. -/
def topFixedUptoRow : OpenClaim := { program := "ytfddchjmpmjcfaagreat", sum := "37cb0c2ddfa577c48e75b7f03c51e3dea984ee1a4b0f3dc0e59b894c5a423f88", func := "foliot/foliottop.TopFixed", spec := "topFixed", inPlace := ["slices.overlaps[foliot/api.Task]", "slices.overlaps[foliot/api.Job]"], unfollowed := true, recurses := true, plainKeys := false, apart := false, narrowed := true }
def TopFixedUptoSaid : Prop := topFixedUptoRow.holds Tryz.pinned (OpenSpec.upto topFixedSpec)

end Rows
end Go.Proofs.YtfddchjmpmjcfaaGreat
