/-
  No cell of these rows narrows 'for every input' (looked for: loops, veiled, ifaces, maps, wideKeys, modest, calm, conditions, laid).
  DERIVED. THE GIVEN ROWS OF THIS SEAT. 11 by the template 'for every input the law returns true; each argument reads behind the call as it read before'; 0 by the template 'total and deterministic' (their statements: YtpdanhecaalfbaaTotals.lean).
  GIVEN WITH THE SEED: the statements are not yours to turn. If you find one false, say at which input.
  Laid BY PROGRAM, IN A SANDBOX (cutbox-rows.mjs): the forced cells as the released guide's own fill.sh prints them over the translation cfc8a5346fe317b6… (all of the seat's roots in one cut). By AI agents, Wed Nov 11 2026. No macro, syntax, notation, axiom, sorry.
-/
import Derived.Test.YtpdanhecaalfbaaChecked
import GoSem.Claim
import GoSem.ClaimJoined
import GoSem.ClaimMapViews
import Derived.JoinedTies
import Derived.KernelRfl
namespace Go.Proofs.Ytpdanhecaalfbaa
/- THE CELL 'sum', in the pinned program and in every row, IS THE sha256 OF THE DUMP (.gsa) THAT YtpdanhecaalfbaaProg.lean LOADS. Nothing in Lean hashes anything: it is a label: what it is worth is what the hold of that sum in a sandbox is worth. -/
noncomputable def Try.pinned : Pinned := { name := "ytpdanhecaalfbaa", sum := "cfc8a5346fe317b680b9941a89e973db734fdbd432b996e4c0278f229c0deefc", checked := Try.checked }
namespace Rows
def none {H : Type} : Left H := { results := [], args := [] }

/-- 'foliotlaw23.WatchAll': WHATEVER THE INPUT: true; the input reads as it did. -/
def watchAllSpec : ChangeSpec := { name := "watchAll", fn := fun _ => fun
  | [d1, d2, d3] => { results := [.lit (.bool true)], args := [d1, d2, d3] }
  | _ => none }
def watchAllRow : OpenClaim := { program := "ytpdanhecaalfbaa", sum := "cfc8a5346fe317b680b9941a89e973db734fdbd432b996e4c0278f229c0deefc", func := "foliot/foliotlaw23.WatchAll", spec := "watchAll", plainKeys := false, apart := false }
def WatchAllSaid : Prop := watchAllRow.holds Try.pinned (OpenSpec.ofChange watchAllSpec)

/-- ITS FALSE NEIGHBOUR: 'it returns false'. Refute it at one input. -/
def watchAllWrong : ChangeSpec := { name := "watchAll", fn := fun _ => fun
  | [d1, d2, d3] => { results := [.lit (.bool false)], args := [d1, d2, d3] }
  | _ => none }
def WatchAllWrongFalsely : Prop := watchAllRow.holds Try.pinned (OpenSpec.ofChange watchAllWrong)

/-- 'foliotlaw23.WatchStops': WHATEVER THE INPUT: true; the input reads as it did. -/
def watchStopsSpec : ChangeSpec := { name := "watchStops", fn := fun _ => fun
  | [d1, d2] => { results := [.lit (.bool true)], args := [d1, d2] }
  | _ => none }
def watchStopsRow : OpenClaim := { program := "ytpdanhecaalfbaa", sum := "cfc8a5346fe317b680b9941a89e973db734fdbd432b996e4c0278f229c0deefc", func := "foliot/foliotlaw23.WatchStops", spec := "watchStops", plainKeys := false, apart := false }
def WatchStopsSaid : Prop := watchStopsRow.holds Try.pinned (OpenSpec.ofChange watchStopsSpec)

/-- ITS FALSE NEIGHBOUR: 'it returns false'. Refute it at one input. -/
def watchStopsWrong : ChangeSpec := { name := "watchStops", fn := fun _ => fun
  | [d1, d2] => { results := [.lit (.bool false)], args := [d1, d2] }
  | _ => none }
def WatchStopsWrongFalsely : Prop := watchStopsRow.holds Try.pinned (OpenSpec.ofChange watchStopsWrong)

/-- 'foliotlaw23.WatchForms': WHATEVER THE INPUT: true; the input reads as it did. -/
def watchFormsSpec : ChangeSpec := { name := "watchForms", fn := fun _ => fun
  | [] => { results := [.lit (.bool true)], args := [] }
  | _ => none }
def watchFormsRow : OpenClaim := { program := "ytpdanhecaalfbaa", sum := "cfc8a5346fe317b680b9941a89e973db734fdbd432b996e4c0278f229c0deefc", func := "foliot/foliotlaw23.WatchForms", spec := "watchForms", plainKeys := false, apart := false }
def WatchFormsSaid : Prop := watchFormsRow.holds Try.pinned (OpenSpec.ofChange watchFormsSpec)

/-- ITS FALSE NEIGHBOUR: 'it returns false'. Refute it at one input. -/
def watchFormsWrong : ChangeSpec := { name := "watchForms", fn := fun _ => fun
  | [] => { results := [.lit (.bool false)], args := [] }
  | _ => none }
def WatchFormsWrongFalsely : Prop := watchFormsRow.holds Try.pinned (OpenSpec.ofChange watchFormsWrong)

/-- 'foliotlaw11.SemaAll': WHATEVER THE INPUT: true; the input reads as it did. -/
def semaAllSpec : ChangeSpec := { name := "semaAll", fn := fun _ => fun
  | [d1, d2, d3, d4] => { results := [.lit (.bool true)], args := [d1, d2, d3, d4] }
  | _ => none }
def semaAllRow : OpenClaim := { program := "ytpdanhecaalfbaa", sum := "cfc8a5346fe317b680b9941a89e973db734fdbd432b996e4c0278f229c0deefc", func := "foliot/foliotlaw11.SemaAll", spec := "semaAll", plainKeys := false, apart := false }
def SemaAllSaid : Prop := semaAllRow.holds Try.pinned (OpenSpec.ofChange semaAllSpec)

/-- ITS FALSE NEIGHBOUR: 'it returns false'. Refute it at one input. -/
def semaAllWrong : ChangeSpec := { name := "semaAll", fn := fun _ => fun
  | [d1, d2, d3, d4] => { results := [.lit (.bool false)], args := [d1, d2, d3, d4] }
  | _ => none }
def SemaAllWrongFalsely : Prop := semaAllRow.holds Try.pinned (OpenSpec.ofChange semaAllWrong)

/-- 'foliotlaw11.SemaOne': WHATEVER THE INPUT: true; the input reads as it did. -/
def semaOneSpec : ChangeSpec := { name := "semaOne", fn := fun _ => fun
  | [d] => { results := [.lit (.bool true)], args := [d] }
  | _ => none }
def semaOneRow : OpenClaim := { program := "ytpdanhecaalfbaa", sum := "cfc8a5346fe317b680b9941a89e973db734fdbd432b996e4c0278f229c0deefc", func := "foliot/foliotlaw11.SemaOne", spec := "semaOne", plainKeys := false, apart := false }
def SemaOneSaid : Prop := semaOneRow.holds Try.pinned (OpenSpec.ofChange semaOneSpec)

/-- ITS FALSE NEIGHBOUR: 'it returns false'. Refute it at one input. -/
def semaOneWrong : ChangeSpec := { name := "semaOne", fn := fun _ => fun
  | [d] => { results := [.lit (.bool false)], args := [d] }
  | _ => none }
def SemaOneWrongFalsely : Prop := semaOneRow.holds Try.pinned (OpenSpec.ofChange semaOneWrong)

/-- 'foliotlaw11.SemaForms': WHATEVER THE INPUT: true; the input reads as it did. -/
def semaFormsSpec : ChangeSpec := { name := "semaForms", fn := fun _ => fun
  | [] => { results := [.lit (.bool true)], args := [] }
  | _ => none }
def semaFormsRow : OpenClaim := { program := "ytpdanhecaalfbaa", sum := "cfc8a5346fe317b680b9941a89e973db734fdbd432b996e4c0278f229c0deefc", func := "foliot/foliotlaw11.SemaForms", spec := "semaForms", plainKeys := false, apart := false }
def SemaFormsSaid : Prop := semaFormsRow.holds Try.pinned (OpenSpec.ofChange semaFormsSpec)

/-- ITS FALSE NEIGHBOUR: 'it returns false'. Refute it at one input. -/
def semaFormsWrong : ChangeSpec := { name := "semaForms", fn := fun _ => fun
  | [] => { results := [.lit (.bool false)], args := [] }
  | _ => none }
def SemaFormsWrongFalsely : Prop := semaFormsRow.holds Try.pinned (OpenSpec.ofChange semaFormsWrong)

/-- 'foliotlaw11.SemaLow': WHATEVER THE INPUT: true; the input reads as it did. -/
def semaLowSpec : ChangeSpec := { name := "semaLow", fn := fun _ => fun
  | [d1, d2, d3, d4] => { results := [.lit (.bool true)], args := [d1, d2, d3, d4] }
  | _ => none }
def semaLowRow : OpenClaim := { program := "ytpdanhecaalfbaa", sum := "cfc8a5346fe317b680b9941a89e973db734fdbd432b996e4c0278f229c0deefc", func := "foliot/foliotlaw11.SemaLow", spec := "semaLow", plainKeys := false, apart := false }
def SemaLowSaid : Prop := semaLowRow.holds Try.pinned (OpenSpec.ofChange semaLowSpec)

/-- ITS FALSE NEIGHBOUR: 'it returns false'. Refute it at one input. -/
def semaLowWrong : ChangeSpec := { name := "semaLow", fn := fun _ => fun
  | [d1, d2, d3, d4] => { results := [.lit (.bool false)], args := [d1, d2, d3, d4] }
  | _ => none }
def SemaLowWrongFalsely : Prop := semaLowRow.holds Try.pinned (OpenSpec.ofChange semaLowWrong)

/-- 'foliotlaw12.MboxAll': WHATEVER THE INPUT: true; the input reads as it did. -/
def mboxAllSpec : ChangeSpec := { name := "mboxAll", fn := fun _ => fun
  | [d1, d2, d3] => { results := [.lit (.bool true)], args := [d1, d2, d3] }
  | _ => none }
def mboxAllRow : OpenClaim := { program := "ytpdanhecaalfbaa", sum := "cfc8a5346fe317b680b9941a89e973db734fdbd432b996e4c0278f229c0deefc", func := "foliot/foliotlaw12.MboxAll", spec := "mboxAll", plainKeys := false, apart := false }
def MboxAllSaid : Prop := mboxAllRow.holds Try.pinned (OpenSpec.ofChange mboxAllSpec)

/-- ITS FALSE NEIGHBOUR: 'it returns false'. Refute it at one input. -/
def mboxAllWrong : ChangeSpec := { name := "mboxAll", fn := fun _ => fun
  | [d1, d2, d3] => { results := [.lit (.bool false)], args := [d1, d2, d3] }
  | _ => none }
def MboxAllWrongFalsely : Prop := mboxAllRow.holds Try.pinned (OpenSpec.ofChange mboxAllWrong)

/-- 'foliotlaw12.MboxOrder': WHATEVER THE INPUT: true; the input reads as it did. -/
def mboxOrderSpec : ChangeSpec := { name := "mboxOrder", fn := fun _ => fun
  | [d] => { results := [.lit (.bool true)], args := [d] }
  | _ => none }
def mboxOrderRow : OpenClaim := { program := "ytpdanhecaalfbaa", sum := "cfc8a5346fe317b680b9941a89e973db734fdbd432b996e4c0278f229c0deefc", func := "foliot/foliotlaw12.MboxOrder", spec := "mboxOrder", plainKeys := false, apart := false }
def MboxOrderSaid : Prop := mboxOrderRow.holds Try.pinned (OpenSpec.ofChange mboxOrderSpec)

/-- ITS FALSE NEIGHBOUR: 'it returns false'. Refute it at one input. -/
def mboxOrderWrong : ChangeSpec := { name := "mboxOrder", fn := fun _ => fun
  | [d] => { results := [.lit (.bool false)], args := [d] }
  | _ => none }
def MboxOrderWrongFalsely : Prop := mboxOrderRow.holds Try.pinned (OpenSpec.ofChange mboxOrderWrong)

/-- 'foliotlaw12.MboxForms': WHATEVER THE INPUT: true; the input reads as it did. -/
def mboxFormsSpec : ChangeSpec := { name := "mboxForms", fn := fun _ => fun
  | [] => { results := [.lit (.bool true)], args := [] }
  | _ => none }
def mboxFormsRow : OpenClaim := { program := "ytpdanhecaalfbaa", sum := "cfc8a5346fe317b680b9941a89e973db734fdbd432b996e4c0278f229c0deefc", func := "foliot/foliotlaw12.MboxForms", spec := "mboxForms", plainKeys := false, apart := false }
def MboxFormsSaid : Prop := mboxFormsRow.holds Try.pinned (OpenSpec.ofChange mboxFormsSpec)

/-- ITS FALSE NEIGHBOUR: 'it returns false'. Refute it at one input. -/
def mboxFormsWrong : ChangeSpec := { name := "mboxForms", fn := fun _ => fun
  | [] => { results := [.lit (.bool false)], args := [] }
  | _ => none }
def MboxFormsWrongFalsely : Prop := mboxFormsRow.holds Try.pinned (OpenSpec.ofChange mboxFormsWrong)

/-- 'foliotlaw12.MboxWaits': WHATEVER THE INPUT: true; the input reads as it did. -/
def mboxWaitsSpec : ChangeSpec := { name := "mboxWaits", fn := fun _ => fun
  | [d1, d2] => { results := [.lit (.bool true)], args := [d1, d2] }
  | _ => none }
def mboxWaitsRow : OpenClaim := { program := "ytpdanhecaalfbaa", sum := "cfc8a5346fe317b680b9941a89e973db734fdbd432b996e4c0278f229c0deefc", func := "foliot/foliotlaw12.MboxWaits", spec := "mboxWaits", plainKeys := false, apart := false }
def MboxWaitsSaid : Prop := mboxWaitsRow.holds Try.pinned (OpenSpec.ofChange mboxWaitsSpec)

/-- ITS FALSE NEIGHBOUR: 'it returns false'. Refute it at one input. -/
def mboxWaitsWrong : ChangeSpec := { name := "mboxWaits", fn := fun _ => fun
  | [d1, d2] => { results := [.lit (.bool false)], args := [d1, d2] }
  | _ => none }
def MboxWaitsWrongFalsely : Prop := mboxWaitsRow.holds Try.pinned (OpenSpec.ofChange mboxWaitsWrong)

/- THE SECOND FORM. 'bulk': how many values and letters a reading holds, each counted each time it is reached (what is shared counts as often as it is met; a slice's spare places count too). A statement '..UptoSaid' is the law's where the arguments, and the package variables that the reading takes, are together of bulk at most 1048576: NARROWER than '..Said'. Prove '..Said' where nothing that the law and all that it calls make is longer than what came in: it says more and counts as full. Else prove '..UptoSaid'. A law counts once. -/
mutual
def uptoBulk {H : Type} : DataW H → Nat
  | .lit (.string bytes) => bytes.length + 1
  | .lit _ => 1
  | .nil => 1
  | .ptr d => uptoBulk d + 1
  | .slice elems spare => uptoBulkAll elems + uptoBulkAll spare + 1
  | .agg parts => uptoBulkAll parts + 1
  | .iface _ d => uptoBulk d + 1
  | .map entries => uptoBulkEntries entries + 1
  | .held _ => 1
def uptoBulkAll {H : Type} : List (DataW H) → Nat
  | [] => 0
  | d :: r => uptoBulk d + uptoBulkAll r
def uptoBulkEntries {H : Type} : List (Lit × DataW H) → Nat
  | [] => 0
  | x :: r => uptoBulkEntry x + uptoBulkEntries r
def uptoBulkEntry {H : Type} : Lit × DataW H → Nat
  | (.string bytes, d) => bytes.length + uptoBulk d + 1
  | (_, d) => uptoBulk d + 1
 end
def uptoSmall : (H : Type) → List (DataW H) → Bool := fun _ ds => decide (uptoBulkAll ds ≤ 1048576)
def OpenSpec.upto (s : _root_.Go.ChangeSpec) : _root_.Go.OpenSpec := { _root_.Go.OpenSpec.ofChange s with cond := some uptoSmall }

/-- 'foliotlaw23.WatchAll', WHERE WHAT IT READS IS OF BULK AT MOST 1048576: true; the input reads as it did. -/
def watchAllUptoRow : OpenClaim := { program := "ytpdanhecaalfbaa", sum := "cfc8a5346fe317b680b9941a89e973db734fdbd432b996e4c0278f229c0deefc", func := "foliot/foliotlaw23.WatchAll", spec := "watchAll", plainKeys := false, apart := false, narrowed := true }
def WatchAllUptoSaid : Prop := watchAllUptoRow.holds Try.pinned (OpenSpec.upto watchAllSpec)

/-- 'foliotlaw23.WatchStops', WHERE WHAT IT READS IS OF BULK AT MOST 1048576: true; the input reads as it did. -/
def watchStopsUptoRow : OpenClaim := { program := "ytpdanhecaalfbaa", sum := "cfc8a5346fe317b680b9941a89e973db734fdbd432b996e4c0278f229c0deefc", func := "foliot/foliotlaw23.WatchStops", spec := "watchStops", plainKeys := false, apart := false, narrowed := true }
def WatchStopsUptoSaid : Prop := watchStopsUptoRow.holds Try.pinned (OpenSpec.upto watchStopsSpec)

/-- 'foliotlaw23.WatchForms', WHERE WHAT IT READS IS OF BULK AT MOST 1048576: true; the input reads as it did. -/
def watchFormsUptoRow : OpenClaim := { program := "ytpdanhecaalfbaa", sum := "cfc8a5346fe317b680b9941a89e973db734fdbd432b996e4c0278f229c0deefc", func := "foliot/foliotlaw23.WatchForms", spec := "watchForms", plainKeys := false, apart := false, narrowed := true }
def WatchFormsUptoSaid : Prop := watchFormsUptoRow.holds Try.pinned (OpenSpec.upto watchFormsSpec)

/-- 'foliotlaw11.SemaAll', WHERE WHAT IT READS IS OF BULK AT MOST 1048576: true; the input reads as it did. -/
def semaAllUptoRow : OpenClaim := { program := "ytpdanhecaalfbaa", sum := "cfc8a5346fe317b680b9941a89e973db734fdbd432b996e4c0278f229c0deefc", func := "foliot/foliotlaw11.SemaAll", spec := "semaAll", plainKeys := false, apart := false, narrowed := true }
def SemaAllUptoSaid : Prop := semaAllUptoRow.holds Try.pinned (OpenSpec.upto semaAllSpec)

/-- 'foliotlaw11.SemaOne', WHERE WHAT IT READS IS OF BULK AT MOST 1048576: true; the input reads as it did. -/
def semaOneUptoRow : OpenClaim := { program := "ytpdanhecaalfbaa", sum := "cfc8a5346fe317b680b9941a89e973db734fdbd432b996e4c0278f229c0deefc", func := "foliot/foliotlaw11.SemaOne", spec := "semaOne", plainKeys := false, apart := false, narrowed := true }
def SemaOneUptoSaid : Prop := semaOneUptoRow.holds Try.pinned (OpenSpec.upto semaOneSpec)

/-- 'foliotlaw11.SemaForms', WHERE WHAT IT READS IS OF BULK AT MOST 1048576: true; the input reads as it did. -/
def semaFormsUptoRow : OpenClaim := { program := "ytpdanhecaalfbaa", sum := "cfc8a5346fe317b680b9941a89e973db734fdbd432b996e4c0278f229c0deefc", func := "foliot/foliotlaw11.SemaForms", spec := "semaForms", plainKeys := false, apart := false, narrowed := true }
def SemaFormsUptoSaid : Prop := semaFormsUptoRow.holds Try.pinned (OpenSpec.upto semaFormsSpec)

/-- 'foliotlaw11.SemaLow', WHERE WHAT IT READS IS OF BULK AT MOST 1048576: true; the input reads as it did. -/
def semaLowUptoRow : OpenClaim := { program := "ytpdanhecaalfbaa", sum := "cfc8a5346fe317b680b9941a89e973db734fdbd432b996e4c0278f229c0deefc", func := "foliot/foliotlaw11.SemaLow", spec := "semaLow", plainKeys := false, apart := false, narrowed := true }
def SemaLowUptoSaid : Prop := semaLowUptoRow.holds Try.pinned (OpenSpec.upto semaLowSpec)

/-- 'foliotlaw12.MboxAll', WHERE WHAT IT READS IS OF BULK AT MOST 1048576: true; the input reads as it did. -/
def mboxAllUptoRow : OpenClaim := { program := "ytpdanhecaalfbaa", sum := "cfc8a5346fe317b680b9941a89e973db734fdbd432b996e4c0278f229c0deefc", func := "foliot/foliotlaw12.MboxAll", spec := "mboxAll", plainKeys := false, apart := false, narrowed := true }
def MboxAllUptoSaid : Prop := mboxAllUptoRow.holds Try.pinned (OpenSpec.upto mboxAllSpec)

/-- 'foliotlaw12.MboxOrder', WHERE WHAT IT READS IS OF BULK AT MOST 1048576: true; the input reads as it did. -/
def mboxOrderUptoRow : OpenClaim := { program := "ytpdanhecaalfbaa", sum := "cfc8a5346fe317b680b9941a89e973db734fdbd432b996e4c0278f229c0deefc", func := "foliot/foliotlaw12.MboxOrder", spec := "mboxOrder", plainKeys := false, apart := false, narrowed := true }
def MboxOrderUptoSaid : Prop := mboxOrderUptoRow.holds Try.pinned (OpenSpec.upto mboxOrderSpec)

/-- 'foliotlaw12.MboxForms', WHERE WHAT IT READS IS OF BULK AT MOST 1048576: true; the input reads as it did. -/
def mboxFormsUptoRow : OpenClaim := { program := "ytpdanhecaalfbaa", sum := "cfc8a5346fe317b680b9941a89e973db734fdbd432b996e4c0278f229c0deefc", func := "foliot/foliotlaw12.MboxForms", spec := "mboxForms", plainKeys := false, apart := false, narrowed := true }
def MboxFormsUptoSaid : Prop := mboxFormsUptoRow.holds Try.pinned (OpenSpec.upto mboxFormsSpec)

/-- 'foliotlaw12.MboxWaits', WHERE WHAT IT READS IS OF BULK AT MOST 1048576: true; the input reads as it did. -/
def mboxWaitsUptoRow : OpenClaim := { program := "ytpdanhecaalfbaa", sum := "cfc8a5346fe317b680b9941a89e973db734fdbd432b996e4c0278f229c0deefc", func := "foliot/foliotlaw12.MboxWaits", spec := "mboxWaits", plainKeys := false, apart := false, narrowed := true }
def MboxWaitsUptoSaid : Prop := mboxWaitsUptoRow.holds Try.pinned (OpenSpec.upto mboxWaitsSpec)

end Rows
end Go.Proofs.Ytpdanhecaalfbaa
