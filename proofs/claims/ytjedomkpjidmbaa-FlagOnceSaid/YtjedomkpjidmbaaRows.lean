/-
  No cell of these rows narrows 'for every input' (looked for: loops, veiled, ifaces, maps, wideKeys, modest, calm, conditions, laid).
  DERIVED. THE GIVEN ROWS OF THIS SEAT. 11 by the template 'for every input the law returns true; each argument reads behind the call as it read before'; 0 by the template 'total and deterministic' (their statements: YtjedomkpjidmbaaTotals.lean).
  GIVEN WITH THE SEED: the statements are not yours to turn. If you find one false, say at which input.
  Laid BY PROGRAM, IN A SANDBOX (cutbox-rows.mjs): the forced cells as the released guide's own fill.sh prints them over the translation 8b5b4a41fa5ccc2b… (all of the seat's roots in one cut). By AI agents, Wed Nov 11 2026. No macro, syntax, notation, axiom, sorry.
-/
import Derived.Test.YtjedomkpjidmbaaChecked
import GoSem.Claim
import GoSem.ClaimJoined
import GoSem.ClaimMapViews
import Derived.JoinedTies
import Derived.KernelRfl
namespace Go.Proofs.Ytjedomkpjidmbaa
/- THE CELL 'sum', in the pinned program and in every row, IS THE sha256 OF THE DUMP (.gsa) THAT YtjedomkpjidmbaaProg.lean LOADS. Nothing in Lean hashes anything: it is a label: what it is worth is what the hold of that sum in a sandbox is worth. -/
noncomputable def Try.pinned : Pinned := { name := "ytjedomkpjidmbaa", sum := "8b5b4a41fa5ccc2b0ebf017283f121636182b592defc012d6a42c8699b95ed75", checked := Try.checked }
namespace Rows
def none {H : Type} : Left H := { results := [], args := [] }

/-- 'foliotlaw13.FlagAll': WHATEVER THE INPUT: true; the input reads as it did. -/
def flagAllSpec : ChangeSpec := { name := "flagAll", fn := fun _ => fun
  | [d1, d2, d3] => { results := [.lit (.bool true)], args := [d1, d2, d3] }
  | _ => none }
def flagAllRow : OpenClaim := { program := "ytjedomkpjidmbaa", sum := "8b5b4a41fa5ccc2b0ebf017283f121636182b592defc012d6a42c8699b95ed75", func := "foliot/foliotlaw13.FlagAll", spec := "flagAll", unfollowed := true, recurses := true, apart := false }
def FlagAllSaid : Prop := flagAllRow.holds Try.pinned (OpenSpec.ofChange flagAllSpec)

/-- ITS FALSE NEIGHBOUR: 'it returns false'. Refute it at one input. -/
def flagAllWrong : ChangeSpec := { name := "flagAll", fn := fun _ => fun
  | [d1, d2, d3] => { results := [.lit (.bool false)], args := [d1, d2, d3] }
  | _ => none }
def FlagAllWrongFalsely : Prop := flagAllRow.holds Try.pinned (OpenSpec.ofChange flagAllWrong)

/-- 'foliotlaw13.FlagOnce': WHATEVER THE INPUT: true; the input reads as it did. -/
def flagOnceSpec : ChangeSpec := { name := "flagOnce", fn := fun _ => fun
  | [d] => { results := [.lit (.bool true)], args := [d] }
  | _ => none }
def flagOnceRow : OpenClaim := { program := "ytjedomkpjidmbaa", sum := "8b5b4a41fa5ccc2b0ebf017283f121636182b592defc012d6a42c8699b95ed75", func := "foliot/foliotlaw13.FlagOnce", spec := "flagOnce", unfollowed := true, recurses := true, apart := false }
def FlagOnceSaid : Prop := flagOnceRow.holds Try.pinned (OpenSpec.ofChange flagOnceSpec)

/-- ITS FALSE NEIGHBOUR: 'it returns false'. Refute it at one input. -/
def flagOnceWrong : ChangeSpec := { name := "flagOnce", fn := fun _ => fun
  | [d] => { results := [.lit (.bool false)], args := [d] }
  | _ => none }
def FlagOnceWrongFalsely : Prop := flagOnceRow.holds Try.pinned (OpenSpec.ofChange flagOnceWrong)

/-- 'foliotlaw13.FlagForms': WHATEVER THE INPUT: true; the input reads as it did. -/
def flagFormsSpec : ChangeSpec := { name := "flagForms", fn := fun _ => fun
  | [] => { results := [.lit (.bool true)], args := [] }
  | _ => none }
def flagFormsRow : OpenClaim := { program := "ytjedomkpjidmbaa", sum := "8b5b4a41fa5ccc2b0ebf017283f121636182b592defc012d6a42c8699b95ed75", func := "foliot/foliotlaw13.FlagForms", spec := "flagForms", unfollowed := true, recurses := true, apart := false }
def FlagFormsSaid : Prop := flagFormsRow.holds Try.pinned (OpenSpec.ofChange flagFormsSpec)

/-- ITS FALSE NEIGHBOUR: 'it returns false'. Refute it at one input. -/
def flagFormsWrong : ChangeSpec := { name := "flagForms", fn := fun _ => fun
  | [] => { results := [.lit (.bool false)], args := [] }
  | _ => none }
def FlagFormsWrongFalsely : Prop := flagFormsRow.holds Try.pinned (OpenSpec.ofChange flagFormsWrong)

/-- 'foliotlaw13.FlagBits': WHATEVER THE INPUT: true; the input reads as it did. -/
def flagBitsSpec : ChangeSpec := { name := "flagBits", fn := fun _ => fun
  | [d1, d2, d3] => { results := [.lit (.bool true)], args := [d1, d2, d3] }
  | _ => none }
def flagBitsRow : OpenClaim := { program := "ytjedomkpjidmbaa", sum := "8b5b4a41fa5ccc2b0ebf017283f121636182b592defc012d6a42c8699b95ed75", func := "foliot/foliotlaw13.FlagBits", spec := "flagBits", unfollowed := true, recurses := true, apart := false }
def FlagBitsSaid : Prop := flagBitsRow.holds Try.pinned (OpenSpec.ofChange flagBitsSpec)

/-- ITS FALSE NEIGHBOUR: 'it returns false'. Refute it at one input. -/
def flagBitsWrong : ChangeSpec := { name := "flagBits", fn := fun _ => fun
  | [d1, d2, d3] => { results := [.lit (.bool false)], args := [d1, d2, d3] }
  | _ => none }
def FlagBitsWrongFalsely : Prop := flagBitsRow.holds Try.pinned (OpenSpec.ofChange flagBitsWrong)

/-- 'foliotlaw1.SatAll': WHATEVER THE INPUT: true; the input reads as it did. -/
def satAllSpec : ChangeSpec := { name := "satAll", fn := fun _ => fun
  | [d1, d2] => { results := [.lit (.bool true)], args := [d1, d2] }
  | _ => none }
def satAllRow : OpenClaim := { program := "ytjedomkpjidmbaa", sum := "8b5b4a41fa5ccc2b0ebf017283f121636182b592defc012d6a42c8699b95ed75", func := "foliot/foliotlaw1.SatAll", spec := "satAll", apart := false }
def SatAllSaid : Prop := satAllRow.holds Try.pinned (OpenSpec.ofChange satAllSpec)

/-- ITS FALSE NEIGHBOUR: 'it returns false'. Refute it at one input. -/
def satAllWrong : ChangeSpec := { name := "satAll", fn := fun _ => fun
  | [d1, d2] => { results := [.lit (.bool false)], args := [d1, d2] }
  | _ => none }
def SatAllWrongFalsely : Prop := satAllRow.holds Try.pinned (OpenSpec.ofChange satAllWrong)

/-- 'foliotlaw1.SatUp': WHATEVER THE INPUT: true; the input reads as it did. -/
def satUpSpec : ChangeSpec := { name := "satUp", fn := fun _ => fun
  | [d1, d2] => { results := [.lit (.bool true)], args := [d1, d2] }
  | _ => none }
def satUpRow : OpenClaim := { program := "ytjedomkpjidmbaa", sum := "8b5b4a41fa5ccc2b0ebf017283f121636182b592defc012d6a42c8699b95ed75", func := "foliot/foliotlaw1.SatUp", spec := "satUp", apart := false }
def SatUpSaid : Prop := satUpRow.holds Try.pinned (OpenSpec.ofChange satUpSpec)

/-- ITS FALSE NEIGHBOUR: 'it returns false'. Refute it at one input. -/
def satUpWrong : ChangeSpec := { name := "satUp", fn := fun _ => fun
  | [d1, d2] => { results := [.lit (.bool false)], args := [d1, d2] }
  | _ => none }
def SatUpWrongFalsely : Prop := satUpRow.holds Try.pinned (OpenSpec.ofChange satUpWrong)

/-- 'foliotlaw1.SatBack': WHATEVER THE INPUT: true; the input reads as it did. -/
def satBackSpec : ChangeSpec := { name := "satBack", fn := fun _ => fun
  | [d1, d2] => { results := [.lit (.bool true)], args := [d1, d2] }
  | _ => none }
def satBackRow : OpenClaim := { program := "ytjedomkpjidmbaa", sum := "8b5b4a41fa5ccc2b0ebf017283f121636182b592defc012d6a42c8699b95ed75", func := "foliot/foliotlaw1.SatBack", spec := "satBack", apart := false }
def SatBackSaid : Prop := satBackRow.holds Try.pinned (OpenSpec.ofChange satBackSpec)

/-- ITS FALSE NEIGHBOUR: 'it returns false'. Refute it at one input. -/
def satBackWrong : ChangeSpec := { name := "satBack", fn := fun _ => fun
  | [d1, d2] => { results := [.lit (.bool false)], args := [d1, d2] }
  | _ => none }
def SatBackWrongFalsely : Prop := satBackRow.holds Try.pinned (OpenSpec.ofChange satBackWrong)

/-- 'foliotlaw1.SatForms': WHATEVER THE INPUT: true; the input reads as it did. -/
def satFormsSpec : ChangeSpec := { name := "satForms", fn := fun _ => fun
  | [] => { results := [.lit (.bool true)], args := [] }
  | _ => none }
def satFormsRow : OpenClaim := { program := "ytjedomkpjidmbaa", sum := "8b5b4a41fa5ccc2b0ebf017283f121636182b592defc012d6a42c8699b95ed75", func := "foliot/foliotlaw1.SatForms", spec := "satForms", apart := false }
def SatFormsSaid : Prop := satFormsRow.holds Try.pinned (OpenSpec.ofChange satFormsSpec)

/-- ITS FALSE NEIGHBOUR: 'it returns false'. Refute it at one input. -/
def satFormsWrong : ChangeSpec := { name := "satForms", fn := fun _ => fun
  | [] => { results := [.lit (.bool false)], args := [] }
  | _ => none }
def SatFormsWrongFalsely : Prop := satFormsRow.holds Try.pinned (OpenSpec.ofChange satFormsWrong)

/-- 'foliotlaw1.SatOrder': WHATEVER THE INPUT: true; the input reads as it did. -/
def satOrderSpec : ChangeSpec := { name := "satOrder", fn := fun _ => fun
  | [d1, d2, d3] => { results := [.lit (.bool true)], args := [d1, d2, d3] }
  | _ => none }
def satOrderRow : OpenClaim := { program := "ytjedomkpjidmbaa", sum := "8b5b4a41fa5ccc2b0ebf017283f121636182b592defc012d6a42c8699b95ed75", func := "foliot/foliotlaw1.SatOrder", spec := "satOrder", apart := false }
def SatOrderSaid : Prop := satOrderRow.holds Try.pinned (OpenSpec.ofChange satOrderSpec)

/-- ITS FALSE NEIGHBOUR: 'it returns false'. Refute it at one input. -/
def satOrderWrong : ChangeSpec := { name := "satOrder", fn := fun _ => fun
  | [d1, d2, d3] => { results := [.lit (.bool false)], args := [d1, d2, d3] }
  | _ => none }
def SatOrderWrongFalsely : Prop := satOrderRow.holds Try.pinned (OpenSpec.ofChange satOrderWrong)

/-- 'foliotlaw1.SatHalves': WHATEVER THE INPUT: true; the input reads as it did. -/
def satHalvesSpec : ChangeSpec := { name := "satHalves", fn := fun _ => fun
  | [d1, d2, d3] => { results := [.lit (.bool true)], args := [d1, d2, d3] }
  | _ => none }
def satHalvesRow : OpenClaim := { program := "ytjedomkpjidmbaa", sum := "8b5b4a41fa5ccc2b0ebf017283f121636182b592defc012d6a42c8699b95ed75", func := "foliot/foliotlaw1.SatHalves", spec := "satHalves", apart := false }
def SatHalvesSaid : Prop := satHalvesRow.holds Try.pinned (OpenSpec.ofChange satHalvesSpec)

/-- ITS FALSE NEIGHBOUR: 'it returns false'. Refute it at one input. -/
def satHalvesWrong : ChangeSpec := { name := "satHalves", fn := fun _ => fun
  | [d1, d2, d3] => { results := [.lit (.bool false)], args := [d1, d2, d3] }
  | _ => none }
def SatHalvesWrongFalsely : Prop := satHalvesRow.holds Try.pinned (OpenSpec.ofChange satHalvesWrong)

/-- 'foliotlaw1.SatSteps': WHATEVER THE INPUT: true; the input reads as it did. -/
def satStepsSpec : ChangeSpec := { name := "satSteps", fn := fun _ => fun
  | [d1, d2] => { results := [.lit (.bool true)], args := [d1, d2] }
  | _ => none }
def satStepsRow : OpenClaim := { program := "ytjedomkpjidmbaa", sum := "8b5b4a41fa5ccc2b0ebf017283f121636182b592defc012d6a42c8699b95ed75", func := "foliot/foliotlaw1.SatSteps", spec := "satSteps", apart := false }
def SatStepsSaid : Prop := satStepsRow.holds Try.pinned (OpenSpec.ofChange satStepsSpec)

/-- ITS FALSE NEIGHBOUR: 'it returns false'. Refute it at one input. -/
def satStepsWrong : ChangeSpec := { name := "satSteps", fn := fun _ => fun
  | [d1, d2] => { results := [.lit (.bool false)], args := [d1, d2] }
  | _ => none }
def SatStepsWrongFalsely : Prop := satStepsRow.holds Try.pinned (OpenSpec.ofChange satStepsWrong)

/- THE SECOND FORM. 'bulk': how many values and letters a reading holds, each counted each time it is reached (what is shared counts as often as it is met; a slice's spare places count too). A statement '..UptoSaid' is the law's where the arguments, and the package variables that the reading takes, are together of bulk at most 1048576: NARROWER than '..Said'. Prove '..Said' where nothing that the law and all that it calls make is longer than what came in: it says more and counts as full. Else prove '..UptoSaid'. A law counts once. -/
mutual
def uptoBulk {H : Type} : DataW H → Nat
  | .lit (.string bytes) => bytes.length + 1
  | .lit _ => 1
  | .nil => 1
  | .ptr d => uptoBulk d + 1
  | .slice elems spare => uptoBulkAll elems + uptoBulkAll spare + 1
  | .agg parts => uptoBulkAll parts + 1
  | .iface _ d => uptoBulk d + 1
  | .map entries => uptoBulkEntries entries + 1
  | .held _ => 1
def uptoBulkAll {H : Type} : List (DataW H) → Nat
  | [] => 0
  | d :: r => uptoBulk d + uptoBulkAll r
def uptoBulkEntries {H : Type} : List (Lit × DataW H) → Nat
  | [] => 0
  | x :: r => uptoBulkEntry x + uptoBulkEntries r
def uptoBulkEntry {H : Type} : Lit × DataW H → Nat
  | (.string bytes, d) => bytes.length + uptoBulk d + 1
  | (_, d) => uptoBulk d + 1
 end
def uptoSmall : (H : Type) → List (DataW H) → Bool := fun _ ds => decide (uptoBulkAll ds ≤ 1048576)
def OpenSpec.upto (s : _root_.Go.ChangeSpec) : _root_.Go.OpenSpec := { _root_.Go.OpenSpec.ofChange s with cond := some uptoSmall }

/-- 'foliotlaw13.FlagAll', WHERE WHAT IT READS IS OF BULK AT MOST 1048576: true; the input reads as it did. -/
def flagAllUptoRow : OpenClaim := { program := "ytjedomkpjidmbaa", sum := "8b5b4a41fa5ccc2b0ebf017283f121636182b592defc012d6a42c8699b95ed75", func := "foliot/foliotlaw13.FlagAll", spec := "flagAll", unfollowed := true, recurses := true, apart := false, narrowed := true }
def FlagAllUptoSaid : Prop := flagAllUptoRow.holds Try.pinned (OpenSpec.upto flagAllSpec)

/-- 'foliotlaw13.FlagOnce', WHERE WHAT IT READS IS OF BULK AT MOST 1048576: true; the input reads as it did. -/
def flagOnceUptoRow : OpenClaim := { program := "ytjedomkpjidmbaa", sum := "8b5b4a41fa5ccc2b0ebf017283f121636182b592defc012d6a42c8699b95ed75", func := "foliot/foliotlaw13.FlagOnce", spec := "flagOnce", unfollowed := true, recurses := true, apart := false, narrowed := true }
def FlagOnceUptoSaid : Prop := flagOnceUptoRow.holds Try.pinned (OpenSpec.upto flagOnceSpec)

/-- 'foliotlaw13.FlagForms', WHERE WHAT IT READS IS OF BULK AT MOST 1048576: true; the input reads as it did. -/
def flagFormsUptoRow : OpenClaim := { program := "ytjedomkpjidmbaa", sum := "8b5b4a41fa5ccc2b0ebf017283f121636182b592defc012d6a42c8699b95ed75", func := "foliot/foliotlaw13.FlagForms", spec := "flagForms", unfollowed := true, recurses := true, apart := false, narrowed := true }
def FlagFormsUptoSaid : Prop := flagFormsUptoRow.holds Try.pinned (OpenSpec.upto flagFormsSpec)

/-- 'foliotlaw13.FlagBits', WHERE WHAT IT READS IS OF BULK AT MOST 1048576: true; the input reads as it did. -/
def flagBitsUptoRow : OpenClaim := { program := "ytjedomkpjidmbaa", sum := "8b5b4a41fa5ccc2b0ebf017283f121636182b592defc012d6a42c8699b95ed75", func := "foliot/foliotlaw13.FlagBits", spec := "flagBits", unfollowed := true, recurses := true, apart := false, narrowed := true }
def FlagBitsUptoSaid : Prop := flagBitsUptoRow.holds Try.pinned (OpenSpec.upto flagBitsSpec)

/-- 'foliotlaw1.SatAll', WHERE WHAT IT READS IS OF BULK AT MOST 1048576: true; the input reads as it did. -/
def satAllUptoRow : OpenClaim := { program := "ytjedomkpjidmbaa", sum := "8b5b4a41fa5ccc2b0ebf017283f121636182b592defc012d6a42c8699b95ed75", func := "foliot/foliotlaw1.SatAll", spec := "satAll", apart := false, narrowed := true }
def SatAllUptoSaid : Prop := satAllUptoRow.holds Try.pinned (OpenSpec.upto satAllSpec)

/-- 'foliotlaw1.SatUp', WHERE WHAT IT READS IS OF BULK AT MOST 1048576: true; the input reads as it did. -/
def satUpUptoRow : OpenClaim := { program := "ytjedomkpjidmbaa", sum := "8b5b4a41fa5ccc2b0ebf017283f121636182b592defc012d6a42c8699b95ed75", func := "foliot/foliotlaw1.SatUp", spec := "satUp", apart := false, narrowed := true }
def SatUpUptoSaid : Prop := satUpUptoRow.holds Try.pinned (OpenSpec.upto satUpSpec)

/-- 'foliotlaw1.SatBack', WHERE WHAT IT READS IS OF BULK AT MOST 1048576: true; the input reads as it did. -/
def satBackUptoRow : OpenClaim := { program := "ytjedomkpjidmbaa", sum := "8b5b4a41fa5ccc2b0ebf017283f121636182b592defc012d6a42c8699b95ed75", func := "foliot/foliotlaw1.SatBack", spec := "satBack", apart := false, narrowed := true }
def SatBackUptoSaid : Prop := satBackUptoRow.holds Try.pinned (OpenSpec.upto satBackSpec)

/-- 'foliotlaw1.SatForms', WHERE WHAT IT READS IS OF BULK AT MOST 1048576: true; the input reads as it did. -/
def satFormsUptoRow : OpenClaim := { program := "ytjedomkpjidmbaa", sum := "8b5b4a41fa5ccc2b0ebf017283f121636182b592defc012d6a42c8699b95ed75", func := "foliot/foliotlaw1.SatForms", spec := "satForms", apart := false, narrowed := true }
def SatFormsUptoSaid : Prop := satFormsUptoRow.holds Try.pinned (OpenSpec.upto satFormsSpec)

/-- 'foliotlaw1.SatOrder', WHERE WHAT IT READS IS OF BULK AT MOST 1048576: true; the input reads as it did. -/
def satOrderUptoRow : OpenClaim := { program := "ytjedomkpjidmbaa", sum := "8b5b4a41fa5ccc2b0ebf017283f121636182b592defc012d6a42c8699b95ed75", func := "foliot/foliotlaw1.SatOrder", spec := "satOrder", apart := false, narrowed := true }
def SatOrderUptoSaid : Prop := satOrderUptoRow.holds Try.pinned (OpenSpec.upto satOrderSpec)

/-- 'foliotlaw1.SatHalves', WHERE WHAT IT READS IS OF BULK AT MOST 1048576: true; the input reads as it did. -/
def satHalvesUptoRow : OpenClaim := { program := "ytjedomkpjidmbaa", sum := "8b5b4a41fa5ccc2b0ebf017283f121636182b592defc012d6a42c8699b95ed75", func := "foliot/foliotlaw1.SatHalves", spec := "satHalves", apart := false, narrowed := true }
def SatHalvesUptoSaid : Prop := satHalvesUptoRow.holds Try.pinned (OpenSpec.upto satHalvesSpec)

/-- 'foliotlaw1.SatSteps', WHERE WHAT IT READS IS OF BULK AT MOST 1048576: true; the input reads as it did. -/
def satStepsUptoRow : OpenClaim := { program := "ytjedomkpjidmbaa", sum := "8b5b4a41fa5ccc2b0ebf017283f121636182b592defc012d6a42c8699b95ed75", func := "foliot/foliotlaw1.SatSteps", spec := "satSteps", apart := false, narrowed := true }
def SatStepsUptoSaid : Prop := satStepsUptoRow.holds Try.pinned (OpenSpec.upto satStepsSpec)

end Rows
end Go.Proofs.Ytjedomkpjidmbaa
