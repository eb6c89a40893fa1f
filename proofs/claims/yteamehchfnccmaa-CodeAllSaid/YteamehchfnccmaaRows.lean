/-
  No cell of these rows narrows 'for every input' (looked for: loops, veiled, ifaces, maps, wideKeys, modest, calm, conditions, laid).
  DERIVED. THE GIVEN ROWS OF THIS SEAT. 11 by the template 'for every input the law returns true; each argument reads behind the call as it read before'; 0 by the template 'total and deterministic' (their statements: YteamehchfnccmaaTotals.lean).
  GIVEN WITH THE SEED: the statements are not yours to turn. If you find one false, say at which input.
  Laid BY PROGRAM, IN A SANDBOX (cutbox-rows.mjs): the forced cells as the released guide's own fill.sh prints them over the translation d89a7247ba9f256d… (all of the seat's roots in one cut). By AI agents, Wed Nov 11 2026. No macro, syntax, notation, axiom, sorry.
-/
import Derived.Test.YteamehchfnccmaaChecked
import GoSem.Claim
import GoSem.ClaimJoined
import GoSem.ClaimMapViews
import Derived.JoinedTies
import Derived.KernelRfl
namespace Go.Proofs.Yteamehchfnccmaa
/- THE CELL 'sum', in the pinned program and in every row, IS THE sha256 OF THE DUMP (.gsa) THAT YteamehchfnccmaaProg.lean LOADS. Nothing in Lean hashes anything: it is a label: what it is worth is what the hold of that sum in a sandbox is worth. -/
noncomputable def Try.pinned : Pinned := { name := "yteamehchfnccmaa", sum := "d89a7247ba9f256d6d7cc3957e2b30c73e1a1802f70e462594c5f07df008817a", checked := Try.checked }
namespace Rows
def none {H : Type} : Left H := { results := [], args := [] }

/-- 'foliotlaw5.CodeAll': WHATEVER THE INPUT: true; the input reads as it did. -/
def codeAllSpec : ChangeSpec := { name := "codeAll", fn := fun _ => fun
  | [d1, d2, d3, d4] => { results := [.lit (.bool true)], args := [d1, d2, d3, d4] }
  | _ => none }
def codeAllRow : OpenClaim := { program := "yteamehchfnccmaa", sum := "d89a7247ba9f256d6d7cc3957e2b30c73e1a1802f70e462594c5f07df008817a", func := "foliot/foliotlaw5.CodeAll", spec := "codeAll", apart := false }
def CodeAllSaid : Prop := codeAllRow.holds Try.pinned (OpenSpec.ofChange codeAllSpec)

/-- ITS FALSE NEIGHBOUR: 'it returns false'. Refute it at one input. -/
def codeAllWrong : ChangeSpec := { name := "codeAll", fn := fun _ => fun
  | [d1, d2, d3, d4] => { results := [.lit (.bool false)], args := [d1, d2, d3, d4] }
  | _ => none }
def CodeAllWrongFalsely : Prop := codeAllRow.holds Try.pinned (OpenSpec.ofChange codeAllWrong)

/-- 'foliotlaw5.CodeBack': WHATEVER THE INPUT: true; the input reads as it did. -/
def codeBackSpec : ChangeSpec := { name := "codeBack", fn := fun _ => fun
  | [d1, d2, d3] => { results := [.lit (.bool true)], args := [d1, d2, d3] }
  | _ => none }
def codeBackRow : OpenClaim := { program := "yteamehchfnccmaa", sum := "d89a7247ba9f256d6d7cc3957e2b30c73e1a1802f70e462594c5f07df008817a", func := "foliot/foliotlaw5.CodeBack", spec := "codeBack", apart := false }
def CodeBackSaid : Prop := codeBackRow.holds Try.pinned (OpenSpec.ofChange codeBackSpec)

/-- ITS FALSE NEIGHBOUR: 'it returns false'. Refute it at one input. -/
def codeBackWrong : ChangeSpec := { name := "codeBack", fn := fun _ => fun
  | [d1, d2, d3] => { results := [.lit (.bool false)], args := [d1, d2, d3] }
  | _ => none }
def CodeBackWrongFalsely : Prop := codeBackRow.holds Try.pinned (OpenSpec.ofChange codeBackWrong)

/-- 'foliotlaw5.CodeTurned': WHATEVER THE INPUT: true; the input reads as it did. -/
def codeTurnedSpec : ChangeSpec := { name := "codeTurned", fn := fun _ => fun
  | [d1, d2, d3] => { results := [.lit (.bool true)], args := [d1, d2, d3] }
  | _ => none }
def codeTurnedRow : OpenClaim := { program := "yteamehchfnccmaa", sum := "d89a7247ba9f256d6d7cc3957e2b30c73e1a1802f70e462594c5f07df008817a", func := "foliot/foliotlaw5.CodeTurned", spec := "codeTurned", apart := false }
def CodeTurnedSaid : Prop := codeTurnedRow.holds Try.pinned (OpenSpec.ofChange codeTurnedSpec)

/-- ITS FALSE NEIGHBOUR: 'it returns false'. Refute it at one input. -/
def codeTurnedWrong : ChangeSpec := { name := "codeTurned", fn := fun _ => fun
  | [d1, d2, d3] => { results := [.lit (.bool false)], args := [d1, d2, d3] }
  | _ => none }
def CodeTurnedWrongFalsely : Prop := codeTurnedRow.holds Try.pinned (OpenSpec.ofChange codeTurnedWrong)

/-- 'foliotlaw5.CodeForms': WHATEVER THE INPUT: true; the input reads as it did. -/
def codeFormsSpec : ChangeSpec := { name := "codeForms", fn := fun _ => fun
  | [] => { results := [.lit (.bool true)], args := [] }
  | _ => none }
def codeFormsRow : OpenClaim := { program := "yteamehchfnccmaa", sum := "d89a7247ba9f256d6d7cc3957e2b30c73e1a1802f70e462594c5f07df008817a", func := "foliot/foliotlaw5.CodeForms", spec := "codeForms", apart := false }
def CodeFormsSaid : Prop := codeFormsRow.holds Try.pinned (OpenSpec.ofChange codeFormsSpec)

/-- ITS FALSE NEIGHBOUR: 'it returns false'. Refute it at one input. -/
def codeFormsWrong : ChangeSpec := { name := "codeForms", fn := fun _ => fun
  | [] => { results := [.lit (.bool false)], args := [] }
  | _ => none }
def CodeFormsWrongFalsely : Prop := codeFormsRow.holds Try.pinned (OpenSpec.ofChange codeFormsWrong)

/-- 'foliotlaw5.CodeApart': WHATEVER THE INPUT: true; the input reads as it did. -/
def codeApartSpec : ChangeSpec := { name := "codeApart", fn := fun _ => fun
  | [d1, d2] => { results := [.lit (.bool true)], args := [d1, d2] }
  | _ => none }
def codeApartRow : OpenClaim := { program := "yteamehchfnccmaa", sum := "d89a7247ba9f256d6d7cc3957e2b30c73e1a1802f70e462594c5f07df008817a", func := "foliot/foliotlaw5.CodeApart", spec := "codeApart", apart := false }
def CodeApartSaid : Prop := codeApartRow.holds Try.pinned (OpenSpec.ofChange codeApartSpec)

/-- ITS FALSE NEIGHBOUR: 'it returns false'. Refute it at one input. -/
def codeApartWrong : ChangeSpec := { name := "codeApart", fn := fun _ => fun
  | [d1, d2] => { results := [.lit (.bool false)], args := [d1, d2] }
  | _ => none }
def CodeApartWrongFalsely : Prop := codeApartRow.holds Try.pinned (OpenSpec.ofChange codeApartWrong)

/-- 'foliotlaw8.VmAll': WHATEVER THE INPUT: true; the input reads as it did. -/
def vmAllSpec : ChangeSpec := { name := "vmAll", fn := fun _ => fun
  | [d1, d2, d3, d4, d5] => { results := [.lit (.bool true)], args := [d1, d2, d3, d4, d5] }
  | _ => none }
def vmAllRow : OpenClaim := { program := "yteamehchfnccmaa", sum := "d89a7247ba9f256d6d7cc3957e2b30c73e1a1802f70e462594c5f07df008817a", func := "foliot/foliotlaw8.VmAll", spec := "vmAll", apart := false }
def VmAllSaid : Prop := vmAllRow.holds Try.pinned (OpenSpec.ofChange vmAllSpec)

/-- ITS FALSE NEIGHBOUR: 'it returns false'. Refute it at one input. -/
def vmAllWrong : ChangeSpec := { name := "vmAll", fn := fun _ => fun
  | [d1, d2, d3, d4, d5] => { results := [.lit (.bool false)], args := [d1, d2, d3, d4, d5] }
  | _ => none }
def VmAllWrongFalsely : Prop := vmAllRow.holds Try.pinned (OpenSpec.ofChange vmAllWrong)

/-- 'foliotlaw8.VmRuns': WHATEVER THE INPUT: true; the input reads as it did. -/
def vmRunsSpec : ChangeSpec := { name := "vmRuns", fn := fun _ => fun
  | [d1, d2] => { results := [.lit (.bool true)], args := [d1, d2] }
  | _ => none }
def vmRunsRow : OpenClaim := { program := "yteamehchfnccmaa", sum := "d89a7247ba9f256d6d7cc3957e2b30c73e1a1802f70e462594c5f07df008817a", func := "foliot/foliotlaw8.VmRuns", spec := "vmRuns", apart := false }
def VmRunsSaid : Prop := vmRunsRow.holds Try.pinned (OpenSpec.ofChange vmRunsSpec)

/-- ITS FALSE NEIGHBOUR: 'it returns false'. Refute it at one input. -/
def vmRunsWrong : ChangeSpec := { name := "vmRuns", fn := fun _ => fun
  | [d1, d2] => { results := [.lit (.bool false)], args := [d1, d2] }
  | _ => none }
def VmRunsWrongFalsely : Prop := vmRunsRow.holds Try.pinned (OpenSpec.ofChange vmRunsWrong)

/-- 'foliotlaw8.VmNarrow': WHATEVER THE INPUT: true; the input reads as it did. -/
def vmNarrowSpec : ChangeSpec := { name := "vmNarrow", fn := fun _ => fun
  | [d1, d2] => { results := [.lit (.bool true)], args := [d1, d2] }
  | _ => none }
def vmNarrowRow : OpenClaim := { program := "yteamehchfnccmaa", sum := "d89a7247ba9f256d6d7cc3957e2b30c73e1a1802f70e462594c5f07df008817a", func := "foliot/foliotlaw8.VmNarrow", spec := "vmNarrow", apart := false }
def VmNarrowSaid : Prop := vmNarrowRow.holds Try.pinned (OpenSpec.ofChange vmNarrowSpec)

/-- ITS FALSE NEIGHBOUR: 'it returns false'. Refute it at one input. -/
def vmNarrowWrong : ChangeSpec := { name := "vmNarrow", fn := fun _ => fun
  | [d1, d2] => { results := [.lit (.bool false)], args := [d1, d2] }
  | _ => none }
def VmNarrowWrongFalsely : Prop := vmNarrowRow.holds Try.pinned (OpenSpec.ofChange vmNarrowWrong)

/-- 'foliotlaw8.VmShift': WHATEVER THE INPUT: true; the input reads as it did. -/
def vmShiftSpec : ChangeSpec := { name := "vmShift", fn := fun _ => fun
  | [d1, d2] => { results := [.lit (.bool true)], args := [d1, d2] }
  | _ => none }
def vmShiftRow : OpenClaim := { program := "yteamehchfnccmaa", sum := "d89a7247ba9f256d6d7cc3957e2b30c73e1a1802f70e462594c5f07df008817a", func := "foliot/foliotlaw8.VmShift", spec := "vmShift", apart := false }
def VmShiftSaid : Prop := vmShiftRow.holds Try.pinned (OpenSpec.ofChange vmShiftSpec)

/-- ITS FALSE NEIGHBOUR: 'it returns false'. Refute it at one input. -/
def vmShiftWrong : ChangeSpec := { name := "vmShift", fn := fun _ => fun
  | [d1, d2] => { results := [.lit (.bool false)], args := [d1, d2] }
  | _ => none }
def VmShiftWrongFalsely : Prop := vmShiftRow.holds Try.pinned (OpenSpec.ofChange vmShiftWrong)

/-- 'foliotlaw8.VmForms': WHATEVER THE INPUT: true; the input reads as it did. -/
def vmFormsSpec : ChangeSpec := { name := "vmForms", fn := fun _ => fun
  | [] => { results := [.lit (.bool true)], args := [] }
  | _ => none }
def vmFormsRow : OpenClaim := { program := "yteamehchfnccmaa", sum := "d89a7247ba9f256d6d7cc3957e2b30c73e1a1802f70e462594c5f07df008817a", func := "foliot/foliotlaw8.VmForms", spec := "vmForms", apart := false }
def VmFormsSaid : Prop := vmFormsRow.holds Try.pinned (OpenSpec.ofChange vmFormsSpec)

/-- ITS FALSE NEIGHBOUR: 'it returns false'. Refute it at one input. -/
def vmFormsWrong : ChangeSpec := { name := "vmForms", fn := fun _ => fun
  | [] => { results := [.lit (.bool false)], args := [] }
  | _ => none }
def VmFormsWrongFalsely : Prop := vmFormsRow.holds Try.pinned (OpenSpec.ofChange vmFormsWrong)

/-- 'foliotlaw8.VmReps': WHATEVER THE INPUT: true; the input reads as it did. -/
def vmRepsSpec : ChangeSpec := { name := "vmReps", fn := fun _ => fun
  | [d1, d2] => { results := [.lit (.bool true)], args := [d1, d2] }
  | _ => none }
def vmRepsRow : OpenClaim := { program := "yteamehchfnccmaa", sum := "d89a7247ba9f256d6d7cc3957e2b30c73e1a1802f70e462594c5f07df008817a", func := "foliot/foliotlaw8.VmReps", spec := "vmReps", apart := false }
def VmRepsSaid : Prop := vmRepsRow.holds Try.pinned (OpenSpec.ofChange vmRepsSpec)

/-- ITS FALSE NEIGHBOUR: 'it returns false'. Refute it at one input. -/
def vmRepsWrong : ChangeSpec := { name := "vmReps", fn := fun _ => fun
  | [d1, d2] => { results := [.lit (.bool false)], args := [d1, d2] }
  | _ => none }
def VmRepsWrongFalsely : Prop := vmRepsRow.holds Try.pinned (OpenSpec.ofChange vmRepsWrong)

/- THE SECOND FORM. 'bulk': how many values and letters a reading holds, each counted each time it is reached (what is shared counts as often as it is met; a slice's spare places count too). A statement '..UptoSaid' is the law's where the arguments, and the package variables that the reading takes, are together of bulk at most 1048576: NARROWER than '..Said'. Prove '..Said' where nothing that the law and all that it calls make is longer than what came in: it says more and counts as full. Else prove '..UptoSaid'. A law counts once. -/
mutual
def uptoBulk {H : Type} : DataW H → Nat
  | .lit (.string bytes) => bytes.length + 1
  | .lit _ => 1
  | .nil => 1
  | .ptr d => uptoBulk d + 1
  | .slice elems spare => uptoBulkAll elems + uptoBulkAll spare + 1
  | .agg parts => uptoBulkAll parts + 1
  | .iface _ d => uptoBulk d + 1
  | .map entries => uptoBulkEntries entries + 1
  | .held _ => 1
def uptoBulkAll {H : Type} : List (DataW H) → Nat
  | [] => 0
  | d :: r => uptoBulk d + uptoBulkAll r
def uptoBulkEntries {H : Type} : List (Lit × DataW H) → Nat
  | [] => 0
  | x :: r => uptoBulkEntry x + uptoBulkEntries r
def uptoBulkEntry {H : Type} : Lit × DataW H → Nat
  | (.string bytes, d) => bytes.length + uptoBulk d + 1
  | (_, d) => uptoBulk d + 1
 end
def uptoSmall : (H : Type) → List (DataW H) → Bool := fun _ ds => decide (uptoBulkAll ds ≤ 1048576)
def OpenSpec.upto (s : _root_.Go.ChangeSpec) : _root_.Go.OpenSpec := { _root_.Go.OpenSpec.ofChange s with cond := some uptoSmall }

/-- 'foliotlaw5.CodeAll', WHERE WHAT IT READS IS OF BULK AT MOST 1048576: true; the input reads as it did. -/
def codeAllUptoRow : OpenClaim := { program := "yteamehchfnccmaa", sum := "d89a7247ba9f256d6d7cc3957e2b30c73e1a1802f70e462594c5f07df008817a", func := "foliot/foliotlaw5.CodeAll", spec := "codeAll", apart := false, narrowed := true }
def CodeAllUptoSaid : Prop := codeAllUptoRow.holds Try.pinned (OpenSpec.upto codeAllSpec)

/-- 'foliotlaw5.CodeBack', WHERE WHAT IT READS IS OF BULK AT MOST 1048576: true; the input reads as it did. -/
def codeBackUptoRow : OpenClaim := { program := "yteamehchfnccmaa", sum := "d89a7247ba9f256d6d7cc3957e2b30c73e1a1802f70e462594c5f07df008817a", func := "foliot/foliotlaw5.CodeBack", spec := "codeBack", apart := false, narrowed := true }
def CodeBackUptoSaid : Prop := codeBackUptoRow.holds Try.pinned (OpenSpec.upto codeBackSpec)

/-- 'foliotlaw5.CodeTurned', WHERE WHAT IT READS IS OF BULK AT MOST 1048576: true; the input reads as it did. -/
def codeTurnedUptoRow : OpenClaim := { program := "yteamehchfnccmaa", sum := "d89a7247ba9f256d6d7cc3957e2b30c73e1a1802f70e462594c5f07df008817a", func := "foliot/foliotlaw5.CodeTurned", spec := "codeTurned", apart := false, narrowed := true }
def CodeTurnedUptoSaid : Prop := codeTurnedUptoRow.holds Try.pinned (OpenSpec.upto codeTurnedSpec)

/-- 'foliotlaw5.CodeForms', WHERE WHAT IT READS IS OF BULK AT MOST 1048576: true; the input reads as it did. -/
def codeFormsUptoRow : OpenClaim := { program := "yteamehchfnccmaa", sum := "d89a7247ba9f256d6d7cc3957e2b30c73e1a1802f70e462594c5f07df008817a", func := "foliot/foliotlaw5.CodeForms", spec := "codeForms", apart := false, narrowed := true }
def CodeFormsUptoSaid : Prop := codeFormsUptoRow.holds Try.pinned (OpenSpec.upto codeFormsSpec)

/-- 'foliotlaw5.CodeApart', WHERE WHAT IT READS IS OF BULK AT MOST 1048576: true; the input reads as it did. -/
def codeApartUptoRow : OpenClaim := { program := "yteamehchfnccmaa", sum := "d89a7247ba9f256d6d7cc3957e2b30c73e1a1802f70e462594c5f07df008817a", func := "foliot/foliotlaw5.CodeApart", spec := "codeApart", apart := false, narrowed := true }
def CodeApartUptoSaid : Prop := codeApartUptoRow.holds Try.pinned (OpenSpec.upto codeApartSpec)

/-- 'foliotlaw8.VmAll', WHERE WHAT IT READS IS OF BULK AT MOST 1048576: true; the input reads as it did. -/
def vmAllUptoRow : OpenClaim := { program := "yteamehchfnccmaa", sum := "d89a7247ba9f256d6d7cc3957e2b30c73e1a1802f70e462594c5f07df008817a", func := "foliot/foliotlaw8.VmAll", spec := "vmAll", apart := false, narrowed := true }
def VmAllUptoSaid : Prop := vmAllUptoRow.holds Try.pinned (OpenSpec.upto vmAllSpec)

/-- 'foliotlaw8.VmRuns', WHERE WHAT IT READS IS OF BULK AT MOST 1048576: true; the input reads as it did. -/
def vmRunsUptoRow : OpenClaim := { program := "yteamehchfnccmaa", sum := "d89a7247ba9f256d6d7cc3957e2b30c73e1a1802f70e462594c5f07df008817a", func := "foliot/foliotlaw8.VmRuns", spec := "vmRuns", apart := false, narrowed := true }
def VmRunsUptoSaid : Prop := vmRunsUptoRow.holds Try.pinned (OpenSpec.upto vmRunsSpec)

/-- 'foliotlaw8.VmNarrow', WHERE WHAT IT READS IS OF BULK AT MOST 1048576: true; the input reads as it did. -/
def vmNarrowUptoRow : OpenClaim := { program := "yteamehchfnccmaa", sum := "d89a7247ba9f256d6d7cc3957e2b30c73e1a1802f70e462594c5f07df008817a", func := "foliot/foliotlaw8.VmNarrow", spec := "vmNarrow", apart := false, narrowed := true }
def VmNarrowUptoSaid : Prop := vmNarrowUptoRow.holds Try.pinned (OpenSpec.upto vmNarrowSpec)

/-- 'foliotlaw8.VmShift', WHERE WHAT IT READS IS OF BULK AT MOST 1048576: true; the input reads as it did. -/
def vmShiftUptoRow : OpenClaim := { program := "yteamehchfnccmaa", sum := "d89a7247ba9f256d6d7cc3957e2b30c73e1a1802f70e462594c5f07df008817a", func := "foliot/foliotlaw8.VmShift", spec := "vmShift", apart := false, narrowed := true }
def VmShiftUptoSaid : Prop := vmShiftUptoRow.holds Try.pinned (OpenSpec.upto vmShiftSpec)

/-- 'foliotlaw8.VmForms', WHERE WHAT IT READS IS OF BULK AT MOST 1048576: true; the input reads as it did. -/
def vmFormsUptoRow : OpenClaim := { program := "yteamehchfnccmaa", sum := "d89a7247ba9f256d6d7cc3957e2b30c73e1a1802f70e462594c5f07df008817a", func := "foliot/foliotlaw8.VmForms", spec := "vmForms", apart := false, narrowed := true }
def VmFormsUptoSaid : Prop := vmFormsUptoRow.holds Try.pinned (OpenSpec.upto vmFormsSpec)

/-- 'foliotlaw8.VmReps', WHERE WHAT IT READS IS OF BULK AT MOST 1048576: true; the input reads as it did. -/
def vmRepsUptoRow : OpenClaim := { program := "yteamehchfnccmaa", sum := "d89a7247ba9f256d6d7cc3957e2b30c73e1a1802f70e462594c5f07df008817a", func := "foliot/foliotlaw8.VmReps", spec := "vmReps", apart := false, narrowed := true }
def VmRepsUptoSaid : Prop := vmRepsUptoRow.holds Try.pinned (OpenSpec.upto vmRepsSpec)

end Rows
end Go.Proofs.Yteamehchfnccmaa
