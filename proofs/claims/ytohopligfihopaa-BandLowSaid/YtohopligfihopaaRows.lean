/-
  No cell of these rows narrows 'for every input' (looked for: loops, veiled, ifaces, maps, wideKeys, modest, calm, conditions, laid).
  DERIVED. THE GIVEN ROWS OF THIS SEAT. 12 by the template 'for every input the law returns true; each argument reads behind the call as it read before'; 0 by the template 'total and deterministic' (their statements: YtohopligfihopaaTotals.lean).
  GIVEN WITH THE SEED: the statements are not yours to turn. If you find one false, say at which input.
  Laid BY PROGRAM, IN A SANDBOX (cutbox-rows.mjs): the forced cells as the released guide's own fill.sh prints them over the translation 5391655f6634c1f7… (all of the seat's roots in one cut). By AI agents, Wed Nov 11 2026. No macro, syntax, notation, axiom, sorry.
-/
import Derived.Test.YtohopligfihopaaChecked
import GoSem.Claim
import GoSem.ClaimJoined
import GoSem.ClaimMapViews
import Derived.JoinedTies
import Derived.KernelRfl
namespace Go.Proofs.Ytohopligfihopaa
/- THE CELL 'sum', in the pinned program and in every row, IS THE sha256 OF THE DUMP (.gsa) THAT YtohopligfihopaaProg.lean LOADS. Nothing in Lean hashes anything: it is a label: what it is worth is what the hold of that sum in a sandbox is worth. -/
noncomputable def Try.pinned : Pinned := { name := "ytohopligfihopaa", sum := "5391655f6634c1f7664cbaf4f0bcf75a10951a836891a197f47d65b645a4f6b0", checked := Try.checked }
namespace Rows
def none {H : Type} : Left H := { results := [], args := [] }

/-- 'foliotlaw10.SealAll': WHATEVER THE INPUT: true; the input reads as it did. -/
def sealAllSpec : ChangeSpec := { name := "sealAll", fn := fun _ => fun
  | [d] => { results := [.lit (.bool true)], args := [d] }
  | _ => none }
def sealAllRow : OpenClaim := { program := "ytohopligfihopaa", sum := "5391655f6634c1f7664cbaf4f0bcf75a10951a836891a197f47d65b645a4f6b0", func := "foliot/foliotlaw10.SealAll", spec := "sealAll", plainKeys := false, apart := false }
def SealAllSaid : Prop := sealAllRow.holds Try.pinned (OpenSpec.ofChange sealAllSpec)

/-- ITS FALSE NEIGHBOUR: 'it returns false'. Refute it at one input. -/
def sealAllWrong : ChangeSpec := { name := "sealAll", fn := fun _ => fun
  | [d] => { results := [.lit (.bool false)], args := [d] }
  | _ => none }
def SealAllWrongFalsely : Prop := sealAllRow.holds Try.pinned (OpenSpec.ofChange sealAllWrong)

/-- 'foliotlaw10.SealTurned': WHATEVER THE INPUT: true; the input reads as it did. -/
def sealTurnedSpec : ChangeSpec := { name := "sealTurned", fn := fun _ => fun
  | [d1, d2, d3, d4] => { results := [.lit (.bool true)], args := [d1, d2, d3, d4] }
  | _ => none }
def sealTurnedRow : OpenClaim := { program := "ytohopligfihopaa", sum := "5391655f6634c1f7664cbaf4f0bcf75a10951a836891a197f47d65b645a4f6b0", func := "foliot/foliotlaw10.SealTurned", spec := "sealTurned", plainKeys := false, apart := false }
def SealTurnedSaid : Prop := sealTurnedRow.holds Try.pinned (OpenSpec.ofChange sealTurnedSpec)

/-- ITS FALSE NEIGHBOUR: 'it returns false'. Refute it at one input. -/
def sealTurnedWrong : ChangeSpec := { name := "sealTurned", fn := fun _ => fun
  | [d1, d2, d3, d4] => { results := [.lit (.bool false)], args := [d1, d2, d3, d4] }
  | _ => none }
def SealTurnedWrongFalsely : Prop := sealTurnedRow.holds Try.pinned (OpenSpec.ofChange sealTurnedWrong)

/-- 'foliotlaw10.SealForms': WHATEVER THE INPUT: true; the input reads as it did. -/
def sealFormsSpec : ChangeSpec := { name := "sealForms", fn := fun _ => fun
  | [] => { results := [.lit (.bool true)], args := [] }
  | _ => none }
def sealFormsRow : OpenClaim := { program := "ytohopligfihopaa", sum := "5391655f6634c1f7664cbaf4f0bcf75a10951a836891a197f47d65b645a4f6b0", func := "foliot/foliotlaw10.SealForms", spec := "sealForms", plainKeys := false, apart := false }
def SealFormsSaid : Prop := sealFormsRow.holds Try.pinned (OpenSpec.ofChange sealFormsSpec)

/-- ITS FALSE NEIGHBOUR: 'it returns false'. Refute it at one input. -/
def sealFormsWrong : ChangeSpec := { name := "sealForms", fn := fun _ => fun
  | [] => { results := [.lit (.bool false)], args := [] }
  | _ => none }
def SealFormsWrongFalsely : Prop := sealFormsRow.holds Try.pinned (OpenSpec.ofChange sealFormsWrong)

/-- 'foliotlaw10.SealRow': WHATEVER THE INPUT: true; the input reads as it did. -/
def sealRowSpec : ChangeSpec := { name := "sealRow", fn := fun _ => fun
  | [d1, d2] => { results := [.lit (.bool true)], args := [d1, d2] }
  | _ => none }
def sealRowRow : OpenClaim := { program := "ytohopligfihopaa", sum := "5391655f6634c1f7664cbaf4f0bcf75a10951a836891a197f47d65b645a4f6b0", func := "foliot/foliotlaw10.SealRow", spec := "sealRow", plainKeys := false, apart := false }
def SealRowSaid : Prop := sealRowRow.holds Try.pinned (OpenSpec.ofChange sealRowSpec)

/-- ITS FALSE NEIGHBOUR: 'it returns false'. Refute it at one input. -/
def sealRowWrong : ChangeSpec := { name := "sealRow", fn := fun _ => fun
  | [d1, d2] => { results := [.lit (.bool false)], args := [d1, d2] }
  | _ => none }
def SealRowWrongFalsely : Prop := sealRowRow.holds Try.pinned (OpenSpec.ofChange sealRowWrong)

/-- 'foliotlaw20.BandAll': WHATEVER THE INPUT: true; the input reads as it did. -/
def bandAllSpec : ChangeSpec := { name := "bandAll", fn := fun _ => fun
  | [d1, d2, d3] => { results := [.lit (.bool true)], args := [d1, d2, d3] }
  | _ => none }
def bandAllRow : OpenClaim := { program := "ytohopligfihopaa", sum := "5391655f6634c1f7664cbaf4f0bcf75a10951a836891a197f47d65b645a4f6b0", func := "foliot/foliotlaw20.BandAll", spec := "bandAll", plainKeys := false, apart := false }
def BandAllSaid : Prop := bandAllRow.holds Try.pinned (OpenSpec.ofChange bandAllSpec)

/-- ITS FALSE NEIGHBOUR: 'it returns false'. Refute it at one input. -/
def bandAllWrong : ChangeSpec := { name := "bandAll", fn := fun _ => fun
  | [d1, d2, d3] => { results := [.lit (.bool false)], args := [d1, d2, d3] }
  | _ => none }
def BandAllWrongFalsely : Prop := bandAllRow.holds Try.pinned (OpenSpec.ofChange bandAllWrong)

/-- 'foliotlaw20.BandThree': WHATEVER THE INPUT: true; the input reads as it did. -/
def bandThreeSpec : ChangeSpec := { name := "bandThree", fn := fun _ => fun
  | [d1, d2, d3] => { results := [.lit (.bool true)], args := [d1, d2, d3] }
  | _ => none }
def bandThreeRow : OpenClaim := { program := "ytohopligfihopaa", sum := "5391655f6634c1f7664cbaf4f0bcf75a10951a836891a197f47d65b645a4f6b0", func := "foliot/foliotlaw20.BandThree", spec := "bandThree", plainKeys := false, apart := false }
def BandThreeSaid : Prop := bandThreeRow.holds Try.pinned (OpenSpec.ofChange bandThreeSpec)

/-- ITS FALSE NEIGHBOUR: 'it returns false'. Refute it at one input. -/
def bandThreeWrong : ChangeSpec := { name := "bandThree", fn := fun _ => fun
  | [d1, d2, d3] => { results := [.lit (.bool false)], args := [d1, d2, d3] }
  | _ => none }
def BandThreeWrongFalsely : Prop := bandThreeRow.holds Try.pinned (OpenSpec.ofChange bandThreeWrong)

/-- 'foliotlaw20.BandLow': WHATEVER THE INPUT: true; the input reads as it did. -/
def bandLowSpec : ChangeSpec := { name := "bandLow", fn := fun _ => fun
  | [d1, d2, d3, d4, d5, d6] => { results := [.lit (.bool true)], args := [d1, d2, d3, d4, d5, d6] }
  | _ => none }
def bandLowRow : OpenClaim := { program := "ytohopligfihopaa", sum := "5391655f6634c1f7664cbaf4f0bcf75a10951a836891a197f47d65b645a4f6b0", func := "foliot/foliotlaw20.BandLow", spec := "bandLow", plainKeys := false, apart := false }
def BandLowSaid : Prop := bandLowRow.holds Try.pinned (OpenSpec.ofChange bandLowSpec)

/-- ITS FALSE NEIGHBOUR: 'it returns false'. Refute it at one input. -/
def bandLowWrong : ChangeSpec := { name := "bandLow", fn := fun _ => fun
  | [d1, d2, d3, d4, d5, d6] => { results := [.lit (.bool false)], args := [d1, d2, d3, d4, d5, d6] }
  | _ => none }
def BandLowWrongFalsely : Prop := bandLowRow.holds Try.pinned (OpenSpec.ofChange bandLowWrong)

/-- 'foliotlaw20.BandForms': WHATEVER THE INPUT: true; the input reads as it did. -/
def bandFormsSpec : ChangeSpec := { name := "bandForms", fn := fun _ => fun
  | [] => { results := [.lit (.bool true)], args := [] }
  | _ => none }
def bandFormsRow : OpenClaim := { program := "ytohopligfihopaa", sum := "5391655f6634c1f7664cbaf4f0bcf75a10951a836891a197f47d65b645a4f6b0", func := "foliot/foliotlaw20.BandForms", spec := "bandForms", plainKeys := false, apart := false }
def BandFormsSaid : Prop := bandFormsRow.holds Try.pinned (OpenSpec.ofChange bandFormsSpec)

/-- ITS FALSE NEIGHBOUR: 'it returns false'. Refute it at one input. -/
def bandFormsWrong : ChangeSpec := { name := "bandForms", fn := fun _ => fun
  | [] => { results := [.lit (.bool false)], args := [] }
  | _ => none }
def BandFormsWrongFalsely : Prop := bandFormsRow.holds Try.pinned (OpenSpec.ofChange bandFormsWrong)

/-- 'foliotlaw3.RowAll': WHATEVER THE INPUT: true; the input reads as it did. -/
def rowAllSpec : ChangeSpec := { name := "rowAll", fn := fun _ => fun
  | [d1, d2] => { results := [.lit (.bool true)], args := [d1, d2] }
  | _ => none }
def rowAllRow : OpenClaim := { program := "ytohopligfihopaa", sum := "5391655f6634c1f7664cbaf4f0bcf75a10951a836891a197f47d65b645a4f6b0", func := "foliot/foliotlaw3.RowAll", spec := "rowAll", recurses := true, plainKeys := false, apart := false }
def RowAllSaid : Prop := rowAllRow.holds Try.pinned (OpenSpec.ofChange rowAllSpec)

/-- ITS FALSE NEIGHBOUR: 'it returns false'. Refute it at one input. -/
def rowAllWrong : ChangeSpec := { name := "rowAll", fn := fun _ => fun
  | [d1, d2] => { results := [.lit (.bool false)], args := [d1, d2] }
  | _ => none }
def RowAllWrongFalsely : Prop := rowAllRow.holds Try.pinned (OpenSpec.ofChange rowAllWrong)

/-- 'foliotlaw3.RowFirst': WHATEVER THE INPUT: true; the input reads as it did. -/
def rowFirstSpec : ChangeSpec := { name := "rowFirst", fn := fun _ => fun
  | [d] => { results := [.lit (.bool true)], args := [d] }
  | _ => none }
def rowFirstRow : OpenClaim := { program := "ytohopligfihopaa", sum := "5391655f6634c1f7664cbaf4f0bcf75a10951a836891a197f47d65b645a4f6b0", func := "foliot/foliotlaw3.RowFirst", spec := "rowFirst", recurses := true, plainKeys := false, apart := false }
def RowFirstSaid : Prop := rowFirstRow.holds Try.pinned (OpenSpec.ofChange rowFirstSpec)

/-- ITS FALSE NEIGHBOUR: 'it returns false'. Refute it at one input. -/
def rowFirstWrong : ChangeSpec := { name := "rowFirst", fn := fun _ => fun
  | [d] => { results := [.lit (.bool false)], args := [d] }
  | _ => none }
def RowFirstWrongFalsely : Prop := rowFirstRow.holds Try.pinned (OpenSpec.ofChange rowFirstWrong)

/-- 'foliotlaw3.RowSets': WHATEVER THE INPUT: true; the input reads as it did. -/
def rowSetsSpec : ChangeSpec := { name := "rowSets", fn := fun _ => fun
  | [d1, d2, d3] => { results := [.lit (.bool true)], args := [d1, d2, d3] }
  | _ => none }
def rowSetsRow : OpenClaim := { program := "ytohopligfihopaa", sum := "5391655f6634c1f7664cbaf4f0bcf75a10951a836891a197f47d65b645a4f6b0", func := "foliot/foliotlaw3.RowSets", spec := "rowSets", recurses := true, plainKeys := false, apart := false }
def RowSetsSaid : Prop := rowSetsRow.holds Try.pinned (OpenSpec.ofChange rowSetsSpec)

/-- ITS FALSE NEIGHBOUR: 'it returns false'. Refute it at one input. -/
def rowSetsWrong : ChangeSpec := { name := "rowSets", fn := fun _ => fun
  | [d1, d2, d3] => { results := [.lit (.bool false)], args := [d1, d2, d3] }
  | _ => none }
def RowSetsWrongFalsely : Prop := rowSetsRow.holds Try.pinned (OpenSpec.ofChange rowSetsWrong)

/-- 'foliotlaw3.RowForms': WHATEVER THE INPUT: true; the input reads as it did. -/
def rowFormsSpec : ChangeSpec := { name := "rowForms", fn := fun _ => fun
  | [] => { results := [.lit (.bool true)], args := [] }
  | _ => none }
def rowFormsRow : OpenClaim := { program := "ytohopligfihopaa", sum := "5391655f6634c1f7664cbaf4f0bcf75a10951a836891a197f47d65b645a4f6b0", func := "foliot/foliotlaw3.RowForms", spec := "rowForms", recurses := true, plainKeys := false, apart := false }
def RowFormsSaid : Prop := rowFormsRow.holds Try.pinned (OpenSpec.ofChange rowFormsSpec)

/-- ITS FALSE NEIGHBOUR: 'it returns false'. Refute it at one input. -/
def rowFormsWrong : ChangeSpec := { name := "rowForms", fn := fun _ => fun
  | [] => { results := [.lit (.bool false)], args := [] }
  | _ => none }
def RowFormsWrongFalsely : Prop := rowFormsRow.holds Try.pinned (OpenSpec.ofChange rowFormsWrong)

/- THE SECOND FORM. 'bulk': how many values and letters a reading holds, each counted each time it is reached (what is shared counts as often as it is met; a slice's spare places count too). A statement '..UptoSaid' is the law's where the arguments, and the package variables that the reading takes, are together of bulk at most 1048576: NARROWER than '..Said'. Prove '..Said' where nothing that the law and all that it calls make is longer than what came in: it says more and counts as full. Else prove '..UptoSaid'. A law counts once. -/
mutual
def uptoBulk {H : Type} : DataW H → Nat
  | .lit (.string bytes) => bytes.length + 1
  | .lit _ => 1
  | .nil => 1
  | .ptr d => uptoBulk d + 1
  | .slice elems spare => uptoBulkAll elems + uptoBulkAll spare + 1
  | .agg parts => uptoBulkAll parts + 1
  | .iface _ d => uptoBulk d + 1
  | .map entries => uptoBulkEntries entries + 1
  | .held _ => 1
def uptoBulkAll {H : Type} : List (DataW H) → Nat
  | [] => 0
  | d :: r => uptoBulk d + uptoBulkAll r
def uptoBulkEntries {H : Type} : List (Lit × DataW H) → Nat
  | [] => 0
  | x :: r => uptoBulkEntry x + uptoBulkEntries r
def uptoBulkEntry {H : Type} : Lit × DataW H → Nat
  | (.string bytes, d) => bytes.length + uptoBulk d + 1
  | (_, d) => uptoBulk d + 1
 end
def uptoSmall : (H : Type) → List (DataW H) → Bool := fun _ ds => decide (uptoBulkAll ds ≤ 1048576)
def OpenSpec.upto (s : _root_.Go.ChangeSpec) : _root_.Go.OpenSpec := { _root_.Go.OpenSpec.ofChange s with cond := some uptoSmall }

/-- 'foliotlaw10.SealAll', WHERE WHAT IT READS IS OF BULK AT MOST 1048576: true; the input reads as it did. -/
def sealAllUptoRow : OpenClaim := { program := "ytohopligfihopaa", sum := "5391655f6634c1f7664cbaf4f0bcf75a10951a836891a197f47d65b645a4f6b0", func := "foliot/foliotlaw10.SealAll", spec := "sealAll", plainKeys := false, apart := false, narrowed := true }
def SealAllUptoSaid : Prop := sealAllUptoRow.holds Try.pinned (OpenSpec.upto sealAllSpec)

/-- 'foliotlaw10.SealTurned', WHERE WHAT IT READS IS OF BULK AT MOST 1048576: true; the input reads as it did. -/
def sealTurnedUptoRow : OpenClaim := { program := "ytohopligfihopaa", sum := "5391655f6634c1f7664cbaf4f0bcf75a10951a836891a197f47d65b645a4f6b0", func := "foliot/foliotlaw10.SealTurned", spec := "sealTurned", plainKeys := false, apart := false, narrowed := true }
def SealTurnedUptoSaid : Prop := sealTurnedUptoRow.holds Try.pinned (OpenSpec.upto sealTurnedSpec)

/-- 'foliotlaw10.SealForms', WHERE WHAT IT READS IS OF BULK AT MOST 1048576: true; the input reads as it did. -/
def sealFormsUptoRow : OpenClaim := { program := "ytohopligfihopaa", sum := "5391655f6634c1f7664cbaf4f0bcf75a10951a836891a197f47d65b645a4f6b0", func := "foliot/foliotlaw10.SealForms", spec := "sealForms", plainKeys := false, apart := false, narrowed := true }
def SealFormsUptoSaid : Prop := sealFormsUptoRow.holds Try.pinned (OpenSpec.upto sealFormsSpec)

/-- 'foliotlaw10.SealRow', WHERE WHAT IT READS IS OF BULK AT MOST 1048576: true; the input reads as it did. -/
def sealRowUptoRow : OpenClaim := { program := "ytohopligfihopaa", sum := "5391655f6634c1f7664cbaf4f0bcf75a10951a836891a197f47d65b645a4f6b0", func := "foliot/foliotlaw10.SealRow", spec := "sealRow", plainKeys := false, apart := false, narrowed := true }
def SealRowUptoSaid : Prop := sealRowUptoRow.holds Try.pinned (OpenSpec.upto sealRowSpec)

/-- 'foliotlaw20.BandAll', WHERE WHAT IT READS IS OF BULK AT MOST 1048576: true; the input reads as it did. -/
def bandAllUptoRow : OpenClaim := { program := "ytohopligfihopaa", sum := "5391655f6634c1f7664cbaf4f0bcf75a10951a836891a197f47d65b645a4f6b0", func := "foliot/foliotlaw20.BandAll", spec := "bandAll", plainKeys := false, apart := false, narrowed := true }
def BandAllUptoSaid : Prop := bandAllUptoRow.holds Try.pinned (OpenSpec.upto bandAllSpec)

/-- 'foliotlaw20.BandThree', WHERE WHAT IT READS IS OF BULK AT MOST 1048576: true; the input reads as it did. -/
def bandThreeUptoRow : OpenClaim := { program := "ytohopligfihopaa", sum := "5391655f6634c1f7664cbaf4f0bcf75a10951a836891a197f47d65b645a4f6b0", func := "foliot/foliotlaw20.BandThree", spec := "bandThree", plainKeys := false, apart := false, narrowed := true }
def BandThreeUptoSaid : Prop := bandThreeUptoRow.holds Try.pinned (OpenSpec.upto bandThreeSpec)

/-- 'foliotlaw20.BandLow', WHERE WHAT IT READS IS OF BULK AT MOST 1048576: true; the input reads as it did. -/
def bandLowUptoRow : OpenClaim := { program := "ytohopligfihopaa", sum := "5391655f6634c1f7664cbaf4f0bcf75a10951a836891a197f47d65b645a4f6b0", func := "foliot/foliotlaw20.BandLow", spec := "bandLow", plainKeys := false, apart := false, narrowed := true }
def BandLowUptoSaid : Prop := bandLowUptoRow.holds Try.pinned (OpenSpec.upto bandLowSpec)

/-- 'foliotlaw20.BandForms', WHERE WHAT IT READS IS OF BULK AT MOST 1048576: true; the input reads as it did. -/
def bandFormsUptoRow : OpenClaim := { program := "ytohopligfihopaa", sum := "5391655f6634c1f7664cbaf4f0bcf75a10951a836891a197f47d65b645a4f6b0", func := "foliot/foliotlaw20.BandForms", spec := "bandForms", plainKeys := false, apart := false, narrowed := true }
def BandFormsUptoSaid : Prop := bandFormsUptoRow.holds Try.pinned (OpenSpec.upto bandFormsSpec)

/-- 'foliotlaw3.RowAll', WHERE WHAT IT READS IS OF BULK AT MOST 1048576: true; the input reads as it did. -/
def rowAllUptoRow : OpenClaim := { program := "ytohopligfihopaa", sum := "5391655f6634c1f7664cbaf4f0bcf75a10951a836891a197f47d65b645a4f6b0", func := "foliot/foliotlaw3.RowAll", spec := "rowAll", recurses := true, plainKeys := false, apart := false, narrowed := true }
def RowAllUptoSaid : Prop := rowAllUptoRow.holds Try.pinned (OpenSpec.upto rowAllSpec)

/-- 'foliotlaw3.RowFirst', WHERE WHAT IT READS IS OF BULK AT MOST 1048576: true; the input reads as it did. -/
def rowFirstUptoRow : OpenClaim := { program := "ytohopligfihopaa", sum := "5391655f6634c1f7664cbaf4f0bcf75a10951a836891a197f47d65b645a4f6b0", func := "foliot/foliotlaw3.RowFirst", spec := "rowFirst", recurses := true, plainKeys := false, apart := false, narrowed := true }
def RowFirstUptoSaid : Prop := rowFirstUptoRow.holds Try.pinned (OpenSpec.upto rowFirstSpec)

/-- 'foliotlaw3.RowSets', WHERE WHAT IT READS IS OF BULK AT MOST 1048576: true; the input reads as it did. -/
def rowSetsUptoRow : OpenClaim := { program := "ytohopligfihopaa", sum := "5391655f6634c1f7664cbaf4f0bcf75a10951a836891a197f47d65b645a4f6b0", func := "foliot/foliotlaw3.RowSets", spec := "rowSets", recurses := true, plainKeys := false, apart := false, narrowed := true }
def RowSetsUptoSaid : Prop := rowSetsUptoRow.holds Try.pinned (OpenSpec.upto rowSetsSpec)

/-- 'foliotlaw3.RowForms', WHERE WHAT IT READS IS OF BULK AT MOST 1048576: true; the input reads as it did. -/
def rowFormsUptoRow : OpenClaim := { program := "ytohopligfihopaa", sum := "5391655f6634c1f7664cbaf4f0bcf75a10951a836891a197f47d65b645a4f6b0", func := "foliot/foliotlaw3.RowForms", spec := "rowForms", recurses := true, plainKeys := false, apart := false, narrowed := true }
def RowFormsUptoSaid : Prop := rowFormsUptoRow.holds Try.pinned (OpenSpec.upto rowFormsSpec)

end Rows
end Go.Proofs.Ytohopligfihopaa
