/-
  No cell of these rows narrows 'for every input' (looked for: loops, veiled, ifaces, maps, wideKeys, modest, calm, conditions, laid).
  DERIVED. THE GIVEN ROWS OF THIS SEAT. 9 by the template 'for every input the law returns true; each argument reads behind the call as it read before'; 0 by the template 'total and deterministic' (their statements: YtmkkfmadiadkiaaTotals.lean).
  GIVEN WITH THE SEED: the statements are not yours to turn. If you find one false, say at which input.
  Laid BY PROGRAM, IN A SANDBOX (cutbox-rows.mjs): the forced cells as the released guide's own fill.sh prints them over the translation f3455a7b00cefbb3… (all of the seat's roots in one cut). By AI agents, Wed Nov 11 2026. No macro, syntax, notation, axiom, sorry.
-/
import Derived.Test.YtmkkfmadiadkiaaChecked
import GoSem.Claim
import GoSem.ClaimJoined
import GoSem.ClaimMapViews
import Derived.JoinedTies
import Derived.KernelRfl
namespace Go.Proofs.Ytmkkfmadiadkiaa
/- THE CELL 'sum', in the pinned program and in every row, IS THE sha256 OF THE DUMP (.gsa) THAT YtmkkfmadiadkiaaProg.lean LOADS. Nothing in Lean hashes anything: it is a label: what it is worth is what the hold of that sum in a sandbox is worth. -/
noncomputable def Try.pinned : Pinned := { name := "ytmkkfmadiadkiaa", sum := "f3455a7b00cefbb3445472b9ef91efe80885ac509a4ab4f7e1330d08f49ef5a0", checked := Try.checked }
namespace Rows
def none {H : Type} : Left H := { results := [], args := [] }

/-- 'foliotlaw19.JobAll': WHATEVER THE INPUT: true; the input reads as it did. -/
def jobAllSpec : ChangeSpec := { name := "jobAll", fn := fun _ => fun
  | [d1, d2, d3, d4, d5] => { results := [.lit (.bool true)], args := [d1, d2, d3, d4, d5] }
  | _ => none }
def jobAllRow : OpenClaim := { program := "ytmkkfmadiadkiaa", sum := "f3455a7b00cefbb3445472b9ef91efe80885ac509a4ab4f7e1330d08f49ef5a0", func := "foliot/foliotlaw19.JobAll", spec := "jobAll", apart := false }
def JobAllSaid : Prop := jobAllRow.holds Try.pinned (OpenSpec.ofChange jobAllSpec)

/-- ITS FALSE NEIGHBOUR: 'it returns false'. Refute it at one input. -/
def jobAllWrong : ChangeSpec := { name := "jobAll", fn := fun _ => fun
  | [d1, d2, d3, d4, d5] => { results := [.lit (.bool false)], args := [d1, d2, d3, d4, d5] }
  | _ => none }
def JobAllWrongFalsely : Prop := jobAllRow.holds Try.pinned (OpenSpec.ofChange jobAllWrong)

/-- 'foliotlaw19.JobLost': WHATEVER THE INPUT: true; the input reads as it did. -/
def jobLostSpec : ChangeSpec := { name := "jobLost", fn := fun _ => fun
  | [d1, d2, d3] => { results := [.lit (.bool true)], args := [d1, d2, d3] }
  | _ => none }
def jobLostRow : OpenClaim := { program := "ytmkkfmadiadkiaa", sum := "f3455a7b00cefbb3445472b9ef91efe80885ac509a4ab4f7e1330d08f49ef5a0", func := "foliot/foliotlaw19.JobLost", spec := "jobLost", apart := false }
def JobLostSaid : Prop := jobLostRow.holds Try.pinned (OpenSpec.ofChange jobLostSpec)

/-- ITS FALSE NEIGHBOUR: 'it returns false'. Refute it at one input. -/
def jobLostWrong : ChangeSpec := { name := "jobLost", fn := fun _ => fun
  | [d1, d2, d3] => { results := [.lit (.bool false)], args := [d1, d2, d3] }
  | _ => none }
def JobLostWrongFalsely : Prop := jobLostRow.holds Try.pinned (OpenSpec.ofChange jobLostWrong)

/-- 'foliotlaw19.JobForms': WHATEVER THE INPUT: true; the input reads as it did. -/
def jobFormsSpec : ChangeSpec := { name := "jobForms", fn := fun _ => fun
  | [] => { results := [.lit (.bool true)], args := [] }
  | _ => none }
def jobFormsRow : OpenClaim := { program := "ytmkkfmadiadkiaa", sum := "f3455a7b00cefbb3445472b9ef91efe80885ac509a4ab4f7e1330d08f49ef5a0", func := "foliot/foliotlaw19.JobForms", spec := "jobForms", apart := false }
def JobFormsSaid : Prop := jobFormsRow.holds Try.pinned (OpenSpec.ofChange jobFormsSpec)

/-- ITS FALSE NEIGHBOUR: 'it returns false'. Refute it at one input. -/
def jobFormsWrong : ChangeSpec := { name := "jobForms", fn := fun _ => fun
  | [] => { results := [.lit (.bool false)], args := [] }
  | _ => none }
def JobFormsWrongFalsely : Prop := jobFormsRow.holds Try.pinned (OpenSpec.ofChange jobFormsWrong)

/-- 'foliotlaw19.JobHeld': WHATEVER THE INPUT: true; the input reads as it did. -/
def jobHeldSpec : ChangeSpec := { name := "jobHeld", fn := fun _ => fun
  | [d1, d2] => { results := [.lit (.bool true)], args := [d1, d2] }
  | _ => none }
def jobHeldRow : OpenClaim := { program := "ytmkkfmadiadkiaa", sum := "f3455a7b00cefbb3445472b9ef91efe80885ac509a4ab4f7e1330d08f49ef5a0", func := "foliot/foliotlaw19.JobHeld", spec := "jobHeld", apart := false }
def JobHeldSaid : Prop := jobHeldRow.holds Try.pinned (OpenSpec.ofChange jobHeldSpec)

/-- ITS FALSE NEIGHBOUR: 'it returns false'. Refute it at one input. -/
def jobHeldWrong : ChangeSpec := { name := "jobHeld", fn := fun _ => fun
  | [d1, d2] => { results := [.lit (.bool false)], args := [d1, d2] }
  | _ => none }
def JobHeldWrongFalsely : Prop := jobHeldRow.holds Try.pinned (OpenSpec.ofChange jobHeldWrong)

/-- 'foliotlaw19.JobWays': WHATEVER THE INPUT: true; the input reads as it did. -/
def jobWaysSpec : ChangeSpec := { name := "jobWays", fn := fun _ => fun
  | [d1, d2, d3, d4] => { results := [.lit (.bool true)], args := [d1, d2, d3, d4] }
  | _ => none }
def jobWaysRow : OpenClaim := { program := "ytmkkfmadiadkiaa", sum := "f3455a7b00cefbb3445472b9ef91efe80885ac509a4ab4f7e1330d08f49ef5a0", func := "foliot/foliotlaw19.JobWays", spec := "jobWays", apart := false }
def JobWaysSaid : Prop := jobWaysRow.holds Try.pinned (OpenSpec.ofChange jobWaysSpec)

/-- ITS FALSE NEIGHBOUR: 'it returns false'. Refute it at one input. -/
def jobWaysWrong : ChangeSpec := { name := "jobWays", fn := fun _ => fun
  | [d1, d2, d3, d4] => { results := [.lit (.bool false)], args := [d1, d2, d3, d4] }
  | _ => none }
def JobWaysWrongFalsely : Prop := jobWaysRow.holds Try.pinned (OpenSpec.ofChange jobWaysWrong)

/-- 'foliotlaw4.DeltaMany': WHATEVER THE INPUT: true; the input reads as it did. -/
def deltaManySpec : ChangeSpec := { name := "deltaMany", fn := fun _ => fun
  | [d] => { results := [.lit (.bool true)], args := [d] }
  | _ => none }
def deltaManyRow : OpenClaim := { program := "ytmkkfmadiadkiaa", sum := "f3455a7b00cefbb3445472b9ef91efe80885ac509a4ab4f7e1330d08f49ef5a0", func := "foliot/foliotlaw4.DeltaMany", spec := "deltaMany", inPlace := ["slices.overlaps[foliot/delta.Timer]"], unfollowed := true, recurses := true, apart := false }
def DeltaManySaid : Prop := deltaManyRow.holds Try.pinned (OpenSpec.ofChange deltaManySpec)

/-- ITS FALSE NEIGHBOUR: 'it returns false'. Refute it at one input. -/
def deltaManyWrong : ChangeSpec := { name := "deltaMany", fn := fun _ => fun
  | [d] => { results := [.lit (.bool false)], args := [d] }
  | _ => none }
def DeltaManyWrongFalsely : Prop := deltaManyRow.holds Try.pinned (OpenSpec.ofChange deltaManyWrong)

/-- 'foliotlaw4.DeltaAll': WHATEVER THE INPUT: true; the input reads as it did. -/
def deltaAllSpec : ChangeSpec := { name := "deltaAll", fn := fun _ => fun
  | [d1, d2, d3] => { results := [.lit (.bool true)], args := [d1, d2, d3] }
  | _ => none }
def deltaAllRow : OpenClaim := { program := "ytmkkfmadiadkiaa", sum := "f3455a7b00cefbb3445472b9ef91efe80885ac509a4ab4f7e1330d08f49ef5a0", func := "foliot/foliotlaw4.DeltaAll", spec := "deltaAll", inPlace := ["slices.overlaps[foliot/delta.Timer]"], unfollowed := true, recurses := true, apart := false }
def DeltaAllSaid : Prop := deltaAllRow.holds Try.pinned (OpenSpec.ofChange deltaAllSpec)

/-- ITS FALSE NEIGHBOUR: 'it returns false'. Refute it at one input. -/
def deltaAllWrong : ChangeSpec := { name := "deltaAll", fn := fun _ => fun
  | [d1, d2, d3] => { results := [.lit (.bool false)], args := [d1, d2, d3] }
  | _ => none }
def DeltaAllWrongFalsely : Prop := deltaAllRow.holds Try.pinned (OpenSpec.ofChange deltaAllWrong)

/-- 'foliotlaw4.DeltaForms': WHATEVER THE INPUT: true; the input reads as it did. -/
def deltaFormsSpec : ChangeSpec := { name := "deltaForms", fn := fun _ => fun
  | [] => { results := [.lit (.bool true)], args := [] }
  | _ => none }
def deltaFormsRow : OpenClaim := { program := "ytmkkfmadiadkiaa", sum := "f3455a7b00cefbb3445472b9ef91efe80885ac509a4ab4f7e1330d08f49ef5a0", func := "foliot/foliotlaw4.DeltaForms", spec := "deltaForms", inPlace := ["slices.overlaps[foliot/delta.Timer]"], unfollowed := true, recurses := true, apart := false }
def DeltaFormsSaid : Prop := deltaFormsRow.holds Try.pinned (OpenSpec.ofChange deltaFormsSpec)

/-- ITS FALSE NEIGHBOUR: 'it returns false'. Refute it at one input. -/
def deltaFormsWrong : ChangeSpec := { name := "deltaForms", fn := fun _ => fun
  | [] => { results := [.lit (.bool false)], args := [] }
  | _ => none }
def DeltaFormsWrongFalsely : Prop := deltaFormsRow.holds Try.pinned (OpenSpec.ofChange deltaFormsWrong)

/-- 'foliotlaw4.DeltaAlone': WHATEVER THE INPUT: true; the input reads as it did. -/
def deltaAloneSpec : ChangeSpec := { name := "deltaAlone", fn := fun _ => fun
  | [d1, d2] => { results := [.lit (.bool true)], args := [d1, d2] }
  | _ => none }
def deltaAloneRow : OpenClaim := { program := "ytmkkfmadiadkiaa", sum := "f3455a7b00cefbb3445472b9ef91efe80885ac509a4ab4f7e1330d08f49ef5a0", func := "foliot/foliotlaw4.DeltaAlone", spec := "deltaAlone", inPlace := ["slices.overlaps[foliot/delta.Timer]"], unfollowed := true, recurses := true, apart := false }
def DeltaAloneSaid : Prop := deltaAloneRow.holds Try.pinned (OpenSpec.ofChange deltaAloneSpec)

/-- ITS FALSE NEIGHBOUR: 'it returns false'. Refute it at one input. -/
def deltaAloneWrong : ChangeSpec := { name := "deltaAlone", fn := fun _ => fun
  | [d1, d2] => { results := [.lit (.bool false)], args := [d1, d2] }
  | _ => none }
def DeltaAloneWrongFalsely : Prop := deltaAloneRow.holds Try.pinned (OpenSpec.ofChange deltaAloneWrong)

/- THE SECOND FORM. 'bulk': how many values and letters a reading holds, each counted each time it is reached (what is shared counts as often as it is met; a slice's spare places count too). A statement '..UptoSaid' is the law's where the arguments, and the package variables that the reading takes, are together of bulk at most 1048576: NARROWER than '..Said'. Prove '..Said' where nothing that the law and all that it calls make is longer than what came in: it says more and counts as full. Else prove '..UptoSaid'. A law counts once. -/
mutual
def uptoBulk {H : Type} : DataW H → Nat
  | .lit (.string bytes) => bytes.length + 1
  | .lit _ => 1
  | .nil => 1
  | .ptr d => uptoBulk d + 1
  | .slice elems spare => uptoBulkAll elems + uptoBulkAll spare + 1
  | .agg parts => uptoBulkAll parts + 1
  | .iface _ d => uptoBulk d + 1
  | .map entries => uptoBulkEntries entries + 1
  | .held _ => 1
def uptoBulkAll {H : Type} : List (DataW H) → Nat
  | [] => 0
  | d :: r => uptoBulk d + uptoBulkAll r
def uptoBulkEntries {H : Type} : List (Lit × DataW H) → Nat
  | [] => 0
  | x :: r => uptoBulkEntry x + uptoBulkEntries r
def uptoBulkEntry {H : Type} : Lit × DataW H → Nat
  | (.string bytes, d) => bytes.length + uptoBulk d + 1
  | (_, d) => uptoBulk d + 1
 end
def uptoSmall : (H : Type) → List (DataW H) → Bool := fun _ ds => decide (uptoBulkAll ds ≤ 1048576)
def OpenSpec.upto (s : _root_.Go.ChangeSpec) : _root_.Go.OpenSpec := { _root_.Go.OpenSpec.ofChange s with cond := some uptoSmall }

/-- 'foliotlaw19.JobAll', WHERE WHAT IT READS IS OF BULK AT MOST 1048576: true; the input reads as it did. -/
def jobAllUptoRow : OpenClaim := { program := "ytmkkfmadiadkiaa", sum := "f3455a7b00cefbb3445472b9ef91efe80885ac509a4ab4f7e1330d08f49ef5a0", func := "foliot/foliotlaw19.JobAll", spec := "jobAll", apart := false, narrowed := true }
def JobAllUptoSaid : Prop := jobAllUptoRow.holds Try.pinned (OpenSpec.upto jobAllSpec)

/-- 'foliotlaw19.JobLost', WHERE WHAT IT READS IS OF BULK AT MOST 1048576: true; the input reads as it did. -/
def jobLostUptoRow : OpenClaim := { program := "ytmkkfmadiadkiaa", sum := "f3455a7b00cefbb3445472b9ef91efe80885ac509a4ab4f7e1330d08f49ef5a0", func := "foliot/foliotlaw19.JobLost", spec := "jobLost", apart := false, narrowed := true }
def JobLostUptoSaid : Prop := jobLostUptoRow.holds Try.pinned (OpenSpec.upto jobLostSpec)

/-- 'foliotlaw19.JobForms', WHERE WHAT IT READS IS OF BULK AT MOST 1048576: true; the input reads as it did. -/
def jobFormsUptoRow : OpenClaim := { program := "ytmkkfmadiadkiaa", sum := "f3455a7b00cefbb3445472b9ef91efe80885ac509a4ab4f7e1330d08f49ef5a0", func := "foliot/foliotlaw19.JobForms", spec := "jobForms", apart := false, narrowed := true }
def JobFormsUptoSaid : Prop := jobFormsUptoRow.holds Try.pinned (OpenSpec.upto jobFormsSpec)

/-- 'foliotlaw19.JobHeld', WHERE WHAT IT READS IS OF BULK AT MOST 1048576: true; the input reads as it did. -/
def jobHeldUptoRow : OpenClaim := { program := "ytmkkfmadiadkiaa", sum := "f3455a7b00cefbb3445472b9ef91efe80885ac509a4ab4f7e1330d08f49ef5a0", func := "foliot/foliotlaw19.JobHeld", spec := "jobHeld", apart := false, narrowed := true }
def JobHeldUptoSaid : Prop := jobHeldUptoRow.holds Try.pinned (OpenSpec.upto jobHeldSpec)

/-- 'foliotlaw19.JobWays', WHERE WHAT IT READS IS OF BULK AT MOST 1048576: true; the input reads as it did. -/
def jobWaysUptoRow : OpenClaim := { program := "ytmkkfmadiadkiaa", sum := "f3455a7b00cefbb3445472b9ef91efe80885ac509a4ab4f7e1330d08f49ef5a0", func := "foliot/foliotlaw19.JobWays", spec := "jobWays", apart := false, narrowed := true }
def JobWaysUptoSaid : Prop := jobWaysUptoRow.holds Try.pinned (OpenSpec.upto jobWaysSpec)

/-- 'foliotlaw4.DeltaMany', WHERE WHAT IT READS IS OF BULK AT MOST 1048576: true; the input reads as it did. -/
def deltaManyUptoRow : OpenClaim := { program := "ytmkkfmadiadkiaa", sum := "f3455a7b00cefbb3445472b9ef91efe80885ac509a4ab4f7e1330d08f49ef5a0", func := "foliot/foliotlaw4.DeltaMany", spec := "deltaMany", inPlace := ["slices.overlaps[foliot/delta.Timer]"], unfollowed := true, recurses := true, apart := false, narrowed := true }
def DeltaManyUptoSaid : Prop := deltaManyUptoRow.holds Try.pinned (OpenSpec.upto deltaManySpec)

/-- 'foliotlaw4.DeltaAll', WHERE WHAT IT READS IS OF BULK AT MOST 1048576: true; the input reads as it did. -/
def deltaAllUptoRow : OpenClaim := { program := "ytmkkfmadiadkiaa", sum := "f3455a7b00cefbb3445472b9ef91efe80885ac509a4ab4f7e1330d08f49ef5a0", func := "foliot/foliotlaw4.DeltaAll", spec := "deltaAll", inPlace := ["slices.overlaps[foliot/delta.Timer]"], unfollowed := true, recurses := true, apart := false, narrowed := true }
def DeltaAllUptoSaid : Prop := deltaAllUptoRow.holds Try.pinned (OpenSpec.upto deltaAllSpec)

/-- 'foliotlaw4.DeltaForms', WHERE WHAT IT READS IS OF BULK AT MOST 1048576: true; the input reads as it did. -/
def deltaFormsUptoRow : OpenClaim := { program := "ytmkkfmadiadkiaa", sum := "f3455a7b00cefbb3445472b9ef91efe80885ac509a4ab4f7e1330d08f49ef5a0", func := "foliot/foliotlaw4.DeltaForms", spec := "deltaForms", inPlace := ["slices.overlaps[foliot/delta.Timer]"], unfollowed := true, recurses := true, apart := false, narrowed := true }
def DeltaFormsUptoSaid : Prop := deltaFormsUptoRow.holds Try.pinned (OpenSpec.upto deltaFormsSpec)

/-- 'foliotlaw4.DeltaAlone', WHERE WHAT IT READS IS OF BULK AT MOST 1048576: true; the input reads as it did. -/
def deltaAloneUptoRow : OpenClaim := { program := "ytmkkfmadiadkiaa", sum := "f3455a7b00cefbb3445472b9ef91efe80885ac509a4ab4f7e1330d08f49ef5a0", func := "foliot/foliotlaw4.DeltaAlone", spec := "deltaAlone", inPlace := ["slices.overlaps[foliot/delta.Timer]"], unfollowed := true, recurses := true, apart := false, narrowed := true }
def DeltaAloneUptoSaid : Prop := deltaAloneUptoRow.holds Try.pinned (OpenSpec.upto deltaAloneSpec)

end Rows
end Go.Proofs.Ytmkkfmadiadkiaa
