/-
  No cell of these rows narrows 'for every input' (looked for: loops, veiled, ifaces, maps, wideKeys, modest, calm, conditions, laid).
  DERIVED. THE GIVEN ROWS OF THIS SEAT. 6 by the template 'for every input the law returns true; each argument reads behind the call as it read before'; 0 by the template 'total and deterministic' (their statements: YtjoocolnbmpkkaaTotals.lean).
  GIVEN WITH THE SEED: the statements are not yours to turn. If you find one false, say at which input.
  Laid BY PROGRAM, IN A SANDBOX (cutbox-rows.mjs): the forced cells as the released guide's own fill.sh prints them over the translation 198520e4cde39c36… (all of the seat's roots in one cut). By AI agents, Wed Nov 11 2026. No macro, syntax, notation, axiom, sorry.
-/
import Derived.Test.YtjoocolnbmpkkaaChecked
import GoSem.Claim
import GoSem.ClaimJoined
import GoSem.ClaimMapViews
import Derived.JoinedTies
import Derived.KernelRfl
namespace Go.Proofs.Ytjoocolnbmpkkaa
/- THE CELL 'sum', in the pinned program and in every row, IS THE sha256 OF THE DUMP (.gsa) THAT YtjoocolnbmpkkaaProg.lean LOADS. Nothing in Lean hashes anything: it is a label: what it is worth is what the hold of that sum in a sandbox is worth. -/
noncomputable def Try.pinned : Pinned := { name := "ytjoocolnbmpkkaa", sum := "198520e4cde39c36991f2010f33dfe6d418e0ad1263bb5a07252ce39c645c063", checked := Try.checked }
namespace Rows
def none {H : Type} : Left H := { results := [], args := [] }

/-- 'foliotlaw27.PlayBytes': WHATEVER THE INPUT: true; the input reads as it did. -/
def playBytesSpec : ChangeSpec := { name := "playBytes", fn := fun _ => fun
  | [d1, d2, d3] => { results := [.lit (.bool true)], args := [d1, d2, d3] }
  | _ => none }
def playBytesRow : OpenClaim := { program := "ytjoocolnbmpkkaa", sum := "198520e4cde39c36991f2010f33dfe6d418e0ad1263bb5a07252ce39c645c063", func := "foliot/foliotlaw27.PlayBytes", spec := "playBytes", apart := false }
def PlayBytesSaid : Prop := playBytesRow.holds Try.pinned (OpenSpec.ofChange playBytesSpec)

/-- ITS FALSE NEIGHBOUR: 'it returns false'. Refute it at one input. -/
def playBytesWrong : ChangeSpec := { name := "playBytes", fn := fun _ => fun
  | [d1, d2, d3] => { results := [.lit (.bool false)], args := [d1, d2, d3] }
  | _ => none }
def PlayBytesWrongFalsely : Prop := playBytesRow.holds Try.pinned (OpenSpec.ofChange playBytesWrong)

/-- 'foliotlaw27.PlayBack': WHATEVER THE INPUT: true; the input reads as it did. -/
def playBackSpec : ChangeSpec := { name := "playBack", fn := fun _ => fun
  | [d1, d2, d3] => { results := [.lit (.bool true)], args := [d1, d2, d3] }
  | _ => none }
def playBackRow : OpenClaim := { program := "ytjoocolnbmpkkaa", sum := "198520e4cde39c36991f2010f33dfe6d418e0ad1263bb5a07252ce39c645c063", func := "foliot/foliotlaw27.PlayBack", spec := "playBack", apart := false }
def PlayBackSaid : Prop := playBackRow.holds Try.pinned (OpenSpec.ofChange playBackSpec)

/-- ITS FALSE NEIGHBOUR: 'it returns false'. Refute it at one input. -/
def playBackWrong : ChangeSpec := { name := "playBack", fn := fun _ => fun
  | [d1, d2, d3] => { results := [.lit (.bool false)], args := [d1, d2, d3] }
  | _ => none }
def PlayBackWrongFalsely : Prop := playBackRow.holds Try.pinned (OpenSpec.ofChange playBackWrong)

/-- 'foliotlaw27.PlayJoins': WHATEVER THE INPUT: true; the input reads as it did. -/
def playJoinsSpec : ChangeSpec := { name := "playJoins", fn := fun _ => fun
  | [d1, d2] => { results := [.lit (.bool true)], args := [d1, d2] }
  | _ => none }
def playJoinsRow : OpenClaim := { program := "ytjoocolnbmpkkaa", sum := "198520e4cde39c36991f2010f33dfe6d418e0ad1263bb5a07252ce39c645c063", func := "foliot/foliotlaw27.PlayJoins", spec := "playJoins", apart := false }
def PlayJoinsSaid : Prop := playJoinsRow.holds Try.pinned (OpenSpec.ofChange playJoinsSpec)

/-- ITS FALSE NEIGHBOUR: 'it returns false'. Refute it at one input. -/
def playJoinsWrong : ChangeSpec := { name := "playJoins", fn := fun _ => fun
  | [d1, d2] => { results := [.lit (.bool false)], args := [d1, d2] }
  | _ => none }
def PlayJoinsWrongFalsely : Prop := playJoinsRow.holds Try.pinned (OpenSpec.ofChange playJoinsWrong)

/-- 'foliotlaw27.PlayForms': WHATEVER THE INPUT: true; the input reads as it did. -/
def playFormsSpec : ChangeSpec := { name := "playForms", fn := fun _ => fun
  | [] => { results := [.lit (.bool true)], args := [] }
  | _ => none }
def playFormsRow : OpenClaim := { program := "ytjoocolnbmpkkaa", sum := "198520e4cde39c36991f2010f33dfe6d418e0ad1263bb5a07252ce39c645c063", func := "foliot/foliotlaw27.PlayForms", spec := "playForms", apart := false }
def PlayFormsSaid : Prop := playFormsRow.holds Try.pinned (OpenSpec.ofChange playFormsSpec)

/-- ITS FALSE NEIGHBOUR: 'it returns false'. Refute it at one input. -/
def playFormsWrong : ChangeSpec := { name := "playForms", fn := fun _ => fun
  | [] => { results := [.lit (.bool false)], args := [] }
  | _ => none }
def PlayFormsWrongFalsely : Prop := playFormsRow.holds Try.pinned (OpenSpec.ofChange playFormsWrong)

/-- 'foliotlaw27.PlayOne': WHATEVER THE INPUT: true; the input reads as it did. -/
def playOneSpec : ChangeSpec := { name := "playOne", fn := fun _ => fun
  | [d1, d2, d3, d4, d5, d6, d7, d8, d9, d10, d11, d12] => { results := [.lit (.bool true)], args := [d1, d2, d3, d4, d5, d6, d7, d8, d9, d10, d11, d12] }
  | _ => none }
def playOneRow : OpenClaim := { program := "ytjoocolnbmpkkaa", sum := "198520e4cde39c36991f2010f33dfe6d418e0ad1263bb5a07252ce39c645c063", func := "foliot/foliotlaw27.PlayOne", spec := "playOne", apart := false }
def PlayOneSaid : Prop := playOneRow.holds Try.pinned (OpenSpec.ofChange playOneSpec)

/-- ITS FALSE NEIGHBOUR: 'it returns false'. Refute it at one input. -/
def playOneWrong : ChangeSpec := { name := "playOne", fn := fun _ => fun
  | [d1, d2, d3, d4, d5, d6, d7, d8, d9, d10, d11, d12] => { results := [.lit (.bool false)], args := [d1, d2, d3, d4, d5, d6, d7, d8, d9, d10, d11, d12] }
  | _ => none }
def PlayOneWrongFalsely : Prop := playOneRow.holds Try.pinned (OpenSpec.ofChange playOneWrong)

/-- 'foliotlaw27.PlayPassed': WHATEVER THE INPUT: true; the input reads as it did. -/
def playPassedSpec : ChangeSpec := { name := "playPassed", fn := fun _ => fun
  | [d1, d2, d3, d4] => { results := [.lit (.bool true)], args := [d1, d2, d3, d4] }
  | _ => none }
def playPassedRow : OpenClaim := { program := "ytjoocolnbmpkkaa", sum := "198520e4cde39c36991f2010f33dfe6d418e0ad1263bb5a07252ce39c645c063", func := "foliot/foliotlaw27.PlayPassed", spec := "playPassed", apart := false }
def PlayPassedSaid : Prop := playPassedRow.holds Try.pinned (OpenSpec.ofChange playPassedSpec)

/-- ITS FALSE NEIGHBOUR: 'it returns false'. Refute it at one input. -/
def playPassedWrong : ChangeSpec := { name := "playPassed", fn := fun _ => fun
  | [d1, d2, d3, d4] => { results := [.lit (.bool false)], args := [d1, d2, d3, d4] }
  | _ => none }
def PlayPassedWrongFalsely : Prop := playPassedRow.holds Try.pinned (OpenSpec.ofChange playPassedWrong)

/- THE SECOND FORM. 'bulk': how many values and letters a reading holds, each counted each time it is reached (what is shared counts as often as it is met; a slice's spare places count too). A statement '..UptoSaid' is the law's where the arguments, and the package variables that the reading takes, are together of bulk at most 1048576: NARROWER than '..Said'. Prove '..Said' where nothing that the law and all that it calls make is longer than what came in: it says more and counts as full. Else prove '..UptoSaid'. A law counts once. -/
mutual
def uptoBulk {H : Type} : DataW H → Nat
  | .lit (.string bytes) => bytes.length + 1
  | .lit _ => 1
  | .nil => 1
  | .ptr d => uptoBulk d + 1
  | .slice elems spare => uptoBulkAll elems + uptoBulkAll spare + 1
  | .agg parts => uptoBulkAll parts + 1
  | .iface _ d => uptoBulk d + 1
  | .map entries => uptoBulkEntries entries + 1
  | .held _ => 1
def uptoBulkAll {H : Type} : List (DataW H) → Nat
  | [] => 0
  | d :: r => uptoBulk d + uptoBulkAll r
def uptoBulkEntries {H : Type} : List (Lit × DataW H) → Nat
  | [] => 0
  | x :: r => uptoBulkEntry x + uptoBulkEntries r
def uptoBulkEntry {H : Type} : Lit × DataW H → Nat
  | (.string bytes, d) => bytes.length + uptoBulk d + 1
  | (_, d) => uptoBulk d + 1
 end
def uptoSmall : (H : Type) → List (DataW H) → Bool := fun _ ds => decide (uptoBulkAll ds ≤ 1048576)
def OpenSpec.upto (s : _root_.Go.ChangeSpec) : _root_.Go.OpenSpec := { _root_.Go.OpenSpec.ofChange s with cond := some uptoSmall }

/-- 'foliotlaw27.PlayBytes', WHERE WHAT IT READS IS OF BULK AT MOST 1048576: true; the input reads as it did. -/
def playBytesUptoRow : OpenClaim := { program := "ytjoocolnbmpkkaa", sum := "198520e4cde39c36991f2010f33dfe6d418e0ad1263bb5a07252ce39c645c063", func := "foliot/foliotlaw27.PlayBytes", spec := "playBytes", apart := false, narrowed := true }
def PlayBytesUptoSaid : Prop := playBytesUptoRow.holds Try.pinned (OpenSpec.upto playBytesSpec)

/-- 'foliotlaw27.PlayBack', WHERE WHAT IT READS IS OF BULK AT MOST 1048576: true; the input reads as it did. -/
def playBackUptoRow : OpenClaim := { program := "ytjoocolnbmpkkaa", sum := "198520e4cde39c36991f2010f33dfe6d418e0ad1263bb5a07252ce39c645c063", func := "foliot/foliotlaw27.PlayBack", spec := "playBack", apart := false, narrowed := true }
def PlayBackUptoSaid : Prop := playBackUptoRow.holds Try.pinned (OpenSpec.upto playBackSpec)

/-- 'foliotlaw27.PlayJoins', WHERE WHAT IT READS IS OF BULK AT MOST 1048576: true; the input reads as it did. -/
def playJoinsUptoRow : OpenClaim := { program := "ytjoocolnbmpkkaa", sum := "198520e4cde39c36991f2010f33dfe6d418e0ad1263bb5a07252ce39c645c063", func := "foliot/foliotlaw27.PlayJoins", spec := "playJoins", apart := false, narrowed := true }
def PlayJoinsUptoSaid : Prop := playJoinsUptoRow.holds Try.pinned (OpenSpec.upto playJoinsSpec)

/-- 'foliotlaw27.PlayForms', WHERE WHAT IT READS IS OF BULK AT MOST 1048576: true; the input reads as it did. -/
def playFormsUptoRow : OpenClaim := { program := "ytjoocolnbmpkkaa", sum := "198520e4cde39c36991f2010f33dfe6d418e0ad1263bb5a07252ce39c645c063", func := "foliot/foliotlaw27.PlayForms", spec := "playForms", apart := false, narrowed := true }
def PlayFormsUptoSaid : Prop := playFormsUptoRow.holds Try.pinned (OpenSpec.upto playFormsSpec)

/-- 'foliotlaw27.PlayOne', WHERE WHAT IT READS IS OF BULK AT MOST 1048576: true; the input reads as it did. -/
def playOneUptoRow : OpenClaim := { program := "ytjoocolnbmpkkaa", sum := "198520e4cde39c36991f2010f33dfe6d418e0ad1263bb5a07252ce39c645c063", func := "foliot/foliotlaw27.PlayOne", spec := "playOne", apart := false, narrowed := true }
def PlayOneUptoSaid : Prop := playOneUptoRow.holds Try.pinned (OpenSpec.upto playOneSpec)

/-- 'foliotlaw27.PlayPassed', WHERE WHAT IT READS IS OF BULK AT MOST 1048576: true; the input reads as it did. -/
def playPassedUptoRow : OpenClaim := { program := "ytjoocolnbmpkkaa", sum := "198520e4cde39c36991f2010f33dfe6d418e0ad1263bb5a07252ce39c645c063", func := "foliot/foliotlaw27.PlayPassed", spec := "playPassed", apart := false, narrowed := true }
def PlayPassedUptoSaid : Prop := playPassedUptoRow.holds Try.pinned (OpenSpec.upto playPassedSpec)

end Rows
end Go.Proofs.Ytjoocolnbmpkkaa
