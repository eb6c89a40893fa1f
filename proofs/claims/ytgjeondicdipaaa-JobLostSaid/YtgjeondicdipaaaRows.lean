/-
  No cell of these rows narrows 'for every input' (looked for: loops, veiled, ifaces, maps, wideKeys, modest, calm, conditions, laid).
  DERIVED. THE GIVEN ROWS OF THIS SEAT. 3 by the template 'for every input the law returns true; each argument reads behind the call as it read before'; 0 by the template 'total and deterministic' (their statements: YtgjeondicdipaaaTotals.lean).
  GIVEN WITH THE SEED: the statements are not yours to turn. If you find one false, say at which input.
  Laid BY PROGRAM, IN A SANDBOX (cutbox-rows.mjs): the forced cells as the released guide's own fill.sh prints them over the translation 912d828d0336011a… (all of the seat's roots in one cut). By AI agents, Wed Nov 11 2026. No macro, syntax, notation, axiom, sorry.
-/
import Derived.Test.YtgjeondicdipaaaChecked
import GoSem.Claim
import GoSem.ClaimJoined
import GoSem.ClaimMapViews
import Derived.JoinedTies
import Derived.KernelRfl
namespace Go.Proofs.Ytgjeondicdipaaa
/- THE CELL 'sum', in the pinned program and in every row, IS THE sha256 OF THE DUMP (.gsa) THAT YtgjeondicdipaaaProg.lean LOADS. Nothing in Lean hashes anything: it is a label: what it is worth is what the hold of that sum in a sandbox is worth. -/
noncomputable def Try.pinned : Pinned := { name := "ytgjeondicdipaaa", sum := "912d828d0336011ab62c506741870a20157a1b7733bd3f8cb65e6730c5be88ff", checked := Try.checked }
namespace Rows
def none {H : Type} : Left H := { results := [], args := [] }

/-- 'foliotlaw22.FaultTwice': WHATEVER THE INPUT: true; the input reads as it did. -/
def faultTwiceSpec : ChangeSpec := { name := "faultTwice", fn := fun _ => fun
  | [d1, d2, d3] => { results := [.lit (.bool true)], args := [d1, d2, d3] }
  | _ => none }
def faultTwiceRow : OpenClaim := { program := "ytgjeondicdipaaa", sum := "912d828d0336011ab62c506741870a20157a1b7733bd3f8cb65e6730c5be88ff", func := "foliot/foliotlaw22.FaultTwice", spec := "faultTwice", unfollowed := true, recurses := true, apart := false }
def FaultTwiceSaid : Prop := faultTwiceRow.holds Try.pinned (OpenSpec.ofChange faultTwiceSpec)

/-- ITS FALSE NEIGHBOUR: 'it returns false'. Refute it at one input. -/
def faultTwiceWrong : ChangeSpec := { name := "faultTwice", fn := fun _ => fun
  | [d1, d2, d3] => { results := [.lit (.bool false)], args := [d1, d2, d3] }
  | _ => none }
def FaultTwiceWrongFalsely : Prop := faultTwiceRow.holds Try.pinned (OpenSpec.ofChange faultTwiceWrong)

/-- 'foliotlaw19.JobLost': WHATEVER THE INPUT: true; the input reads as it did. -/
def jobLostSpec : ChangeSpec := { name := "jobLost", fn := fun _ => fun
  | [d1, d2, d3] => { results := [.lit (.bool true)], args := [d1, d2, d3] }
  | _ => none }
def jobLostRow : OpenClaim := { program := "ytgjeondicdipaaa", sum := "912d828d0336011ab62c506741870a20157a1b7733bd3f8cb65e6730c5be88ff", func := "foliot/foliotlaw19.JobLost", spec := "jobLost", apart := false }
def JobLostSaid : Prop := jobLostRow.holds Try.pinned (OpenSpec.ofChange jobLostSpec)

/-- ITS FALSE NEIGHBOUR: 'it returns false'. Refute it at one input. -/
def jobLostWrong : ChangeSpec := { name := "jobLost", fn := fun _ => fun
  | [d1, d2, d3] => { results := [.lit (.bool false)], args := [d1, d2, d3] }
  | _ => none }
def JobLostWrongFalsely : Prop := jobLostRow.holds Try.pinned (OpenSpec.ofChange jobLostWrong)

/-- 'foliotlaw19.JobHeld': WHATEVER THE INPUT: true; the input reads as it did. -/
def jobHeldSpec : ChangeSpec := { name := "jobHeld", fn := fun _ => fun
  | [d1, d2] => { results := [.lit (.bool true)], args := [d1, d2] }
  | _ => none }
def jobHeldRow : OpenClaim := { program := "ytgjeondicdipaaa", sum := "912d828d0336011ab62c506741870a20157a1b7733bd3f8cb65e6730c5be88ff", func := "foliot/foliotlaw19.JobHeld", spec := "jobHeld", apart := false }
def JobHeldSaid : Prop := jobHeldRow.holds Try.pinned (OpenSpec.ofChange jobHeldSpec)

/-- ITS FALSE NEIGHBOUR: 'it returns false'. Refute it at one input. -/
def jobHeldWrong : ChangeSpec := { name := "jobHeld", fn := fun _ => fun
  | [d1, d2] => { results := [.lit (.bool false)], args := [d1, d2] }
  | _ => none }
def JobHeldWrongFalsely : Prop := jobHeldRow.holds Try.pinned (OpenSpec.ofChange jobHeldWrong)

/- THE SECOND FORM. 'bulk': how many values and letters a reading holds, each counted each time it is reached (what is shared counts as often as it is met; a slice's spare places count too). A statement '..UptoSaid' is the law's where the arguments, and the package variables that the reading takes, are together of bulk at most 1048576: NARROWER than '..Said'. Prove '..Said' where nothing that the law and all that it calls make is longer than what came in: it says more and counts as full. Else prove '..UptoSaid'. A law counts once. -/
mutual
def uptoBulk {H : Type} : DataW H → Nat
  | .lit (.string bytes) => bytes.length + 1
  | .lit _ => 1
  | .nil => 1
  | .ptr d => uptoBulk d + 1
  | .slice elems spare => uptoBulkAll elems + uptoBulkAll spare + 1
  | .agg parts => uptoBulkAll parts + 1
  | .iface _ d => uptoBulk d + 1
  | .map entries => uptoBulkEntries entries + 1
  | .held _ => 1
def uptoBulkAll {H : Type} : List (DataW H) → Nat
  | [] => 0
  | d :: r => uptoBulk d + uptoBulkAll r
def uptoBulkEntries {H : Type} : List (Lit × DataW H) → Nat
  | [] => 0
  | x :: r => uptoBulkEntry x + uptoBulkEntries r
def uptoBulkEntry {H : Type} : Lit × DataW H → Nat
  | (.string bytes, d) => bytes.length + uptoBulk d + 1
  | (_, d) => uptoBulk d + 1
 end
def uptoSmall : (H : Type) → List (DataW H) → Bool := fun _ ds => decide (uptoBulkAll ds ≤ 1048576)
def OpenSpec.upto (s : _root_.Go.ChangeSpec) : _root_.Go.OpenSpec := { _root_.Go.OpenSpec.ofChange s with cond := some uptoSmall }

/-- 'foliotlaw22.FaultTwice', WHERE WHAT IT READS IS OF BULK AT MOST 1048576: true; the input reads as it did. -/
def faultTwiceUptoRow : OpenClaim := { program := "ytgjeondicdipaaa", sum := "912d828d0336011ab62c506741870a20157a1b7733bd3f8cb65e6730c5be88ff", func := "foliot/foliotlaw22.FaultTwice", spec := "faultTwice", unfollowed := true, recurses := true, apart := false, narrowed := true }
def FaultTwiceUptoSaid : Prop := faultTwiceUptoRow.holds Try.pinned (OpenSpec.upto faultTwiceSpec)

/-- 'foliotlaw19.JobLost', WHERE WHAT IT READS IS OF BULK AT MOST 1048576: true; the input reads as it did. -/
def jobLostUptoRow : OpenClaim := { program := "ytgjeondicdipaaa", sum := "912d828d0336011ab62c506741870a20157a1b7733bd3f8cb65e6730c5be88ff", func := "foliot/foliotlaw19.JobLost", spec := "jobLost", apart := false, narrowed := true }
def JobLostUptoSaid : Prop := jobLostUptoRow.holds Try.pinned (OpenSpec.upto jobLostSpec)

/-- 'foliotlaw19.JobHeld', WHERE WHAT IT READS IS OF BULK AT MOST 1048576: true; the input reads as it did. -/
def jobHeldUptoRow : OpenClaim := { program := "ytgjeondicdipaaa", sum := "912d828d0336011ab62c506741870a20157a1b7733bd3f8cb65e6730c5be88ff", func := "foliot/foliotlaw19.JobHeld", spec := "jobHeld", apart := false, narrowed := true }
def JobHeldUptoSaid : Prop := jobHeldUptoRow.holds Try.pinned (OpenSpec.upto jobHeldSpec)

end Rows
end Go.Proofs.Ytgjeondicdipaaa
