/-
  No cell of these rows narrows 'for every input' (looked for: loops, veiled, ifaces, maps, wideKeys, modest, calm, conditions, laid).
  DERIVED. THE GIVEN ROWS OF THIS SEAT. 8 by the template 'for every input the law returns true; each argument reads behind the call as it read before'; 0 by the template 'total and deterministic' (their statements: YtnchpinimmdfoaaTotals.lean).
  GIVEN WITH THE SEED: the statements are not yours to turn. If you find one false, say at which input.
  Laid BY PROGRAM, IN A SANDBOX (cutbox-rows.mjs): the forced cells as the released guide's own fill.sh prints them over the translation 14ec649a6fc85151… (all of the seat's roots in one cut). By AI agents, Wed Nov 11 2026. No macro, syntax, notation, axiom, sorry.
-/
import Derived.Test.YtnchpinimmdfoaaChecked
import GoSem.Claim
import GoSem.ClaimJoined
import GoSem.ClaimMapViews
import Derived.JoinedTies
import Derived.KernelRfl
namespace Go.Proofs.Ytnchpinimmdfoaa
/- THE CELL 'sum', in the pinned program and in every row, IS THE sha256 OF THE DUMP (.gsa) THAT YtnchpinimmdfoaaProg.lean LOADS. Nothing in Lean hashes anything: it is a label: what it is worth is what the hold of that sum in a sandbox is worth. -/
noncomputable def Try.pinned : Pinned := { name := "ytnchpinimmdfoaa", sum := "14ec649a6fc85151d1b3433ed4a03e41f1777cb506a4be25c6cb3872532159a2", checked := Try.checked }
namespace Rows
def none {H : Type} : Left H := { results := [], args := [] }

/-- 'foliotlaw22.FaultApart': WHATEVER THE INPUT: true; the input reads as it did. -/
def faultApartSpec : ChangeSpec := { name := "faultApart", fn := fun _ => fun
  | [d1, d2, d3, d4] => { results := [.lit (.bool true)], args := [d1, d2, d3, d4] }
  | _ => none }
def faultApartRow : OpenClaim := { program := "ytnchpinimmdfoaa", sum := "14ec649a6fc85151d1b3433ed4a03e41f1777cb506a4be25c6cb3872532159a2", func := "foliot/foliotlaw22.FaultApart", spec := "faultApart", unfollowed := true, recurses := true, plainKeys := false, apart := false }
def FaultApartSaid : Prop := faultApartRow.holds Try.pinned (OpenSpec.ofChange faultApartSpec)

/-- ITS FALSE NEIGHBOUR: 'it returns false'. Refute it at one input. -/
def faultApartWrong : ChangeSpec := { name := "faultApart", fn := fun _ => fun
  | [d1, d2, d3, d4] => { results := [.lit (.bool false)], args := [d1, d2, d3, d4] }
  | _ => none }
def FaultApartWrongFalsely : Prop := faultApartRow.holds Try.pinned (OpenSpec.ofChange faultApartWrong)

/-- 'foliotlaw22.FaultTwice': WHATEVER THE INPUT: true; the input reads as it did. -/
def faultTwiceSpec : ChangeSpec := { name := "faultTwice", fn := fun _ => fun
  | [d1, d2, d3] => { results := [.lit (.bool true)], args := [d1, d2, d3] }
  | _ => none }
def faultTwiceRow : OpenClaim := { program := "ytnchpinimmdfoaa", sum := "14ec649a6fc85151d1b3433ed4a03e41f1777cb506a4be25c6cb3872532159a2", func := "foliot/foliotlaw22.FaultTwice", spec := "faultTwice", unfollowed := true, recurses := true, plainKeys := false, apart := false }
def FaultTwiceSaid : Prop := faultTwiceRow.holds Try.pinned (OpenSpec.ofChange faultTwiceSpec)

/-- ITS FALSE NEIGHBOUR: 'it returns false'. Refute it at one input. -/
def faultTwiceWrong : ChangeSpec := { name := "faultTwice", fn := fun _ => fun
  | [d1, d2, d3] => { results := [.lit (.bool false)], args := [d1, d2, d3] }
  | _ => none }
def FaultTwiceWrongFalsely : Prop := faultTwiceRow.holds Try.pinned (OpenSpec.ofChange faultTwiceWrong)

/-- 'foliotlaw22.FaultLoses': WHATEVER THE INPUT: true; the input reads as it did. -/
def faultLosesSpec : ChangeSpec := { name := "faultLoses", fn := fun _ => fun
  | [d1, d2] => { results := [.lit (.bool true)], args := [d1, d2] }
  | _ => none }
def faultLosesRow : OpenClaim := { program := "ytnchpinimmdfoaa", sum := "14ec649a6fc85151d1b3433ed4a03e41f1777cb506a4be25c6cb3872532159a2", func := "foliot/foliotlaw22.FaultLoses", spec := "faultLoses", unfollowed := true, recurses := true, plainKeys := false, apart := false }
def FaultLosesSaid : Prop := faultLosesRow.holds Try.pinned (OpenSpec.ofChange faultLosesSpec)

/-- ITS FALSE NEIGHBOUR: 'it returns false'. Refute it at one input. -/
def faultLosesWrong : ChangeSpec := { name := "faultLoses", fn := fun _ => fun
  | [d1, d2] => { results := [.lit (.bool false)], args := [d1, d2] }
  | _ => none }
def FaultLosesWrongFalsely : Prop := faultLosesRow.holds Try.pinned (OpenSpec.ofChange faultLosesWrong)

/-- 'foliotlaw22.FaultForms': WHATEVER THE INPUT: true; the input reads as it did. -/
def faultFormsSpec : ChangeSpec := { name := "faultForms", fn := fun _ => fun
  | [] => { results := [.lit (.bool true)], args := [] }
  | _ => none }
def faultFormsRow : OpenClaim := { program := "ytnchpinimmdfoaa", sum := "14ec649a6fc85151d1b3433ed4a03e41f1777cb506a4be25c6cb3872532159a2", func := "foliot/foliotlaw22.FaultForms", spec := "faultForms", unfollowed := true, recurses := true, plainKeys := false, apart := false }
def FaultFormsSaid : Prop := faultFormsRow.holds Try.pinned (OpenSpec.ofChange faultFormsSpec)

/-- ITS FALSE NEIGHBOUR: 'it returns false'. Refute it at one input. -/
def faultFormsWrong : ChangeSpec := { name := "faultForms", fn := fun _ => fun
  | [] => { results := [.lit (.bool false)], args := [] }
  | _ => none }
def FaultFormsWrongFalsely : Prop := faultFormsRow.holds Try.pinned (OpenSpec.ofChange faultFormsWrong)

/-- 'foliotlaw21.PickAll': WHATEVER THE INPUT: true; the input reads as it did. -/
def pickAllSpec : ChangeSpec := { name := "pickAll", fn := fun _ => fun
  | [d1, d2, d3, d4] => { results := [.lit (.bool true)], args := [d1, d2, d3, d4] }
  | _ => none }
def pickAllRow : OpenClaim := { program := "ytnchpinimmdfoaa", sum := "14ec649a6fc85151d1b3433ed4a03e41f1777cb506a4be25c6cb3872532159a2", func := "foliot/foliotlaw21.PickAll", spec := "pickAll", plainKeys := false, apart := false }
def PickAllSaid : Prop := pickAllRow.holds Try.pinned (OpenSpec.ofChange pickAllSpec)

/-- ITS FALSE NEIGHBOUR: 'it returns false'. Refute it at one input. -/
def pickAllWrong : ChangeSpec := { name := "pickAll", fn := fun _ => fun
  | [d1, d2, d3, d4] => { results := [.lit (.bool false)], args := [d1, d2, d3, d4] }
  | _ => none }
def PickAllWrongFalsely : Prop := pickAllRow.holds Try.pinned (OpenSpec.ofChange pickAllWrong)

/-- 'foliotlaw21.PickFirst': WHATEVER THE INPUT: true; the input reads as it did. -/
def pickFirstSpec : ChangeSpec := { name := "pickFirst", fn := fun _ => fun
  | [d1, d2] => { results := [.lit (.bool true)], args := [d1, d2] }
  | _ => none }
def pickFirstRow : OpenClaim := { program := "ytnchpinimmdfoaa", sum := "14ec649a6fc85151d1b3433ed4a03e41f1777cb506a4be25c6cb3872532159a2", func := "foliot/foliotlaw21.PickFirst", spec := "pickFirst", plainKeys := false, apart := false }
def PickFirstSaid : Prop := pickFirstRow.holds Try.pinned (OpenSpec.ofChange pickFirstSpec)

/-- ITS FALSE NEIGHBOUR: 'it returns false'. Refute it at one input. -/
def pickFirstWrong : ChangeSpec := { name := "pickFirst", fn := fun _ => fun
  | [d1, d2] => { results := [.lit (.bool false)], args := [d1, d2] }
  | _ => none }
def PickFirstWrongFalsely : Prop := pickFirstRow.holds Try.pinned (OpenSpec.ofChange pickFirstWrong)

/-- 'foliotlaw21.PickForms': WHATEVER THE INPUT: true; the input reads as it did. -/
def pickFormsSpec : ChangeSpec := { name := "pickForms", fn := fun _ => fun
  | [] => { results := [.lit (.bool true)], args := [] }
  | _ => none }
def pickFormsRow : OpenClaim := { program := "ytnchpinimmdfoaa", sum := "14ec649a6fc85151d1b3433ed4a03e41f1777cb506a4be25c6cb3872532159a2", func := "foliot/foliotlaw21.PickForms", spec := "pickForms", plainKeys := false, apart := false }
def PickFormsSaid : Prop := pickFormsRow.holds Try.pinned (OpenSpec.ofChange pickFormsSpec)

/-- ITS FALSE NEIGHBOUR: 'it returns false'. Refute it at one input. -/
def pickFormsWrong : ChangeSpec := { name := "pickForms", fn := fun _ => fun
  | [] => { results := [.lit (.bool false)], args := [] }
  | _ => none }
def PickFormsWrongFalsely : Prop := pickFormsRow.holds Try.pinned (OpenSpec.ofChange pickFormsWrong)

/-- 'foliotlaw21.PickMore': WHATEVER THE INPUT: true; the input reads as it did. -/
def pickMoreSpec : ChangeSpec := { name := "pickMore", fn := fun _ => fun
  | [d1, d2] => { results := [.lit (.bool true)], args := [d1, d2] }
  | _ => none }
def pickMoreRow : OpenClaim := { program := "ytnchpinimmdfoaa", sum := "14ec649a6fc85151d1b3433ed4a03e41f1777cb506a4be25c6cb3872532159a2", func := "foliot/foliotlaw21.PickMore", spec := "pickMore", plainKeys := false, apart := false }
def PickMoreSaid : Prop := pickMoreRow.holds Try.pinned (OpenSpec.ofChange pickMoreSpec)

/-- ITS FALSE NEIGHBOUR: 'it returns false'. Refute it at one input. -/
def pickMoreWrong : ChangeSpec := { name := "pickMore", fn := fun _ => fun
  | [d1, d2] => { results := [.lit (.bool false)], args := [d1, d2] }
  | _ => none }
def PickMoreWrongFalsely : Prop := pickMoreRow.holds Try.pinned (OpenSpec.ofChange pickMoreWrong)

/- THE SECOND FORM. 'bulk': how many values and letters a reading holds, each counted each time it is reached (what is shared counts as often as it is met; a slice's spare places count too). A statement '..UptoSaid' is the law's where the arguments, and the package variables that the reading takes, are together of bulk at most 1048576: NARROWER than '..Said'. Prove '..Said' where nothing that the law and all that it calls make is longer than what came in: it says more and counts as full. Else prove '..UptoSaid'. A law counts once. -/
mutual
def uptoBulk {H : Type} : DataW H → Nat
  | .lit (.string bytes) => bytes.length + 1
  | .lit _ => 1
  | .nil => 1
  | .ptr d => uptoBulk d + 1
  | .slice elems spare => uptoBulkAll elems + uptoBulkAll spare + 1
  | .agg parts => uptoBulkAll parts + 1
  | .iface _ d => uptoBulk d + 1
  | .map entries => uptoBulkEntries entries + 1
  | .held _ => 1
def uptoBulkAll {H : Type} : List (DataW H) → Nat
  | [] => 0
  | d :: r => uptoBulk d + uptoBulkAll r
def uptoBulkEntries {H : Type} : List (Lit × DataW H) → Nat
  | [] => 0
  | x :: r => uptoBulkEntry x + uptoBulkEntries r
def uptoBulkEntry {H : Type} : Lit × DataW H → Nat
  | (.string bytes, d) => bytes.length + uptoBulk d + 1
  | (_, d) => uptoBulk d + 1
 end
def uptoSmall : (H : Type) → List (DataW H) → Bool := fun _ ds => decide (uptoBulkAll ds ≤ 1048576)
def OpenSpec.upto (s : _root_.Go.ChangeSpec) : _root_.Go.OpenSpec := { _root_.Go.OpenSpec.ofChange s with cond := some uptoSmall }

/-- 'foliotlaw22.FaultApart', WHERE WHAT IT READS IS OF BULK AT MOST 1048576: true; the input reads as it did. -/
def faultApartUptoRow : OpenClaim := { program := "ytnchpinimmdfoaa", sum := "14ec649a6fc85151d1b3433ed4a03e41f1777cb506a4be25c6cb3872532159a2", func := "foliot/foliotlaw22.FaultApart", spec := "faultApart", unfollowed := true, recurses := true, plainKeys := false, apart := false, narrowed := true }
def FaultApartUptoSaid : Prop := faultApartUptoRow.holds Try.pinned (OpenSpec.upto faultApartSpec)

/-- 'foliotlaw22.FaultTwice', WHERE WHAT IT READS IS OF BULK AT MOST 1048576: true; the input reads as it did. -/
def faultTwiceUptoRow : OpenClaim := { program := "ytnchpinimmdfoaa", sum := "14ec649a6fc85151d1b3433ed4a03e41f1777cb506a4be25c6cb3872532159a2", func := "foliot/foliotlaw22.FaultTwice", spec := "faultTwice", unfollowed := true, recurses := true, plainKeys := false, apart := false, narrowed := true }
def FaultTwiceUptoSaid : Prop := faultTwiceUptoRow.holds Try.pinned (OpenSpec.upto faultTwiceSpec)

/-- 'foliotlaw22.FaultLoses', WHERE WHAT IT READS IS OF BULK AT MOST 1048576: true; the input reads as it did. -/
def faultLosesUptoRow : OpenClaim := { program := "ytnchpinimmdfoaa", sum := "14ec649a6fc85151d1b3433ed4a03e41f1777cb506a4be25c6cb3872532159a2", func := "foliot/foliotlaw22.FaultLoses", spec := "faultLoses", unfollowed := true, recurses := true, plainKeys := false, apart := false, narrowed := true }
def FaultLosesUptoSaid : Prop := faultLosesUptoRow.holds Try.pinned (OpenSpec.upto faultLosesSpec)

/-- 'foliotlaw22.FaultForms', WHERE WHAT IT READS IS OF BULK AT MOST 1048576: true; the input reads as it did. -/
def faultFormsUptoRow : OpenClaim := { program := "ytnchpinimmdfoaa", sum := "14ec649a6fc85151d1b3433ed4a03e41f1777cb506a4be25c6cb3872532159a2", func := "foliot/foliotlaw22.FaultForms", spec := "faultForms", unfollowed := true, recurses := true, plainKeys := false, apart := false, narrowed := true }
def FaultFormsUptoSaid : Prop := faultFormsUptoRow.holds Try.pinned (OpenSpec.upto faultFormsSpec)

/-- 'foliotlaw21.PickAll', WHERE WHAT IT READS IS OF BULK AT MOST 1048576: true; the input reads as it did. -/
def pickAllUptoRow : OpenClaim := { program := "ytnchpinimmdfoaa", sum := "14ec649a6fc85151d1b3433ed4a03e41f1777cb506a4be25c6cb3872532159a2", func := "foliot/foliotlaw21.PickAll", spec := "pickAll", plainKeys := false, apart := false, narrowed := true }
def PickAllUptoSaid : Prop := pickAllUptoRow.holds Try.pinned (OpenSpec.upto pickAllSpec)

/-- 'foliotlaw21.PickFirst', WHERE WHAT IT READS IS OF BULK AT MOST 1048576: true; the input reads as it did. -/
def pickFirstUptoRow : OpenClaim := { program := "ytnchpinimmdfoaa", sum := "14ec649a6fc85151d1b3433ed4a03e41f1777cb506a4be25c6cb3872532159a2", func := "foliot/foliotlaw21.PickFirst", spec := "pickFirst", plainKeys := false, apart := false, narrowed := true }
def PickFirstUptoSaid : Prop := pickFirstUptoRow.holds Try.pinned (OpenSpec.upto pickFirstSpec)

/-- 'foliotlaw21.PickForms', WHERE WHAT IT READS IS OF BULK AT MOST 1048576: true; the input reads as it did. -/
def pickFormsUptoRow : OpenClaim := { program := "ytnchpinimmdfoaa", sum := "14ec649a6fc85151d1b3433ed4a03e41f1777cb506a4be25c6cb3872532159a2", func := "foliot/foliotlaw21.PickForms", spec := "pickForms", plainKeys := false, apart := false, narrowed := true }
def PickFormsUptoSaid : Prop := pickFormsUptoRow.holds Try.pinned (OpenSpec.upto pickFormsSpec)

/-- 'foliotlaw21.PickMore', WHERE WHAT IT READS IS OF BULK AT MOST 1048576: true; the input reads as it did. -/
def pickMoreUptoRow : OpenClaim := { program := "ytnchpinimmdfoaa", sum := "14ec649a6fc85151d1b3433ed4a03e41f1777cb506a4be25c6cb3872532159a2", func := "foliot/foliotlaw21.PickMore", spec := "pickMore", plainKeys := false, apart := false, narrowed := true }
def PickMoreUptoSaid : Prop := pickMoreUptoRow.holds Try.pinned (OpenSpec.upto pickMoreSpec)

end Rows
end Go.Proofs.Ytnchpinimmdfoaa
