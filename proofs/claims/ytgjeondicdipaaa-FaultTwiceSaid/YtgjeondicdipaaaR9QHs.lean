/- What handles a block has. No conditions. -/
import Derived.Test.YtgjeondicdipaaaR9QPk6
set_option linter.unusedVariables false
set_option linter.unusedSimpArgs false
namespace Go.Cd
open Go Go.Fw
theorem hsB (v : V) : Blk.hs (.box v) = v.hs := rfl
theorem hsR (o : Bool) (l : List D) : Blk.hs (.row o l) = [] := rfl
theorem hsD : Blk.hs .dead = [] := rfl
theorem renB (f : Nat → Nat) (v : V) : Blk.ren f (.box v) = .box (v.ren f) := rfl
theorem renR (f : Nat → Nat) (o : Bool) (l : List D) : Blk.ren f (.row o l) = .row o l := rfl
theorem renD (f : Nat → Nat) : Blk.ren f .dead = .dead := rfl
end Go.Cd
