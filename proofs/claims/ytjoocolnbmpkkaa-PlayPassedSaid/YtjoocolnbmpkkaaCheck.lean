/- Each function's code was read as it stands. No conditions. -/
import Derived.Test.YtjoocolnbmpkkaaTypes
import Derived.Test.YtjoocolnbmpkkaaChecked
import Derived.KernelRfl
import Derived.Test.YtjoocolnbmpkkaaFwD
namespace Go.Cd
open Go Go.Fw Go.Proofs
set_option maxRecDepth 100000 in
theorem allOk : kl.all (fun x => fnOk Try.prog FT x.1 x.2) = true := by kernel_rfl
set_option maxRecDepth 100000 in
theorem allSgs : tl.all (fun x => sgsOk Try.prog FT x.1) = true := by kernel_rfl
theorem okAll : ∀ f kf, kp f = some kf → fnOk Try.prog FT f kf = true := fun _ _ h => lookup_all (p := fun x => fnOk Try.prog FT x.1 x.2) allOk h
theorem sgsAll : ∀ f, sgsOk Try.prog FT f = true := fun f => sgs_all allSgs f
end Go.Cd
