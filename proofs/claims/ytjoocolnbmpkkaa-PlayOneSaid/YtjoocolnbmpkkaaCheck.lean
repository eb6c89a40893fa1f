/- Each function's code was read as it stands. No conditions. -/
import Derived.Test.YtjoocolnbmpkkaaTypes
import Derived.Test.YtjoocolnbmpkkaaChecked
import Derived.KernelRfl
import Derived.Test.YtjoocolnbmpkkaaFwD
namespace Go.Cd
open Go Go.Fw Go.Proofs
set_option maxRecDepth 100000 in
theorem allOk : kl.all (fun x => x.2.nat.isNone && fnOk Try.prog FT x.1 x.2) = true := by kernel_rfl
set_option maxRecDepth 100000 in
theorem allSgs : tl.all (fun x => sgsOk Try.prog FT x.1) = true := by kernel_rfl
theorem okOne (f : Nat) (kf : KF) (h : (kf.nat.isNone && fnOk Try.prog FT f kf) = true) : FnOk Try.prog FT f kf := by
  rw [Bool.and_eq_true, Option.isNone_iff_eq_none] at h
  exact .inl h
set_option maxRecDepth 100000 in
theorem okAll : ∀ f kf, kp f = some kf → FnOk Try.prog FT f kf := fun f kf h => okOne f kf (lookup_all (p := fun x => x.2.nat.isNone && fnOk Try.prog FT x.1 x.2) (f := f) (a := kf) allOk h)
theorem sgsAll : ∀ f, sgsOk Try.prog FT f = true := fun f => sgs_all allSgs f
end Go.Cd
