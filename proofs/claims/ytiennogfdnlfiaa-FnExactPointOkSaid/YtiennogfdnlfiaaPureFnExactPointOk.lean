/- PointOk of the program and of the reference give the same answer at every point. No condition. -/
import Derived.Test.YtiennogfdnlfiaaPreFnExactPointOk
import Derived.Test.YtiennogfdnlfiaaWMath
namespace Go.Proofs.Ytiennogfdnlfiaa.Pure
open Go.RowKit Go.Proofs.Ytiennogfdnlfiaa.PFnExactPointOk Go.Proofs.Ytiennogfdnlfiaa.PreFnExactPointOk Go.Proofs.YtiennogfdnlfiaaW.PrintWords Go.Proofs.YtiennogfdnlfiaaW.PrintLast Go.Proofs.YtiennogfdnlfiaaW.PrintMore Go.Proofs.YtiennogfdnlfiaaW.Math
set_option linter.unusedVariables false
set_option linter.unusedSimpArgs false

theorem spec_ok (x y : Int) : spec_PointOk.f x y = some (decide (OkP x y)) := by
  unfold spec_PointOk.f OkP
  grind

theorem impl_ok (x y : Int) : impl_PointOk.f x y = some (decide (OkP x y)) := by
  unfold impl_PointOk.f OkP
  grind

theorem FnExactPointOk : PreFnExactPointOk.Pure := by
  intro x y _ _
  simp [laws_FnExactPointOk.f, laws_toPoint.f, spec_ok, impl_ok]

end Go.Proofs.Ytiennogfdnlfiaa.Pure
