/- WishOk of the program and of the reference give the same answer at every wish. No condition. -/
import Derived.Test.YtiennogfdnlfiaaPreFnExactWishOk
import Derived.Test.YtiennogfdnlfiaaWMath
namespace Go.Proofs.Ytiennogfdnlfiaa.Pure
open Go.RowKit Go.Proofs.Ytiennogfdnlfiaa.PFnExactWishOk Go.Proofs.Ytiennogfdnlfiaa.PreFnExactWishOk Go.Proofs.YtiennogfdnlfiaaW.PrintWords Go.Proofs.YtiennogfdnlfiaaW.PrintLast Go.Proofs.YtiennogfdnlfiaaW.PrintMore Go.Proofs.YtiennogfdnlfiaaW.Math
set_option linter.unusedVariables false
set_option linter.unusedSimpArgs false

theorem same (a b c : Int) : impl_WishOk.f a b c = spec_WishOk.f a b c := rfl
theorem some_ (a b c : Int) : ∃ r, spec_WishOk.f a b c = some r := by
  unfold spec_WishOk.f
  repeat' split
  all_goals exact ⟨_, rfl⟩
theorem FnExactWishOk : PreFnExactWishOk.Pure := by
  intro a b c _ _ _
  obtain ⟨r, hr⟩ := some_ a b c
  simp [laws_FnExactWishOk.f, laws_toWish.f, same, hr]

end Go.Proofs.Ytiennogfdnlfiaa.Pure
