/- What the arguments of the statement FnExactBounds are, opened off memory; the plain law. -/
import Derived.Test.YtcpgphmaibajlaaQFnExactBoundsx3
import Derived.Test.YtcpgphmaibajlaaVFnExactBoundsa
namespace Go.Proofs.Ytcpgphmaibajlaa.PreFnExactBounds
open Go.RowKit Go.Proofs.Ytcpgphmaibajlaa.PFnExactBounds Go.Proofs.YtcpgphmaibajlaaW.PrintWords Go.Proofs.YtcpgphmaibajlaaW.PrintLast Go.Proofs.YtcpgphmaibajlaaW.Open
set_option linter.unusedVariables false
def wf23 (x : S23) : Prop := ((Lit.int .i64 x.f0).wf = true ∧ (Lit.int .i64 x.f1).wf = true)
set_option maxRecDepth 100000 in
theorem o23 : Opens Try.prog 23 k23 wf23 := opens_iso (fun x : S23 => (x.f0, x.f1)) (fun p => ⟨p.1, p.2⟩) (fun _ => rfl) (opens_struct Try.underlying23 (by kernel_rfl) (fields_cons rfl (by kernel_rfl) (opens_int Try.underlying2) (fields_one rfl (by kernel_rfl) (opens_int Try.underlying2))))
set_option maxRecDepth 100000 in
/-- Parameter 0: what it is, opened. -/
theorem open0 : Opens Try.prog 40 (Kd.slice 23 k23) (fun l => (l.length ≤ 9223372036854775807 ∧ ∀ y ∈ l, wf23 y)) := (opens_slice 23 Try.underlying40 (by kernel_rfl) o23)
def Pure : Prop := ∀ (l0 : (List S23)), (l0.length ≤ 9223372036854775807 ∧ ∀ y ∈ l0, wf23 y) → ∃ k, laws_FnExactBounds.f k l0 = some true
end Go.Proofs.Ytcpgphmaibajlaa.PreFnExactBounds
