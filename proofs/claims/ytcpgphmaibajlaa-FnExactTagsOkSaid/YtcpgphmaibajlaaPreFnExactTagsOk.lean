/- What the arguments of the statement FnExactTagsOk are, opened off memory; the plain law. -/
import Derived.Test.YtcpgphmaibajlaaQFnExactTagsOkx6
import Derived.Test.YtcpgphmaibajlaaVFnExactTagsOka
namespace Go.Proofs.Ytcpgphmaibajlaa.PreFnExactTagsOk
open Go.RowKit Go.Proofs.Ytcpgphmaibajlaa.PFnExactTagsOk Go.Proofs.YtcpgphmaibajlaaW.PrintWords Go.Proofs.YtcpgphmaibajlaaW.PrintLast Go.Proofs.YtcpgphmaibajlaaW.Open
set_option linter.unusedVariables false
def wf81 (x : S81) : Prop := (x.f0.size ≤ 9223372036854775807 ∧ x.f1.size ≤ 9223372036854775807)
set_option maxRecDepth 100000 in
theorem o81 : Opens Try.prog 81 k81 wf81 := opens_iso (fun x : S81 => (x.f0, x.f1)) (fun p => ⟨p.1, p.2⟩) (fun _ => rfl) (opens_struct Try.underlying81 (by kernel_rfl) (fields_cons rfl (by kernel_rfl) (opens_string Try.underlying9) (fields_one rfl (by kernel_rfl) (opens_string Try.underlying9))))
set_option maxRecDepth 100000 in
/-- Parameter 0: what it is, opened. -/
theorem open0 : Opens Try.prog 28 (Kd.slice 81 k81) (fun l => (l.length ≤ 9223372036854775807 ∧ ∀ y ∈ l, wf81 y)) := (opens_slice 81 Try.underlying28 (by kernel_rfl) o81)
def Pure : Prop := ∀ (l0 : (List S81)), (l0.length ≤ 9223372036854775807 ∧ ∀ y ∈ l0, wf81 y) → ∃ k, laws_FnExactTagsOk.f k l0 = some true
end Go.Proofs.Ytcpgphmaibajlaa.PreFnExactTagsOk
