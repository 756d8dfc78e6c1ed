/- Tools for walks over the abstract state. Plain lemmas: no statement of the program. -/
import Derived.Test.YtolejglfohagnaaWB20
namespace Go.Proofs.YtolejglfohagnaaW.AW
open Go Go.RowKit
set_option linter.unusedVariables false
set_option linter.unusedSimpArgs false

/-- Slots by a list. -/
def ofL : List (Nat × PV) → Nat → PV
  | [], _ => .und
  | (k, v) :: r, t => if t = k then v else ofL r t
theorem ofL_n {t : Nat} : ofL [] t = .und := rfl
theorem ofL_c {k t : Nat} {v : PV} {r : List (Nat × PV)} : ofL ((k, v) :: r) t = if t = k then v else ofL r t := rfl
theorem mi64 : IntKind.i64.min = -9223372036854775808 := rfl
theorem ma64 : IntKind.i64.max = 9223372036854775807 := rfl
theorem miu8 : IntKind.u8.min = 0 := rfl
theorem mau8 : IntKind.u8.max = 255 := rfl
theorem miu64 : IntKind.u64.min = 0 := rfl
theorem mau64 : IntKind.u64.max = 18446744073709551615 := rfl
theorem mi32 : IntKind.i32.min = -2147483648 := rfl
theorem ma32 : IntKind.i32.max = 2147483647 := rfl
theorem pick_or {t y : Bool} : (bif t then true else y) = (t || y) := by cases t <;> rfl
theorem pick_and {t y : Bool} : (bif t then y else false) = (t && y) := by cases t <;> rfl
theorem w64 {n : Int} (h0 : -9223372036854775808 ≤ n := by omega) (h1 : n ≤ 9223372036854775807 := by omega) : IntKind.i64.wrap n = n := by rw [IntKind.wrap_i64]; omega
theorem ofL_of {Q : PV → PV → Prop} (hu : ∀ p, Q p .und) {f : Nat → PV} : ∀ {l : List (Nat × PV)}, (∀ kp ∈ l, Q (f kp.1) kp.2) → ∀ t, Q (f t) (ofL l t)
  | [], _, t => hu _
  | (k, v) :: r, h, t => by
    unfold ofL
    by_cases e : t = k
    · rw [if_pos e, e]; exact h (k, v) (by simp)
    · rw [if_neg e]; exact ofL_of hu (fun kp hkp => h kp (by simp [hkp])) t
section
variable {C : Cx} {P : Program} {c : Code} {Q : Exit → AS → Prop} {s : AS}
/-- Rounds, by a measure. -/
theorem AL.ind {X : Type} (st : X → AS) (μ : X → Nat) (I : X → Prop) (h : ∀ x, I x → (∀ y, I y → μ y < μ x → AL C P c Q (st y)) → vc C P c (thenA (AL C P c Q) Q) (st x)) (x : X) (hx : I x) : AL C P c Q (st x) := by
  have key : ∀ n x, μ x = n → I x → AL C P c Q (st x) := by
    intro n
    induction n using Nat.strongRecOn with
    | _ n ih =>
      intro x hn hx
      exact AL_round (vc_ok _ _ _ (h x hx (fun y hy hlt => ih (μ y) (hn ▸ hlt) y rfl hy)))
  exact key _ x rfl hx
end
/-- The frame's tests, the code's forms: for simp. -/
theorem vc_seq {C : Cx} {P : Program} {a b : Code} {Q : Exit → AS → Prop} {s : AS} : vc C P (.seq a b) Q s = vc C P a (thenA (vc C P b Q) Q) s := rfl
end Go.Proofs.YtolejglfohagnaaW.AW
