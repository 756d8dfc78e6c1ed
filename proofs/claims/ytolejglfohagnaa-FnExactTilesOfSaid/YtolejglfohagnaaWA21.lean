/- Tools for walks over the abstract state. Plain lemmas: no statement of the program. -/
import Derived.Test.YtolejglfohagnaaWA20
namespace Go.Proofs.YtolejglfohagnaaW.AW
open Go Go.RowKit
set_option linter.unusedVariables false
set_option linter.unusedSimpArgs false

/-- Slots by a list. -/
def ofL : List (Nat × PV) → Nat → PV
  | [], _ => .und
  | (k, v) :: r, t => if t = k then v else ofL r t
theorem mi64 : IntKind.i64.min = -9223372036854775808 := rfl
theorem ma64 : IntKind.i64.max = 9223372036854775807 := rfl
theorem miu8 : IntKind.u8.min = 0 := rfl
theorem mau8 : IntKind.u8.max = 255 := rfl
theorem miu64 : IntKind.u64.min = 0 := rfl
theorem mau64 : IntKind.u64.max = 18446744073709551615 := rfl
theorem mi32 : IntKind.i32.min = -2147483648 := rfl
theorem ma32 : IntKind.i32.max = 2147483647 := rfl
theorem pick_or {t y : Bool} : (bif t then true else y) = (t || y) := by cases t <;> rfl
theorem pick_and {t y : Bool} : (bif t then y else false) = (t && y) := by cases t <;> rfl
theorem w64 {n : Int} (h0 : -9223372036854775808 ≤ n := by omega) (h1 : n ≤ 9223372036854775807 := by omega) : IntKind.i64.wrap n = n := by rw [IntKind.wrap_i64]; omega
/-- It is told of itself without memory. -/
def Clo (p : PV) : Prop := ∀ m F, Wc m F p p
theorem Clo_und : Clo .und := fun _ _ => .und _
theorem Clo_bool {b} : Clo (.bool b) := fun _ _ => .bool b
theorem Clo_int {k n} : Clo (.int k n) := fun _ _ => .int k n
theorem Clo_str {s} : Clo (.str s) := fun _ _ => .str s
theorem Clo_nils : Clo .nils := fun _ _ => .nils
theorem Clo_cl {sz n g} : Clo (.cl sz n g) := fun _ _ => .cl sz n g g (fun _ _ => rfl)
theorem Clo_pc {ps} : Clo (.pc ps) := fun _ _ => .pc ps
theorem Clo_ag {ps : List PV} (h : ∀ p ∈ ps, Clo p) : Clo (.ag ps) := fun m F => .ag _ _ rfl (fun j p q h1 h2 => by rw [h1] at h2; cases h2; exact h p (List.mem_of_getElem? h1) m F)
theorem Clo_tu {ps : List PV} (h : ∀ p ∈ ps, Clo p) : Clo (.tu ps) := fun m F => .tu _ _ rfl (fun j p q h1 h2 => by rw [h1] at h2; cases h2; exact h p (List.mem_of_getElem? h1) m F)
theorem ofL_of {Q : PV → PV → Prop} (hu : ∀ p, Q p .und) {f : Nat → PV} : ∀ {l : List (Nat × PV)}, (∀ kp ∈ l, Q (f kp.1) kp.2) → ∀ t, Q (f t) (ofL l t)
  | [], _, t => hu _
  | (k, v) :: r, h, t => by
    unfold ofL
    by_cases e : t = k
    · rw [if_pos e, e]; exact h (k, v) (by simp)
    · rw [if_neg e]; exact ofL_of hu (fun kp hkp => h kp (by simp [hkp])) t
section
variable {C : Cx} {P : Program} {c : Code} {Q : Exit → AS → Prop} {s : AS}
theorem WkM_E {n0 n : Nat} {m : Mem} {F : Id → Prop} (h : n0 ≤ n) : WkM n0 m F id (E n) := ⟨fun o x h => by simp [E] at h, fun o o' x x' h => by simp [E] at h, fun _ _ => rfl, h⟩
theorem Weak_E {n : Nat} {l : List (Nat × PV)} (hn : C.m0.nx ≤ n) (h : ∀ kp ∈ l, s.t kp.1 = kp.2 ∧ Clo kp.2) : Weak C.m0.nx s (fun _ => False) id ⟨ofL l, E n⟩ :=
  ⟨ofL_of (fun p => .c _ _ (.und p)) (fun kp hkp => by obtain ⟨h1, h2⟩ := h kp hkp; rw [h1]; exact .c _ _ (h2 _ _)), WkM_E hn⟩
/-- A loop's head: closed values in slots, no memory. -/
theorem AL.head {n : Nat} (l : List (Nat × PV)) (hn : C.m0.nx ≤ n) (h : ∀ kp ∈ l, s.t kp.1 = kp.2 ∧ Clo kp.2) (hw : AL C P c Q ⟨ofL l, E n⟩) : AL C P c Q s := hw.weak (Weak_E hn h)
theorem AW.head {n : Nat} (l : List (Nat × PV)) (hn : C.m0.nx ≤ n) (h : ∀ kp ∈ l, s.t kp.1 = kp.2 ∧ Clo kp.2) (hw : AW C P c Q ⟨ofL l, E n⟩) : AW C P c Q s := hw.weak (Weak_E hn h)
/-- Rounds, by a measure. -/
theorem AL.ind {X : Type} (st : X → AS) (μ : X → Nat) (I : X → Prop) (h : ∀ x, I x → (∀ y, I y → μ y < μ x → AL C P c Q (st y)) → vc C P c (thenA (AL C P c Q) Q) (st x)) (x : X) (hx : I x) : AL C P c Q (st x) := by
  have key : ∀ n x, μ x = n → I x → AL C P c Q (st x) := by
    intro n
    induction n using Nat.strongRecOn with
    | _ n ih =>
      intro x hn hx
      exact AL_round (vc_ok _ _ _ (h x hx (fun y hy hlt => ih (μ y) (hn ▸ hlt) y rfl hy)))
  exact key _ x rfl hx
/-- An answer that is closed; the function's memory goes. -/
theorem Ret_pure {rs : List ResultVar} {n0 : Nat} {r : PV} {e : Exit} (he : e = .ret ∨ e = .normal) (hok : (ares P s rs).ok) (hv : (ares P s rs).v = r) (hc : Clo r) : RetQ P rs n0 r (E n0) e s :=
  ⟨he, hok, fun _ => False, id, .c _ _ (by rw [hv]; exact hc _ _), WkM_E (Nat.le_refl _)⟩
end
/-- The frame's tests, the code's forms: for simp. -/
theorem vc_seq {C : Cx} {P : Program} {a b : Code} {Q : Exit → AS → Prop} {s : AS} : vc C P (.seq a b) Q s = vc C P a (thenA (vc C P b Q) Q) s := rfl
end Go.Proofs.YtolejglfohagnaaW.AW
