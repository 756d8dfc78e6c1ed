/- Code, loops. Plain lemmas: no statement of the program. -/
import Derived.Test.YtolejglfohagnaaWB17C
namespace Go.Proofs.YtolejglfohagnaaW.AW
open Go Go.RowKit
set_option linter.unusedVariables false
set_option linter.unusedSimpArgs false

/-- The model's post of the words' post. -/
def Cx.post (C : Cx) (Q : Exit → AS → Prop) (e : Exit) (a : Act) (w : World) : Prop := ∃ s, C.FR s a w ∧ Q e s
/-- THE JUDGEMENT: from every frame that s tells of the code comes to one that Q tells of. -/
def AW (C : Cx) (P : Program) (c : Code) (Q : Exit → AS → Prop) (s : AS) : Prop := ∀ a w, C.FR s a w → c.wp P (C.post Q) a w
def thenA (K : AS → Prop) (Q : Exit → AS → Prop) : Exit → AS → Prop
  | .normal, s => K s
  | e, s => Q e s
def blockA (id : Nat) (Q : Exit → AS → Prop) : Exit → AS → Prop
  | .exit n, s => if n = id then Q .normal s else Q (.exit n) s
  | e, s => Q e s
/-- From a loop's head on. -/
def AL (C : Cx) (P : Program) (c : Code) (Q : Exit → AS → Prop) (s : AS) : Prop := ∀ a w, C.FR s a w → ∀ (b : Frame) (k : List Item) (cs : List Frame), ∃ e a' w', C.post Q e a' w' ∧ Arrives P (lone (b.at a (.code c :: .inLoop c :: k)) cs w) b k cs e a' w'

section
variable {P : Program} {C : Cx} {Q : Exit → AS → Prop} {s : AS} {ops : Array Oper}
/-- What code asks of the state that it is come to in. -/
def vc (C : Cx) (P : Program) : Code → (Exit → AS → Prop) → AS → Prop
  | .skip, Q, s => Q .normal s
  | .ret, Q, s => Q .ret s
  | .exit n, Q, s => Q (.exit n) s
  | .seq a b, Q, s => vc C P a (thenA (vc C P b Q) Q) s
  | .block id c, Q, s => vc C P c (blockA id Q) s
  | .cond c a b, Q, s => match s.ev c with | .bool t => (t = true → vc C P a Q s) ∧ (t = false → vc C P b Q s) | _ => False
  | .region _ ops false, Q, s => arun P C.nt (ops.toList.map (·.dst)) ops.toList (Q .normal) s
  | .region id ops true, Q, s => P.follows .mixedOrders = true ∧ drawOk ops = true ∧ arunD P C.nt (ops.toList.map (·.dst)) (nds ops.toList []) 0 [] [] ops.toList (Q .normal) s
  | .loop c, Q, s => AL C P c Q s
  | c, Q, s => AW C P c Q s
theorem AW.mono {c : Code} {Q' : Exit → AS → Prop} (h : AW C P c Q s) (hq : ∀ e s, Q e s → Q' e s) : AW C P c Q' s := fun a w hf => wp_mono (h a w hf) (fun e a w ⟨s', h1, h2⟩ => ⟨s', h1, hq e s' h2⟩)
theorem AW_loop {c : Code} (h : AL C P c Q s) : AW C P (.loop c) Q s := fun a w hf b k cs => by
  obtain ⟨e, a', w', hq, hr⟩ := h a w hf b k cs
  exact ⟨e, a', w', hq, .of_steps (.one step_loop) hr⟩
/-- One round of a loop. -/
theorem AL_round {c : Code} (h : AW C P c (thenA (AL C P c Q) Q) s) : AL C P c Q s := fun a w hf b k cs => by
  obtain ⟨e, a₁, w₁, ⟨s', hs, hq⟩, harr⟩ := h a w hf b (.inLoop c :: k) cs
  cases e with
  | normal =>
    obtain ⟨e₂, a₂, w₂, hq₂, harr₂⟩ := hq a₁ w₁ hs b k cs
    exact ⟨e₂, a₂, w₂, hq₂, .of_steps (Steps.trans harr (.one step_inLoop)) harr₂⟩
  | exit id => exact ⟨_, a₁, w₁, ⟨s', hs, hq⟩, .pass (x := .inLoop c) rfl (fun _ _ => .inl (by simp)) harr⟩
  | goto l => exact ⟨_, a₁, w₁, ⟨s', hs, hq⟩, .pass (x := .inLoop c) rfl (fun _ _ => .inl (by simp)) harr⟩
  | ret => exact ⟨_, a₁, w₁, ⟨s', hs, hq⟩, .pass (x := .inLoop c) rfl (fun _ _ => .inl (by simp)) harr⟩
  | panic ch => exact ⟨_, a₁, w₁, ⟨s', hs, hq⟩, .pass (x := .inLoop c) rfl (fun _ _ => .inl (by simp)) harr⟩
  | outgrown => exact ⟨_, a₁, w₁, ⟨s', hs, hq⟩, .pass (x := .inLoop c) rfl (fun _ _ => .inl (by simp)) harr⟩
theorem vc_ok : ∀ (c : Code) (Q : Exit → AS → Prop) (s : AS), vc C P c Q s → AW C P c Q s
  | .skip, Q, s, h => fun a w hf => wp_skip ⟨s, hf, h⟩
  | .ret, Q, s, h => fun a w hf => wp_ret ⟨s, hf, h⟩
  | .exit n, Q, s, h => fun a w hf => wp_exit ⟨s, hf, h⟩
  | .seq x y, Q, s, h => fun a w hf => by
    refine wp_seq (wp_mono (vc_ok x _ s h a w hf) (fun e a' w' hq => ?_))
    obtain ⟨s', h1, h2⟩ := hq
    cases e with
    | normal => exact vc_ok y Q s' h2 a' w' h1
    | _ => exact ⟨s', h1, h2⟩
  | .block id c, Q, s, h => fun a w hf => by
    refine wp_block (wp_mono (vc_ok c _ s h a w hf) (fun e a' w' hq => ?_))
    obtain ⟨s', h1, h2⟩ := hq
    cases e with
    | exit n =>
      simp only [Exit.inBlock, blockA] at h2 ⊢
      split <;> rename_i hn
      · rw [if_pos hn] at h2; exact ⟨s', h1, h2⟩
      · rw [if_neg hn] at h2; exact ⟨s', h1, h2⟩
    | _ => exact ⟨s', h1, h2⟩
  | .cond c x y, Q, s, h => fun a w hf => by
    simp only [vc] at h
    split at h
    · rename_i t ht
      have hv : a.eval c = .bool t := by
        obtain ⟨β, κ, A, S, hf'⟩ := hf
        have := ev_ok (cs := []) hf' rfl c
        rw [ht] at this
        exact this.bool_inv
      refine wp_cond_split hv (fun e => vc_ok x Q s (h.1 e) a w hf) (fun e => vc_ok y Q s (h.2 e) a w hf)
    · exact h.elim
  | .region id ops false, Q, s, h => fun a w hf => wp_region_list (arun_ok (fun s' a' w' h1 h2 => ⟨s', h1, h2⟩) _ s a w hf h)
  | .region id ops true, Q, s, h => fun a w hf => wp_region_any h.1 (draw_ok h.2.1 (fun s' a' w' h1 h2 => ⟨s', h1, h2⟩) s h.2.2 a _ (drawn_FR hf))
  | .loop c, Q, s, h => AW_loop h
  | .rangeFunc _ _ _ _, Q, s, h => h
  | .scope _, Q, s, h => h
  | .label _, Q, s, h => h
  | .goto _, Q, s, h => h
  | .refuse _, Q, s, h => h
end
end Go.Proofs.YtolejglfohagnaaW.AW
