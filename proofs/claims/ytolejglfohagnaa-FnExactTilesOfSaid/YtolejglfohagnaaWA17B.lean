/- An operation looks at its operands alone; what an operation asks and what it gives. Plain lemmas: no statement of the program. -/
import Derived.Test.YtolejglfohagnaaWA17A
namespace Go.Proofs.YtolejglfohagnaaW.AW
open Go Go.RowKit
set_option linter.unusedVariables false
set_option linter.unusedSimpArgs false

section
variable {P : Program} {cs : List Bool} {e e' : Operand → PV} {m : Mem}
theorem apure_congr (op : Op) (h : ∀ x ∈ op.operands, e x = e' x) : apure P cs op e m = apure P cs op e' m := by
  cases op <;> simp only [Op.operands] at h
  case unOp u t x => cases u <;> simp_all [apure]
  case build t ps =>
    have hp : ps.toList.map (fun x => (x.1, e x.2)) = ps.toList.map (fun x => (x.1, e' x.2)) := List.map_congr_left fun x hx => by
      rw [h x.2 (by simp; exact ⟨x.1, by simpa using hx⟩)]
    simp only [apure, hp]
  case makeFunc fn fi ca =>
    have hp : ca.toList.map e = ca.toList.map e' := List.map_congr_left fun x hx => h x (by simp at hx ⊢; exact .inr hx)
    cases fn <;> simp only [apure, hp]
  case slice t x lo hi mx => cases mx <;> cases lo <;> cases hi <;> simp_all [apure, optI]
  case call c =>
    have hc : ∀ x ∈ c.args.toList, e x = e' x := fun x hx => h x (by simp [Call.operands]; exact .inr (by simpa using hx))
    simp only [apure]
    split
    · split
      · rename_i q _; rw [hc _ (by rw [q]; simp)]
      · rfl
    · split
      · rename_i q; rw [hc _ (by rw [q]; simp), hc _ (by rw [q]; simp)]
      · rfl
    · split
      · rename_i q; rw [hc _ (by rw [q]; simp), hc _ (by rw [q]; simp)]
      · rfl
    · rfl
  all_goals (first | rfl | (simp_all [apure]; done))
theorem aop_congr (op : Op) (K : PV → Mem → Prop) (h : ∀ x ∈ op.operands, e x = e' x) : aop P cs op e m K = aop P cs op e' m K := by
  have hp := apure_congr (P := P) (cs := cs) (m := m) op h
  cases op <;> simp only [Op.operands] at h
  case buildSlice t n ps =>
    have hp : ps.toList.map (fun x => e x.2) = ps.toList.map (fun x => e' x.2) := List.map_congr_left fun x hx => by
      rw [h x.2 (by simp; exact ⟨x.1, by simpa using hx⟩)]
    simp only [aop, hp]
  case call c =>
    have hc : ∀ x ∈ c.args.toList, e x = e' x := fun x hx => h x (by simp [Call.operands]; exact .inr (by simpa using hx))
    have hm : c.args.toList.map e = c.args.toList.map e' := List.map_congr_left hc
    simp only [aop]
    split
    · congr 1
      split
      · rename_i q1 q2; rw [hc _ (by rw [q1]; simp), hc _ (by rw [q1]; simp)]
      · rfl
    · rw [hp]
    · rename_i f hf
      have : e f = e' f := h f (by simp [Call.operands, hf])
      rw [this, hm]
    · rfl
  all_goals (first | rfl | (simp only [aop, hp]; done) | (simp_all [aop]; done))
/-- What an operation gives can be told apart from what follows. -/
theorem aop_ex {op : Op} {K : PV → Mem → Prop} (h : aop P cs op e m K) : ∃ r m', K r m' ∧ aop P cs op e m (fun q n => q = r ∧ n = m') := by
  unfold aop at h
  split at h
  · obtain ⟨rfl, h⟩ := h
    split at h
    · rename_i hv; exact ⟨_, _, h, by simp [aop, hv]⟩
    · exact h.elim
  · exact ⟨_, _, h.2.2, by simp [aop, h.1, h.2.1]⟩
  · obtain ⟨rfl, h⟩ := h
    unfold astore at h
    split at h
    · rename_i hv
      split at h
      · split at h
        · rename_i ha _ _ ho; exact ⟨_, _, h.2, by simp only [aop, astore, hv, ha, ho]; exact ⟨(by first | rfl | trivial), h.1, (by first | rfl | trivial), (by first | rfl | trivial)⟩⟩
        · exact h.elim
      · split at h
        · rename_i ha _ _ _ _ ho; exact ⟨_, _, h.2, by simp only [aop, astore, hv, ha, ho]; exact ⟨(by first | rfl | trivial), h.1, (by first | rfl | trivial), (by first | rfl | trivial)⟩⟩
        · exact h.elim
      · exact h.elim
    · exact h.elim
  · obtain ⟨rfl, h⟩ := h
    split at h
    · rename_i hv; exact ⟨_, _, h.2, by simp only [aop, hv]; exact ⟨(by first | rfl | trivial), h.1, (by first | rfl | trivial), (by first | rfl | trivial)⟩⟩
    · exact h.elim
  · obtain ⟨rfl, h⟩ := h
    split at h
    · rename_i h1 h2; exact ⟨_, _, h.2, by simp only [aop, h1, h2]; exact ⟨(by first | rfl | trivial), h.1, (by first | rfl | trivial), (by first | rfl | trivial)⟩⟩
    · exact h.elim
  · split at h
    · rename_i hc
      obtain ⟨rfl, h⟩ := h
      split at h
      · rename_i q1 q2
        obtain ⟨ht, h⟩ := h
        unfold aappend at h
        split at h
        · rename_i hs
          split at h
          · rename_i ha; exact ⟨_, _, h.2, by simp only [aop, hc, q1, q2, aappend, hs, ha]; exact ⟨(by first | rfl | trivial), ht, h.1, (by first | rfl | trivial), (by first | rfl | trivial)⟩⟩
          · split at h
            · rename_i ha _ _ _ _ ho; exact ⟨_, _, h.2, by simp only [aop, hc, q1, q2, aappend, hs, ha, ho]; exact ⟨(by first | rfl | trivial), ht, h.1, (by first | rfl | trivial), (by first | rfl | trivial)⟩⟩
            · exact h.elim
          · exact h.elim
        · exact h.elim
      · exact h.elim
    · rename_i hb hc
      refine ⟨_, _, h.2, ?_⟩
      unfold aop
      simp only [hc]
      exact ⟨h.1, (by first | rfl | trivial), (by first | rfl | trivial)⟩
    · rename_i hc
      split at h
      · rename_i hf
        obtain ⟨r, m', h1, h2, h3⟩ := h
        exact ⟨_, _, h3, by simp only [aop, hc, hf]; exact ⟨r, m', h1, h2, (by first | rfl | trivial), (by first | rfl | trivial)⟩⟩
      · exact h.elim
    · exact h.elim
  · refine ⟨_, _, h.2, ?_⟩
    unfold aop
    split
    all_goals first | exact ⟨h.1, (by first | rfl | trivial), (by first | rfl | trivial)⟩ | (exfalso; simp at *; done)
end
end Go.Proofs.YtolejglfohagnaaW.AW
