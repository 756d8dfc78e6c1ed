/- An operation looks at its operands alone; what an operation asks and what it gives. Plain lemmas: no statement of the program. -/
import Derived.Test.YtolejglfohagnaaWB17A
namespace Go.Proofs.YtolejglfohagnaaW.AW
open Go Go.RowKit
set_option linter.unusedVariables false
set_option linter.unusedSimpArgs false

section
variable {P : Program} {cs : List Bool} {e e' : Operand → PV} {m : Mem}
theorem apure_congr (op : Op) (h : ∀ x ∈ op.operands, e x = e' x) : apure P cs op e m = apure P cs op e' m := by
  cases op <;> simp only [Op.operands] at h
  case unOp u t x => cases u <;> simp_all [apure]
  case build t ps =>
    have hp : ps.toList.map (fun x => (x.1, e x.2)) = ps.toList.map (fun x => (x.1, e' x.2)) := List.map_congr_left fun x hx => by
      rw [h x.2 (by simp; exact ⟨x.1, by simpa using hx⟩)]
    simp only [apure, hp]
  case makeFunc fn fi ca =>
    have hp : ca.toList.map e = ca.toList.map e' := List.map_congr_left fun x hx => h x (by simp at hx ⊢; exact .inr hx)
    cases fn <;> simp only [apure, hp]
  case slice t x lo hi mx => cases mx <;> cases lo <;> cases hi <;> simp_all [apure, optI]
  case call c =>
    have hc : ∀ x ∈ c.args.toList, e x = e' x := fun x hx => h x (by simp [Call.operands]; exact .inr (by simpa using hx))
    simp only [apure]
    split
    · split
      · rename_i q _; rw [hc _ (by rw [q]; simp)]
      · rfl
    · split
      · rename_i q; rw [hc _ (by rw [q]; simp), hc _ (by rw [q]; simp)]
      · rfl
    · split
      · rename_i q; rw [hc _ (by rw [q]; simp), hc _ (by rw [q]; simp)]
      · rfl
    · rfl
  all_goals (first | rfl | (simp_all [apure]; done))
theorem aop_congr (op : Op) (K : PV → Mem → Prop) (h : ∀ x ∈ op.operands, e x = e' x) : aop P cs op e m K = aop P cs op e' m K := by
  have hp := apure_congr (P := P) (cs := cs) (m := m) op h
  cases op <;> simp only [Op.operands] at h
  case buildSlice t n ps =>
    have hp : ps.toList.map (fun x => e x.2) = ps.toList.map (fun x => e' x.2) := List.map_congr_left fun x hx => by
      rw [h x.2 (by simp; exact ⟨x.1, by simpa using hx⟩)]
    simp only [aop, hp]
  case makeMap t r => cases r <;> simp_all [aop, hintOk]
  case convert s d x =>
    have hx : e x = e' x := h x (by simp)
    simp only [aop, hx, hp]
  case call c =>
    have hc : ∀ x ∈ c.args.toList, e x = e' x := fun x hx => h x (by simp [Call.operands]; exact .inr (by simpa using hx))
    have hm : c.args.toList.map e = c.args.toList.map e' := List.map_congr_left hc
    simp only [aop]
    split
    · congr 1
      split
      · rename_i q1 q2; rw [hc _ (by rw [q1]; simp), hc _ (by rw [q1]; simp)]
      · rfl
    · congr 1
      split
      · rename_i q1 q2; rw [hc _ (by rw [q1]; simp), hc _ (by rw [q1]; simp)]
      · rfl
    · rw [hp]
    · rename_i f hf
      have : e f = e' f := h f (by simp [Call.operands, hf])
      rw [this, hm]
    · rfl
  all_goals (first | rfl | (simp only [aop, hp]; done) | (simp_all [aop]; done))
theorem onG_ex {p : (PV → Mem → Prop) → Prop} {K : PV → Mem → Prop} (hp : p K → ∃ r m', K r m' ∧ p (fun q n => q = r ∧ n = m')) (h : onG cs (p K) (K (gdv cs .und) m)) : ∃ r m', K r m' ∧ onG cs (p (fun q n => q = r ∧ n = m')) (gdv cs .und = r ∧ m = m') := by
  unfold onG at h ⊢
  by_cases hc : cs.all id = true
  · rw [if_pos hc] at h
    obtain ⟨r, m', h1, h2⟩ := hp h
    exact ⟨r, m', h1, by rw [if_pos hc]; exact h2⟩
  · rw [if_neg hc] at h
    exact ⟨_, _, h, by rw [if_neg hc]; exact ⟨rfl, rfl⟩⟩
theorem astore_ex {t : TypeId} {a x : PV} {K : PV → Mem → Prop} (h : astore P t a x m K) : ∃ r m', K r m' ∧ astore P t a x m (fun q n => q = r ∧ n = m') := by
  unfold astore at h
  split at h
  · rename_i hv
    split at h
    · split at h
      · rename_i ho; exact ⟨_, _, h.2, by simp only [astore, hv, ho]; exact ⟨h.1, (by first | rfl | trivial), (by first | rfl | trivial)⟩⟩
      · exact h.elim
    · split at h
      · rename_i ho; exact ⟨_, _, h.2, by simp only [astore, hv, ho]; exact ⟨h.1, (by first | rfl | trivial), (by first | rfl | trivial)⟩⟩
      · exact h.elim
    · exact h.elim
  · exact h.elim
theorem aappend_ex {t : TypeId} {s x : PV} {K : PV → Mem → Prop} (h : aappend P t s x m K) : ∃ r m', K r m' ∧ aappend P t s x m (fun q n => q = r ∧ n = m') := by
  unfold aappend at h
  split at h
  · rename_i hs
    split at h
    · exact ⟨_, _, h.2.2, by simp only [aappend, hs]; exact ⟨h.1, h.2.1, (by first | rfl | trivial), (by first | rfl | trivial)⟩⟩
    · split at h
      · rename_i ho; exact ⟨_, _, h.2.2, by simp only [aappend, hs, ho]; exact ⟨h.1, h.2.1, (by first | rfl | trivial), (by first | rfl | trivial)⟩⟩
      · exact h.elim
    · exact h.elim
  · exact h.elim
/-- What an operation gives can be told apart from what follows. -/
theorem aop_ex {op : Op} {K : PV → Mem → Prop} (h : aop P cs op e m K) : ∃ r m', K r m' ∧ aop P cs op e m (fun q n => q = r ∧ n = m') := by
  cases op
  case box t x =>
    simp only [aop] at h ⊢
    refine onG_ex (p := fun K => match pcells (e x) with | some vs => K (.bp [m.nx] 0) (m.grow none (.box vs)) | none => False) (fun h => ?_) h
    split at h
    · rename_i hv; exact ⟨_, _, h, by simp only [hv]; exact ⟨(by first | rfl | trivial), (by first | rfl | trivial)⟩⟩
    · exact h.elim
  case alloc t =>
    simp only [aop] at h ⊢
    exact onG_ex (p := fun K => (tyD P t).zok = true ∧ K (.bp [m.nx] 0) (m.grow none (.box (tyD P t).zc))) (fun h => ⟨_, _, h.2, h.1, rfl, rfl⟩) h
  case store t a x =>
    simp only [aop] at h ⊢
    exact onG_ex (p := fun K => astore P t (e a) (e x) m K) astore_ex h
  case buildSlice t n ps =>
    simp only [aop] at h ⊢
    refine onG_ex (p := fun K => match allCells (ps.toList.map (fun x => e x.2)) with
      | some cc => ((tyD P t).eok = true ∧ okIdx 0 ps.toList = true ∧ ps.size = n ∧ (∀ c ∈ cc, c.length = (tyD P t).es) ∧ n * (tyD P t).es ≤ 16777216) ∧ K (.sl [m.nx] (tyD P t).es n 0 n) (m.grow none (.row (tyD P t).es n (fun i => cc.getD i [])))
      | none => False) (fun h => ?_) h
    split at h
    · rename_i hv; exact ⟨_, _, h.2, by simp only [hv]; exact ⟨h.1, (by first | rfl | trivial), (by first | rfl | trivial)⟩⟩
    · exact h.elim
  case makeSlice t l c =>
    simp only [aop] at h ⊢
    refine onG_ex (p := fun K => match e l, e c with
      | .int _ l, .int _ c => ((tyD P t).eok = true ∧ 0 ≤ l ∧ l ≤ c ∧ c * (tyD P t).eb ≤ 140737488355328) ∧ K (.sl [m.nx] (tyD P t).es l.toNat 0 l.toNat) (m.grow none (.row (tyD P t).es l.toNat (fun _ => (tyD P t).ez)))
      | _, _ => False) (fun h => ?_) h
    split at h
    · rename_i h1 h2; exact ⟨_, _, h.2, by simp only [h1, h2]; exact ⟨h.1, (by first | rfl | trivial), (by first | rfl | trivial)⟩⟩
    · exact h.elim
  case makeMap t r =>
    simp only [aop] at h ⊢
    exact onG_ex (p := fun K => (match (tyD P t).k with | .map _ _ => True | _ => False) ∧ hintOk e r ∧ K (.mp [m.nx]) (m.grow none (.map (fun _ => none)))) (fun h => ⟨_, _, h.2.2, h.1, h.2.1, rfl, rfl⟩) h
  case mapUpdate t x k v =>
    simp only [aop] at h ⊢
    refine onG_ex (p := fun K => match e x, e k with
      | .mp o, .int .i64 i => match m.o o with
        | some (.map f) => (match (tyD P t).k with | .map kt _ => tk P kt = .int .i64 | _ => False) ∧ (e v).clo = true ∧ K .und (m.set o (.map (upd f i (some (e v)))))
        | _ => False
      | _, _ => False) (fun h => ?_) h
    split at h
    · rename_i hx hk
      split at h
      · rename_i hq; exact ⟨_, _, h.2.2, by simp only [hx, hk, hq]; exact ⟨h.1, h.2.1, (by first | rfl | trivial), (by first | rfl | trivial)⟩⟩
      · exact h.elim
    · exact h.elim
  case convert s d x =>
    simp only [aop] at h ⊢
    split at h
    · rename_i b hx
      split at h
      · rename_i hu
        simp only [hx, if_pos hu]
        exact onG_ex (p := fun K => (tk P s = .string ∧ (tyD P d).eok = true ∧ (tyD P d).es = 1) ∧ K (.sl [m.nx] 1 b.size 0 b.size) (m.grow none (.row 1 b.size (fun i => [.int .u8 (bt b i)])))) (fun h => ⟨_, _, h.2, h.1, rfl, rfl⟩) h
      · rename_i hu; exact ⟨_, _, h.2, by simp only [hx, if_neg hu]; exact ⟨h.1, (by first | rfl | trivial), (by first | rfl | trivial)⟩⟩
    · rename_i hx
      exact ⟨_, _, h.2, h.1, rfl, rfl⟩
  case call c =>
    simp only [aop] at h ⊢
    split at h
    · rename_i hc
      refine onG_ex (p := fun K => match c.args.toList, c.argTypes.toList with
        | [x, k], t :: _ => (match e x, e k with
          | .mp o, .int .i64 i => match m.o o with
            | some (.map f) => (match (tyD P t).k with | .map kt _ => tk P kt = .int .i64 | _ => False) ∧ K (.tu []) (m.set o (.map (upd f i none)))
            | _ => False
          | _, _ => False)
        | _, _ => False) (fun h => ?_) h
      split at h
      · rename_i q1 q2
        split at h
        · rename_i hx hk
          split at h
          · rename_i hq; exact ⟨_, _, h.2, by simp only [q1, q2, hx, hk, hq]; exact ⟨h.1, (by first | rfl | trivial), (by first | rfl | trivial)⟩⟩
          · exact h.elim
        · exact h.elim
      · exact h.elim
    · rename_i hc
      refine onG_ex (p := fun K => match c.args.toList, c.argTypes.toList with | [s, x], [t, t'] => ((∃ e', P.underlying t' = some (.slice e')) ∨ P.underlying t' = some .string) ∧ aappend P t (e s) (e x) m K | _, _ => False) (fun h => ?_) h
      split at h
      · rename_i q1 q2
        obtain ⟨r, m', h1, h2⟩ := aappend_ex h.2
        exact ⟨r, m', h1, by first | exact ⟨h.1, h2⟩ | (simp only [q1, q2]; exact ⟨h.1, h2⟩)⟩
      · exact h.elim
    · rename_i hb hc
      exact ⟨_, _, h.2, h.1, rfl, rfl⟩
    · rename_i hc
      split at h
      · rename_i hf
        obtain ⟨r, m', R, W, h1, h2, h3⟩ := h
        exact ⟨_, _, h3, by first | exact ⟨r, m', R, W, h1, h2, rfl, rfl⟩ | (simp only [hf]; exact ⟨r, m', R, W, h1, h2, rfl, rfl⟩)⟩
      · exact h.elim
    · exact h.elim
  all_goals (simp only [aop] at h ⊢; exact ⟨_, _, h.2, h.1, rfl, rfl⟩)
theorem rdN_congr (op : Op) (h : ∀ x ∈ op.operands, e x = e' x) : rdN op e = rdN op e' := by
  cases op <;> simp only [Op.operands] at h
  case call c =>
    have hc : ∀ x ∈ c.args.toList, e x = e' x := fun x hx => h x (by simp [Call.operands]; exact .inr (by simpa using hx))
    simp only [rdN]
    split
    · split
      · rename_i q; rw [hc _ (by rw [q]; simp)]
      · rfl
    · rfl
  all_goals (first | rfl | (simp_all [rdN]; done))
theorem wrN_congr (op : Op) (h : ∀ x ∈ op.operands, e x = e' x) : wrN op e m = wrN op e' m := by
  cases op <;> simp only [Op.operands] at h
  case call c =>
    have hc : ∀ x ∈ c.args.toList, e x = e' x := fun x hx => h x (by simp [Call.operands]; exact .inr (by simpa using hx))
    simp only [wrN]
    split
    · split
      · rename_i q; rw [hc _ (by rw [q]; simp)]
      · rfl
    · split
      · rename_i q; rw [hc _ (by rw [q]; simp)]
      · rfl
    · rfl
  all_goals (first | rfl | (simp_all [wrN]; done))
theorem aopD_congr (op : Op) (K : PV → Mem → List Id → List Id → Prop) (h : ∀ x ∈ op.operands, e x = e' x) : aopD P cs op e m K = aopD P cs op e' m K := by
  have h1 := fun K => aop_congr (P := P) (cs := cs) (m := m) op K h
  have h2 := rdN_congr op h
  have h3 := wrN_congr (m := m) op h
  cases op
  case call c =>
    simp only [aopD]
    split
    · rename_i f hf
      simp only [Op.operands] at h
      have hc : ∀ x ∈ c.args.toList, e x = e' x := fun x hx => h x (by simp [Call.operands]; exact .inr (by simpa using hx))
      have hm : c.args.toList.map e = c.args.toList.map e' := List.map_congr_left hc
      have : e f = e' f := h f (by simp [Call.operands, hf])
      rw [this, hm]
    · rw [h1, h2, h3]
  all_goals (simp only [aopD]; rw [h1, h2, h3])
/-- What an operation gives can be told apart from what follows, its objects too. -/
theorem aopD_ex {op : Op} {K : PV → Mem → List Id → List Id → Prop} (h : aopD P cs op e m K) : ∃ r m' R W, K r m' R W ∧ aopD P cs op e m (fun q n R' W' => q = r ∧ n = m' ∧ R' = R ∧ W' = W) := by
  have fin : ∀ {K : PV → Mem → List Id → List Id → Prop} {R W : List Id}, aop P cs op e m (fun r m' => K r m' R W) → ∃ r m' R' W', K r m' R' W' ∧ aop P cs op e m (fun q n => q = r ∧ n = m' ∧ R = R' ∧ W = W') := fun {K R W} h => by
    obtain ⟨r, m', h1, h2⟩ := aop_ex h
    refine ⟨r, m', R, W, h1, ?_⟩
    have e : (fun q n => q = r ∧ n = m') = (fun (q : PV) (n : Mem) => q = r ∧ n = m' ∧ R = R ∧ W = W) := by funext q n; simp
    rw [e] at h2; exact h2
  cases op
  case call c =>
    simp only [aopD] at h ⊢
    split at h
    · split at h
      · rename_i hf
        obtain ⟨r, m', R, W, h1, h2, h3⟩ := h
        exact ⟨_, _, R, W, h3, by first | exact ⟨r, m', R, W, h1, h2, rfl, rfl, rfl, rfl⟩ | (simp only [hf]; exact ⟨r, m', R, W, h1, h2, rfl, rfl, rfl, rfl⟩)⟩
      · exact h.elim
    · exact fin h
  all_goals (simp only [aopD] at h ⊢; exact fin h)
theorem aopD_skip {op : Op} {K : PV → Mem → List Id → List Id → Prop} (hcs : cs.all id = false) (h : aopD P cs op e m K) : ∃ r R W, K (.gd cs r) m R W := by
  have fin : ∀ {K : PV → Mem → List Id → List Id → Prop} {R W : List Id}, aop P cs op e m (fun r m' => K r m' R W) → ∃ r R W, K (.gd cs r) m R W := fun h => by
    obtain ⟨r, h⟩ := aop_skip hcs h; exact ⟨r, _, _, h⟩
  cases op
  case call c =>
    simp only [aopD] at h
    split at h
    · split at h
      · obtain ⟨r, m', R, W, h1, h2, h3⟩ := h
        rcases h2 with h2 | rfl
        · rw [hcs] at h2; cases h2
        · have gd_ : gdv cs r = .gd cs r := by
            unfold gdv; split
            · cases hcs
            · rfl
          exact ⟨r, R, W, gd_ ▸ h3⟩
      · exact h.elim
    · exact fin h
  all_goals (simp only [aopD] at h; exact fin h)
end
end Go.Proofs.YtolejglfohagnaaW.AW
