/- TileOk of the program and of the reference give the same answer at every tile. No condition. -/
import Derived.Test.YtiennogfdnlfiaaPreFnExactTileOk
import Derived.Test.YtiennogfdnlfiaaWMath
namespace Go.Proofs.Ytiennogfdnlfiaa.Pure
open Go.RowKit Go.Proofs.Ytiennogfdnlfiaa.PFnExactTileOk Go.Proofs.Ytiennogfdnlfiaa.PreFnExactTileOk Go.Proofs.YtiennogfdnlfiaaW.PrintWords Go.Proofs.YtiennogfdnlfiaaW.PrintLast Go.Proofs.YtiennogfdnlfiaaW.PrintMore Go.Proofs.YtiennogfdnlfiaaW.Math
set_option linter.unusedVariables false
set_option linter.unusedSimpArgs false

/-- A tile of the map. -/
def OkT (z x y : Int) : Prop := 0 ≤ z ∧ z ≤ 10 ∧ 0 ≤ x ∧ x < 2 ^ z.toNat ∧ 0 ≤ y ∧ y < 2 ^ z.toNat
instance (z x y : Int) : Decidable (OkT z x y) := by unfold OkT; infer_instance
theorem shl_one {z : Int} (h0 : 0 ≤ z) (h1 : z ≤ 10) : shl .i64 1 z = 2 ^ z.toNat := by
  obtain ⟨k, rfl⟩ := Int.eq_ofNat_of_zero_le h0
  have h := p2_le25 (k := k) (by omega)
  have h' := p2_pos k
  rw [shl_i64 _ (by omega), Int.one_mul, w64 (by omega) (by omega)]
  rfl
theorem spec_tile (z x y : Int) : spec_TileOk.f z x y = some (decide (OkT z x y)) := by
  by_cases h : 0 ≤ z ∧ z ≤ 10
  · unfold spec_TileOk.f OkT
    rw [wu64 (by omega) (by omega), shl_one (by omega) (by omega)]
    grind
  · have hn : ¬ OkT z x y := fun hk => h ⟨hk.1, hk.2.1⟩
    rw [decide_eq_false hn]
    unfold spec_TileOk.f
    by_cases h0 : z < 0
    · rw [if_pos h0]
    · rw [if_neg h0, if_pos (by omega)]
theorem impl_tile (z x y : Int) : impl_TileOk.f z x y = some (decide (OkT z x y)) := by
  by_cases h : 0 ≤ z ∧ z ≤ 10
  · unfold impl_TileOk.f OkT
    rw [shl_one (by omega) (by omega)]
    grind
  · have hn : ¬ OkT z x y := fun hk => h ⟨hk.1, hk.2.1⟩
    rw [decide_eq_false hn]
    unfold impl_TileOk.f
    by_cases h0 : z < 0
    · rw [if_pos h0]
    · rw [if_neg h0, if_pos (by omega)]

theorem FnExactTileOk : PreFnExactTileOk.Pure := by
  intro z x y _ _ _
  simp [laws_FnExactTileOk.f, laws_toTile.f, spec_tile, impl_tile]

end Go.Proofs.Ytiennogfdnlfiaa.Pure
