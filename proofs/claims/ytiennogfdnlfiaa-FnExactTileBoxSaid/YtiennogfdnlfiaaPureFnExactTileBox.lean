/- TileBox of the program and of the reference give the same box at every tile. No condition. -/
import Derived.Test.YtiennogfdnlfiaaPreFnExactTileBox
import Derived.Test.YtiennogfdnlfiaaWMath
namespace Go.Proofs.Ytiennogfdnlfiaa.Pure
open Go.RowKit Go.Proofs.Ytiennogfdnlfiaa.PFnExactTileBox Go.Proofs.Ytiennogfdnlfiaa.PreFnExactTileBox Go.Proofs.YtiennogfdnlfiaaW.PrintWords Go.Proofs.YtiennogfdnlfiaaW.PrintLast Go.Proofs.YtiennogfdnlfiaaW.PrintMore Go.Proofs.YtiennogfdnlfiaaW.Math
set_option linter.unusedVariables false
set_option linter.unusedSimpArgs false

/-- A tile of the map. -/
def OkT (z x y : Int) : Prop := 0 ≤ z ∧ z ≤ 10 ∧ 0 ≤ x ∧ x < 2 ^ z.toNat ∧ 0 ≤ y ∧ y < 2 ^ z.toNat
instance (z x y : Int) : Decidable (OkT z x y) := by unfold OkT; infer_instance
theorem shl_one {z : Int} (h0 : 0 ≤ z) (h1 : z ≤ 10) : shl .i64 1 z = 2 ^ z.toNat := by
  obtain ⟨k, rfl⟩ := Int.eq_ofNat_of_zero_le h0
  have h := p2_le25 (k := k) (by omega)
  have h' := p2_pos k
  rw [shl_i64 _ (by omega), Int.one_mul, w64 (by omega) (by omega)]
  rfl
theorem spec_tile (z x y : Int) : spec_TileOk.f z x y = some (decide (OkT z x y)) := by
  by_cases h : 0 ≤ z ∧ z ≤ 10
  · unfold spec_TileOk.f OkT
    rw [wu64 (by omega) (by omega), shl_one (by omega) (by omega)]
    grind
  · have hn : ¬ OkT z x y := fun hk => h ⟨hk.1, hk.2.1⟩
    rw [decide_eq_false hn]
    unfold spec_TileOk.f
    by_cases h0 : z < 0
    · rw [if_pos h0]
    · rw [if_neg h0, if_pos (by omega)]
theorem impl_tile (z x y : Int) : impl_TileOk.f z x y = some (decide (OkT z x y)) := by
  by_cases h : 0 ≤ z ∧ z ≤ 10
  · unfold impl_TileOk.f OkT
    rw [shl_one (by omega) (by omega)]
    grind
  · have hn : ¬ OkT z x y := fun hk => h ⟨hk.1, hk.2.1⟩
    rw [decide_eq_false hn]
    unfold impl_TileOk.f
    by_cases h0 : z < 0
    · rw [if_pos h0]
    · rw [if_neg h0, if_pos (by omega)]

theorem FnExactTileBox : PreFnExactTileBox.Pure := by
  intro z x y _ _ _
  have hs : OkT z x y → spec_TileBox.f z x y = impl_TileBox.f z x y := by
    intro h
    obtain ⟨h0, h1, _⟩ := id h
    simp only [spec_TileBox.f, impl_TileBox.f, spec_tile, impl_tile, spec_l6Box.f, spec_l6Side.f, Option.bind_some, wu64 h0 (show z ≤ 18446744073709551615 by omega)]
    simp [h, h0]
  have hn : ¬ OkT z x y → spec_TileBox.f z x y = impl_TileBox.f z x y := by
    intro h
    simp [spec_TileBox.f, impl_TileBox.f, spec_tile, impl_tile, h]
  have he : spec_TileBox.f z x y = impl_TileBox.f z x y := by by_cases h : OkT z x y <;> simp only [hs, hn, h, not_false_eq_true]
  have hsome : ∃ r, impl_TileBox.f z x y = some r := by
    simp only [impl_TileBox.f, impl_tile, Option.bind_some]
    by_cases h : OkT z x y
    · have h0 := h.1
      simp [h, h0]
    · simp [h]
  obtain ⟨⟨a, b, c, d⟩, hr⟩ := hsome
  simp [laws_FnExactTileBox.f, laws_toTile.f, he, hr, laws_eqBox.f, laws_eqPoint.f]

end Go.Proofs.Ytiennogfdnlfiaa.Pure
