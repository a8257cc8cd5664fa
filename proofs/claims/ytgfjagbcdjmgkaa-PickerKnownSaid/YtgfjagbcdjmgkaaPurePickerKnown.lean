/- What PickerKnown answers, reckoned. -/
import Derived.Test.YtgfjagbcdjmgkaaQPickerKnownx3
namespace Go.Proofs.Ytgfjagbcdjmgkaa
open Go.RowKit
open PPickerKnown in
theorem Pure.PickerKnown : butterylaw19_PickerKnown.Pure := by
  intro a0 _
  refine ⟨20, ?_⟩
  have ha : butterylaw19_alive.f 20 = some true := by kernel_rfl
  by_cases h : a0 < 0
  · unfold butterylaw19_PickerKnown.f
    rw [ha]
    simp [h, butterylaw19_PickerKnown.j0]
  · by_cases h2 : 11 ≤ a0
    · unfold butterylaw19_PickerKnown.f
      rw [ha]
      simp [h, h2, butterylaw19_PickerKnown.j0]
    · have : a0 = 0 ∨ a0 = 1 ∨ a0 = 2 ∨ a0 = 3 ∨ a0 = 4 ∨ a0 = 5 ∨ a0 = 6 ∨ a0 = 7 ∨ a0 = 8 ∨ a0 = 9 ∨ a0 = 10 := by omega
      rcases this with rfl | rfl | rfl | rfl | rfl | rfl | rfl | rfl | rfl | rfl | rfl
      · show butterylaw19_PickerKnown.f 20 0 = some true
        kernel_rfl
      · show butterylaw19_PickerKnown.f 20 1 = some true
        kernel_rfl
      · show butterylaw19_PickerKnown.f 20 2 = some true
        kernel_rfl
      · show butterylaw19_PickerKnown.f 20 3 = some true
        kernel_rfl
      · show butterylaw19_PickerKnown.f 20 4 = some true
        kernel_rfl
      · show butterylaw19_PickerKnown.f 20 5 = some true
        kernel_rfl
      · show butterylaw19_PickerKnown.f 20 6 = some true
        kernel_rfl
      · show butterylaw19_PickerKnown.f 20 7 = some true
        kernel_rfl
      · show butterylaw19_PickerKnown.f 20 8 = some true
        kernel_rfl
      · show butterylaw19_PickerKnown.f 20 9 = some true
        kernel_rfl
      · show butterylaw19_PickerKnown.f 20 10 = some true
        kernel_rfl
end Go.Proofs.Ytgfjagbcdjmgkaa
