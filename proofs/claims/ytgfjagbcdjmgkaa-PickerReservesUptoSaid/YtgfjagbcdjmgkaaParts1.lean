/- The reference's Parts: what it tells of a charge. -/
import Derived.Test.YtgfjagbcdjmgkaaChargeLaws
namespace Go.Proofs.Ytgfjagbcdjmgkaa
set_option linter.unusedVariables false
set_option linter.unusedSimpArgs false
open Go.RowKit

theorem part1_out (b : Nat) (w : World) (h : inP b = false) :
    Calls Try.prog 61 #[.float .f64 b] w fun e w' => e = .returned (.tuple #[.int .i64 0, .bool false]) ∧ w = w' := by
  unfold inP at h
  by_cases h1 : (FloatKind.f64.format.order b 0 == some .gt || FloatKind.f64.format.order b 0 == some .eq) = true
  · have h2 : (FloatKind.f64.format.order b 4787326403894837248 == some .lt || FloatKind.f64.format.order b 4787326403894837248 == some .eq) = false := by
      rw [h1, Bool.true_and] at h; exact h
    clear h
    go_enter Try.func61, Try.ntmps61
    go_wp2
    go_ret2
    exact ⟨rfl, rfl⟩
  · have h2 : (FloatKind.f64.format.order b 0 == some .gt || FloatKind.f64.format.order b 0 == some .eq) = false := by simpa using h1
    clear h h1
    go_enter Try.func61, Try.ntmps61
    go_wp2
    go_ret2
    exact ⟨rfl, rfl⟩

theorem part1_in (b : Nat) (w : World) (h : inP b = true) :
    Calls Try.prog 61 #[.float .f64 b] w fun e w' => e = .returned (.tuple #[.int .i64 (pN b), .bool (FloatKind.f64.format.order (floatOfInt .f64 (pN b)) b == some .eq)]) ∧ w = w' := by
  have hc := fun (W : World) => run_convert_float_int (P := Try.prog) W 82 3 .f64 .i64 b (pN b) (by rw [Try.underlying82]; rfl) Try.underlying3 (cut_to b h)
  unfold inP at h
  rw [Bool.and_eq_true] at h
  obtain ⟨h1, h2⟩ := h
  go_enter Try.func61, Try.ntmps61
  go_wp2
  go_ret2
  exact ⟨rfl, rfl⟩

theorem part1_any (b : Nat) (w : World) :
    Calls Try.prog 61 #[.float .f64 b] w fun e w' => e = .returned (.tuple #[.int .i64 (pN b), .bool (pOk b)]) ∧ w = w' := by
  by_cases h : inP b = true
  · have e : pOk b = (FloatKind.f64.format.order (floatOfInt .f64 (pN b)) b == some .eq) := by unfold pOk; rw [h, Bool.true_and]
    rw [e]; exact part1_in b w h
  · have h' : inP b = false := by simpa using h
    have e : pOk b = false := by unfold pOk; rw [h', Bool.false_and]
    have e2 : pN b = 0 := by unfold pN; rw [if_neg h]
    rw [e, e2]; exact part1_out b w h'

theorem parts1_any (a b : Nat) (w : World) :
    Calls Try.prog 44 #[.complex .f64 a b] w fun e w' => e = .returned (.tuple #[.int .i64 (cX a b), .int .i64 (cY a b), .bool (cOk a b)]) ∧ w = w' := by
  cases h1 : pOk a
  · have e1 : cOk a b = false := by unfold cOk; rw [h1]; rfl
    have e2 : cX a b = 0 := by unfold cX; rw [if_neg (by rw [e1]; simp)]
    have e3 : cY a b = 0 := by unfold cY; rw [if_neg (by rw [e1]; simp)]
    rw [e1, e2, e3]; clear e1 e2 e3
    go_enter Try.func44, Try.ntmps44
    go_wp2_with (go_at_call 61; refine (part1_any _ _).mono ?_; rintro e w' ⟨rfl, rfl⟩)
    go_ret3
    exact ⟨rfl, rfl⟩
  · cases h2 : pOk b
    · have e1 : cOk a b = false := by unfold cOk; rw [h1, h2]; rfl
      have e2 : cX a b = 0 := by unfold cX; rw [if_neg (by rw [e1]; simp)]
      have e3 : cY a b = 0 := by unfold cY; rw [if_neg (by rw [e1]; simp)]
      rw [e1, e2, e3]; clear e1 e2 e3
      go_enter Try.func44, Try.ntmps44
      go_wp2_with (go_at_call 61; refine (part1_any _ _).mono ?_; rintro e w' ⟨rfl, rfl⟩)
      go_ret3
      exact ⟨rfl, rfl⟩
    · have e1 : cOk a b = true := by unfold cOk; rw [h1, h2]; rfl
      have e2 : cX a b = pN a := by unfold cX; rw [if_pos e1]
      have e3 : cY a b = pN b := by unfold cY; rw [if_pos e1]
      rw [e1, e2, e3]; clear e1 e2 e3
      go_enter Try.func44, Try.ntmps44
      go_wp2_with (go_at_call 61; refine (part1_any _ _).mono ?_; rintro e w' ⟨rfl, rfl⟩)
      go_ret3
      exact ⟨rfl, rfl⟩

theorem parts1_ch {a b : Int} (ha : In a) (hb : In b) (w : World) :
    Calls Try.prog 44 #[.complex .f64 (floatOfInt .f64 a) (floatOfInt .f64 b)] w fun e w' => e = .returned (.tuple #[.int .i64 a, .int .i64 b, .bool true]) ∧ w = w' := by
  have h := parts1_any (floatOfInt .f64 a) (floatOfInt .f64 b) w
  obtain ⟨e1, e2, e3⟩ := c_whole a b ha.1 ha.2 hb.1 hb.2
  rw [e1, e2, e3] at h; exact h


end Go.Proofs.Ytgfjagbcdjmgkaa
