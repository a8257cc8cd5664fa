/- Giving back all that was taken. -/
import Derived.Test.YtgfjagbcdjmgkaaBudgetA
namespace Go.Proofs.Ytgfjagbcdjmgkaa
set_option linter.unusedVariables false
set_option linter.unusedSimpArgs false
open Go.RowKit
attribute [local go_sem] run_store_complex

set_option maxHeartbeats 16000000 in
theorem give_yes {b m : Nat} {A B c d : Int} (w : World) (h : Bud w b m A B c d #[ent c d] 1) (hbm : b ≠ m) (hc : In c) (hd : In d) :
    Calls Try.prog 28 #[.pointer (some ⟨b, 0, none⟩), .int .i64 1, .complex .f64 (floatOfInt .f64 c) (floatOfInt .f64 d)] w
      fun e w' => e = .returned (.bool true) ∧ w' = (putMap (putMap w.drew m #[ent c d] 1) m #[ent 0 0] 1).setCell ⟨b, 1, none⟩ (.complex .f64 (floatOfInt .f64 0) (floatOfInt .f64 0)) := by
  have c2 := h.cell2
  have c1 := h.cell1
  have l1 : less c c = 0 := by unfold less; rw [if_neg (by omega)]; omega
  have l2 : less d d = 0 := by unfold less; rw [if_neg (by omega)]; omega
  have hl := lookup_same h.map
  have HL := fun W => Lib.hid (less_ch hc hd hc hd W)
  rw [l1, l2] at HL
  have hf := Lib.hid (fits_yes hc hd hc hd (by omega) (by omega) w)
  have q0 := lookup_same h.drew.map
  have r1 := entry_old h.drew.map
  have r2 := entry_store (v' := .complex .f64 (floatOfInt .f64 0) (floatOfInt .f64 0)) (putMap_same (es' := #[ent c d]) (ck' := 1) h.drew.map)
  have r3 : (putMap (putMap w.drew m #[ent c d] 1) m #[⟨.int .i64 1, .complex .f64 (floatOfInt .f64 0) (floatOfInt .f64 0), 0⟩] 1).cell? ⟨b, 1, none⟩ = some (.complex .f64 (floatOfInt .f64 c) (floatOfInt .f64 d)) := (putMap_cell hbm).trans ((putMap_cell hbm).trans h.drew.cell1)
  have r4 : (putMap (putMap w.drew m #[ent c d] 1) m #[⟨.int .i64 1, .complex .f64 (floatOfInt .f64 0) (floatOfInt .f64 0), 0⟩] 1).frozen? ⟨b, 1, none⟩ = false := (putMap_frozen hbm).trans ((putMap_frozen hbm).trans (h.drew.frozen 1))
  have r5 : (putMap w.drew m #[ent c d] 1).cell? ⟨b, 1, none⟩ = some (.complex .f64 (floatOfInt .f64 c) (floatOfInt .f64 d)) := (putMap_cell hbm).trans h.drew.cell1
  have hcm : ∀ i, (⟨b, i, none⟩ : Addr).block ≠ m := fun i => hbm
  clear h l1 l2
  go_enter Try.func28, Try.ntmps28
  go_wp2_with fail
  refine hf.out.mono ?_
  rintro e w' ⟨rfl, rfl⟩
  go_wp2
  go_region_with (go_at_call 37; refine (HL _).out.mono ?_; rintro e w5 ⟨rfl, rfl⟩)
  all_goals go_wp2
  all_goals go_ret
  all_goals exact ⟨rfl, rfl⟩

end Go.Proofs.Ytgfjagbcdjmgkaa
