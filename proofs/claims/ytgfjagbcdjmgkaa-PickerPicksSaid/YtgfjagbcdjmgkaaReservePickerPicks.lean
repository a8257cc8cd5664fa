/- What Reserve answers: the charge of the bytes of the runs from one on, 64 more for each, and of as many handles and one. -/
import Derived.Test.YtgfjagbcdjmgkaaPickPurePickerPicks
import Derived.Test.YtgfjagbcdjmgkaaChargeLaws
namespace Go.Proofs.Ytgfjagbcdjmgkaa.PPickerPicks
open Go.RowKit Go.Proofs.YtgfjagbcdjmgkaaW.PrintWords Go.Proofs.YtgfjagbcdjmgkaaW.PrintLast Go.Proofs.YtgfjagbcdjmgkaaW.PrintMore
set_option linter.unusedVariables false
set_option linter.unusedSimpArgs false

theorem wi' (n : Int) (h : -9223372036854775808 ≤ n ∧ n ≤ 9223372036854775807) : IntKind.i64.wrap n = n := by rw [i64_w]; exact wi n h
/-- The bytes that so many runs from one on count. -/
def part (l : List S51) (p q : Nat) : Int := (szs ((l.take (p + q)).drop p)).sum
theorem part_length (l : List S51) (p q : Nat) (h : p + q ≤ l.length) : ((l.take (p + q)).drop p).length = q := by
  rw [List.length_drop, List.length_take]; omega
theorem part_in (l : List S51) (p q : Nat) (h : p + q ≤ l.length) : 0 ≤ part l p q ∧ part l p q ≤ 16777216 * q := by
  have h1 := (szs_small ((l.take (p + q)).drop p)).sum
  rw [szs_length, part_length l p q h] at h1
  exact h1

theorem reserve_yes (A : Option Addr) (cap : Nat) (l : List S51) (y0 : Int) (p q : Nat) (w : World) (hr : Kd.C k51 w A l.length l) (hc : l.length ≤ cap) (hl : l.length ≤ 1000) (hpq : p + q ≤ l.length) :
    Calls Try.prog 42 #[.slice A l.length cap, .agg #[.int .i64 y0, .int .i64 (p : Int), .int .i64 (q : Int)]] w
      fun e w' => e = .returned (.complex .f64 (floatOfInt .f64 (part l p q + 64 * q)) (floatOfInt .f64 ((q : Int) + 1))) ∧ Below w.heap.size w w' := by
  obtain ⟨i0, hi, _, hsz, _⟩ := info_parts info51
  have hlq := part_length l p q hpq
  have hpart := part_in l p q hpq
  have hC1 := Kd.C_drop (m := p) (c := cap) (Kd.C_take (m := p + q) hr hpq) (by rw [List.length_take]; omega) (by rw [List.length_take]; omega)
  have hcut := cut_mid (P := Try.prog) 44 51 .i64 .i64 Try.underlying44 hi 6 hsz A l.length cap (p : Int) (p + q : Int) (by omega) (by omega) (by omega) hc
  simp only [Int.toNat_natCast] at hcut
  have hsz6 : k51.sz = 6 := rfl
  rw [hsz6] at hC1
  generalize hA1 : (if cap = p then A else A.map (·.add (p * 6))) = A1 at *
  rw [show part l p q = (szs ((l.take (p + q)).drop p)).sum from rfl] at *
  generalize hl1 : (l.take (p + q)).drop p = l1 at *
  clear hA1
  have hcut' : ∀ W : World, (Instr.slice 44 (.slice A l.length cap) (some (.int .i64 (p : Int))) (some (.int .i64 ((p : Int) + (q : Int)))) none).run Try.prog W = .ok (.slice A1 l1.length (cap - p)) W := by
    intro W
    rw [hcut W, show ((p : Int) + (q : Int)).toNat - p = l1.length by omega]
  clear hcut
  have HC1 := Lib.hid hC1
  have hcc : l1.length ≤ cap - p := by omega
  have HB := Lib.hid hpart
  have HQ := Lib.hid hlq
  have e1 := wi' ((p : Int) + (q : Int)) (by omega)
  have e2 := wi' (64 * ((szs l1).length : Int)) (by rw [szs_length]; omega)
  have e3 := wi' ((szs l1).sum + 64 * ((szs l1).length : Int)) (by rw [szs_length]; omega)
  have e4 := wi' (((szs l1).length : Int) + 1) (by rw [szs_length]; omega)
  have g1 : decide ((p : Int) < 0) = false := decide_eq_false (by omega)
  have g2 : decide ((q : Int) < 0) = false := decide_eq_false (by omega)
  have g3 : decide ((l.length : Int) < (p : Int)) = false := decide_eq_false (by omega)
  have e5 := wi' ((l.length : Int) - (p : Int)) (by omega)
  have g4 : decide ((l.length : Int) - (p : Int) < (q : Int)) = false := decide_eq_false (by omega)
  have g3' : ¬ (l.length < p) := by omega
  have g4' : ¬ ((l.length : Int) - (p : Int) < (q : Int)) := by omega
  have F53 := Lib.hid (sizes_f l1 (by omega) 2000 (by omega))
  have F54 := Lib.hid (total_f (szs l1) (szs_small l1) (by rw [szs_length]; omega) 2000 (by rw [szs_length]; omega))
  have hLL0 := Lib.hid (show ((szs l1).length : Int) = q by rw [szs_length, hlq])
  clear hr hpart hC1 hlq
  go_enter Try.func42, Try.ntmps42
  go_wp2_with fail
  refine (picker_sizes.calls 2000 A1 (cap - p) l1 (szs l1) _ (Kd.C_alloc HC1.out _) hcc F53.out).mono ?_
  rintro e w1 ⟨v, rfl, hR, hB1⟩
  obtain ⟨A2, c2, rfl⟩ := Kd.R_slice hR
  have hR2 := Lib.hid (Kd.R_reads' hR)
  clear hR
  go_wp2_with fail
  refine (picker_total.calls 2000 A2 c2 (szs l1) _ _ hR2.out.2.2 hR2.out.2.1 F54.out).mono ?_
  rintro e w2 ⟨rfl, nd, rfl⟩
  go_wp2_with fail
  have hLL := hLL0.out
  have hp2 := HB.out
  refine (of_yes _ _ _ (by omega) (by omega) (by omega) (by omega)).mono ?_
  rintro e w3 ⟨rfl, rfl⟩
  go_wp2_with fail
  go_ret
  exact ⟨rfl, pw_below_drewN (below_step (below_alloc (Below.refl _ _) _) hB1) nd⟩

theorem reserve_no (A : Option Addr) (cap : Nat) (l : List S51) (y0 a c : Int) (w : World) (hl : l.length ≤ 1000) (h : a < 0 ∨ c < 0 ∨ (l.length : Int) < a ∨ (l.length : Int) - a < c) :
    Calls Try.prog 42 #[.slice A l.length cap, .agg #[.int .i64 y0, .int .i64 a, .int .i64 c]] w
      fun e w' => e = .returned (.complex .f64 0 0) ∧ Below w.heap.size w w' := by
  have HH := Lib.hid h
  clear h
  by_cases h1 : a < 0
  · go_enter Try.func42, Try.ntmps42
    go_wp2
    go_ret
    exact ⟨rfl, below_alloc (Below.refl _ _) _⟩
  · by_cases h2 : c < 0
    · go_enter Try.func42, Try.ntmps42
      go_wp2
      go_ret
      exact ⟨rfl, below_alloc (Below.refl _ _) _⟩
    · by_cases h3 : (l.length : Int) < a
      · go_enter Try.func42, Try.ntmps42
        go_wp2
        go_ret
        exact ⟨rfl, below_alloc (Below.refl _ _) _⟩
      · have h4 : (l.length : Int) - a < c := by have := HH.out; omega
        have e5 := wi' ((l.length : Int) - a) (by omega)
        go_enter Try.func42, Try.ntmps42
        go_wp2
        go_ret
        exact ⟨rfl, below_alloc (Below.refl _ _) _⟩

end Go.Proofs.Ytgfjagbcdjmgkaa.PPickerPicks
