/- Chapter 1's laws: the walks of ChargeLaws and ChargeParts: each returns true, whatever the numbers. -/
import Derived.Test.YtgfjagbcdjmgkaaCharge
import Derived.Below
import Derived.Handy
namespace Go.Proofs.Ytgfjagbcdjmgkaa
open Go.RowKit

theorem alive1 (w : World) :
    Calls Try.prog 33 #[] w fun e w' => e = .returned (.bool true) ∧ Below w.heap.size w w' := by
  have f1 : plus (cX 4613937818241073152 4607182418800017408) (cX 4616189618054758400 0) = 7 := by decide
  have f2 : plus (cY 4613937818241073152 4607182418800017408) (cY 4616189618054758400 0) = 1 := by decide
  have f3 : floatOfInt .f64 7 = 4619567317775286272 := by decide
  have f4 : floatOfInt .f64 1 = 4607182418800017408 := by decide
  have f5 : (FloatKind.f64.format.order 4619567317775286272 4619567317775286272 == some .eq) = true := by decide
  have f6 : (FloatKind.f64.format.order 4607182418800017408 4607182418800017408 == some .eq) = true := by decide
  have f7 : fitB 4607182418800017408 0 4611686018427387904 0 = true := by decide
  go_enter Try.func33, Try.ntmps33
  go_wp2_with fail
  refine (sum_two _ _ 4613937818241073152 4607182418800017408 4616189618054758400 0 _ ?_ ?_).mono ?_
  · simp
  · simp
  rintro e w' ⟨rfl, rfl⟩
  rw [f1, f2, f3, f4]
  go_wp2_with fail
  refine (fits_any _ _ _ _ _).mono ?_
  rintro e w' ⟨rfl, rfl⟩
  rw [f7]
  go_wp2_with fail
  go_ret
  exact ⟨rfl, (Below.refl _ _).alloc (Nat.le_refl _) _⟩

/-- A number of a charge. -/
def In (a : Int) : Prop := 0 ≤ a ∧ a ≤ 1099511627776

theorem parts_ch {a b : Int} (ha : In a) (hb : In b) (w : World) :
    Calls Try.prog 39 #[.complex .f64 (floatOfInt .f64 a) (floatOfInt .f64 b)] w fun e w' => e = .returned (.tuple #[.int .i64 a, .int .i64 b, .bool true]) ∧ w = w' := by
  have h := parts_any (floatOfInt .f64 a) (floatOfInt .f64 b) w
  obtain ⟨e1, e2, e3⟩ := c_whole a b ha.1 ha.2 hb.1 hb.2
  rw [e1, e2, e3] at h; exact h

theorem fits_ch {a b c d : Int} (ha : In a) (hb : In b) (hc : In c) (hd : In d) (w : World) :
    Calls Try.prog 36 #[.complex .f64 (floatOfInt .f64 a) (floatOfInt .f64 b), .complex .f64 (floatOfInt .f64 c) (floatOfInt .f64 d)] w fun e w' => e = .returned (.bool (decide (a ≤ c) && decide (b ≤ d))) ∧ w = w' := by
  have h := fits_any (floatOfInt .f64 a) (floatOfInt .f64 b) (floatOfInt .f64 c) (floatOfInt .f64 d) w
  obtain ⟨e1, e2, e3⟩ := c_whole a b ha.1 ha.2 hb.1 hb.2
  obtain ⟨g1, g2, g3⟩ := c_whole c d hc.1 hc.2 hd.1 hd.2
  unfold fitB at h
  rw [e1, e2, e3, g1, g2, g3, Bool.true_and, Bool.true_and] at h; exact h

theorem fits_yes {a b c d : Int} (ha : In a) (hb : In b) (hc : In c) (hd : In d) (h1 : a ≤ c) (h2 : b ≤ d) (w : World) :
    Calls Try.prog 36 #[.complex .f64 (floatOfInt .f64 a) (floatOfInt .f64 b), .complex .f64 (floatOfInt .f64 c) (floatOfInt .f64 d)] w fun e w' => e = .returned (.bool true) ∧ w = w' := by
  have h := fits_ch ha hb hc hd w
  rw [decide_eq_true h1, decide_eq_true h2] at h; exact h

theorem less_ch {a b c d : Int} (ha : In a) (hb : In b) (hc : In c) (hd : In d) (w : World) :
    Calls Try.prog 37 #[.complex .f64 (floatOfInt .f64 a) (floatOfInt .f64 b), .complex .f64 (floatOfInt .f64 c) (floatOfInt .f64 d)] w fun e w' => e = .returned (.complex .f64 (floatOfInt .f64 (less a c)) (floatOfInt .f64 (less b d))) ∧ w = w' := by
  have h := less_any (floatOfInt .f64 a) (floatOfInt .f64 b) (floatOfInt .f64 c) (floatOfInt .f64 d) w
  obtain ⟨_, e2, e3⟩ := c_whole a b ha.1 ha.2 hb.1 hb.2
  obtain ⟨_, g2, g3⟩ := c_whole c d hc.1 hc.2 hd.1 hd.2
  rw [e2, e3, g2, g3] at h; exact h

theorem times_ch {a b : Int} (ha : In a) (hb : In b) (n : Int) (hn0 : -9223372036854775808 ≤ n) (hn : n ≤ 9223372036854775807) (w : World) :
    Calls Try.prog 38 #[.complex .f64 (floatOfInt .f64 a) (floatOfInt .f64 b), .int .i64 n] w fun e w' => e = .returned (.complex .f64 (floatOfInt .f64 (tim a n)) (floatOfInt .f64 (tim b n))) ∧ w = w' := by
  have h := Times_any (floatOfInt .f64 a) (floatOfInt .f64 b) n w hn0 hn
  obtain ⟨_, e2, e3⟩ := c_whole a b ha.1 ha.2 hb.1 hb.2
  rw [e2, e3] at h; exact h

theorem sum_ch (bl c' : Nat) {a b c d : Int} (ha : In a) (hb : In b) (hc : In c) (hd : In d) (w : World)
    (h0 : w.cell? ⟨bl, 0, none⟩ = some (.complex .f64 (floatOfInt .f64 a) (floatOfInt .f64 b))) (h1 : w.cell? ⟨bl, 1, none⟩ = some (.complex .f64 (floatOfInt .f64 c) (floatOfInt .f64 d))) :
    Calls Try.prog 35 #[.slice (some ⟨bl, 0, none⟩) 2 c'] w fun e w' => e = .returned (.complex .f64 (floatOfInt .f64 (plus a c)) (floatOfInt .f64 (plus b d))) ∧ w = w' := by
  have h := sum_two bl c' _ _ _ _ w h0 h1
  obtain ⟨_, e2, e3⟩ := c_whole a b ha.1 ha.2 hb.1 hb.2
  obtain ⟨_, g2, g3⟩ := c_whole c d hc.1 hc.2 hd.1 hd.2
  rw [e2, e3, g2, g3] at h; exact h

theorem plus_comm (a b : Int) : plus a b = plus b a := by unfold plus; rw [Int.add_comm]
theorem In.plus {a b : Int} (ha : In a) (hb : In b) : In (plus a b) := plus_in ha.1 hb.1
theorem In.less {a b : Int} (ha : In a) (hb : In b) : In (less a b) := less_in ha.1 ha.2 hb.1
theorem In.tim {a : Int} (ha : In a) (n : Int) : In (tim a n) := tim_in ha.1
theorem le_plus {a b : Int} (ha : In a) (hb : In b) : a ≤ plus a b := by unfold Ytgfjagbcdjmgkaa.plus; unfold In at *; split <;> omega
theorem less_le {a b : Int} (ha : In a) (hb : In b) : less a b ≤ a := by unfold Ytgfjagbcdjmgkaa.less; unfold In at *; split <;> omega
theorem tim_two {a : Int} (ha : In a) : tim a 2 = plus a a := by
  unfold Ytgfjagbcdjmgkaa.tim Ytgfjagbcdjmgkaa.plus; unfold In at ha
  by_cases h0 : a = 0
  · subst h0; simp
  · rw [if_neg (by omega)]
    by_cases h1 : a ≤ 549755813888
    · have : 2 ≤ 1099511627776 / a := (Int.le_ediv_iff_mul_le (by omega)).2 (by omega)
      rw [if_neg (by omega), if_neg (by omega)]; omega
    · have : 1099511627776 / a < 2 := Int.ediv_lt_of_lt_mul (by omega) (by omega)
      rw [if_pos (by omega), if_pos (by omega)]
theorem tim_one {a : Int} (ha : In a) : tim a 1 = a := by
  unfold Ytgfjagbcdjmgkaa.tim; unfold In at ha
  by_cases h0 : a = 0
  · subst h0; simp
  · have : 1 ≤ 1099511627776 / a := (Int.le_ediv_iff_mul_le (by omega)).2 (by omega)
    rw [if_neg (by omega), if_neg (by omega)]; omega
theorem tim_nought (a : Int) : tim a 0 = 0 := by unfold Ytgfjagbcdjmgkaa.tim; simp
theorem less_plus {a c : Int} (ha : In a) (_hc : In c) (h : a + c ≤ 1099511627776) : less (plus a c) c = a := by
  unfold Ytgfjagbcdjmgkaa.less Ytgfjagbcdjmgkaa.plus; unfold In at *; rw [if_neg (by omega), if_neg (by omega)]; omega
theorem less_plus_le {a c : Int} (ha : In a) (hc : In c) : less (plus a c) c ≤ a := by
  unfold Ytgfjagbcdjmgkaa.less Ytgfjagbcdjmgkaa.plus; unfold In at *; split <;> split <;> omega
theorem same {a : Int} (ha : In a) : (FloatKind.f64.format.order (floatOfInt .f64 a) (floatOfInt .f64 a) == some .eq) = true := by
  rw [order_whole a ha.1 ha.2]; rfl

theorem chargeLaws_no (a b c d : Int) (w : World) (h : (¬ (In a ∧ In b)) ∨ (¬ (In c ∧ In d))) :
    Calls Try.prog 10 #[.int .i64 a, .int .i64 b, .int .i64 c, .int .i64 d] w fun e w' => e = .returned (.bool true) ∧ Below w.heap.size w w' := by
  by_cases h1 : In a ∧ In b
  · have h2 : ¬ (In c ∧ In d) := by rcases h with h | h; exact absurd h1 h; exact h
    obtain ⟨ha, hb⟩ := h1
    unfold In at ha hb h2
    go_enter Try.func10, Try.ntmps10
    go_wp2_with fail
    refine (alive1 _).mono ?_
    rintro e w' ⟨rfl, hB⟩
    go_wp2_with fail
    refine (of_yes _ _ _ (by omega) (by omega) (by omega) (by omega)).mono ?_
    rintro e w' ⟨rfl, rfl⟩
    go_wp2_with fail
    refine (of_no _ _ _ (by omega)).mono ?_
    rintro e w' ⟨rfl, rfl⟩
    go_wp2
    go_ret
    exact ⟨rfl, hB⟩
  · clear h
    unfold In at h1
    go_enter Try.func10, Try.ntmps10
    go_wp2_with fail
    refine (alive1 _).mono ?_
    rintro e w' ⟨rfl, hB⟩
    go_wp2_with fail
    refine (of_no _ _ _ (by omega)).mono ?_
    rintro e w' ⟨rfl, rfl⟩
    by_cases h2 : In c ∧ In d
    · obtain ⟨hc, hd⟩ := h2
      unfold In at hc hd
      go_wp2_with fail
      refine (of_yes _ _ _ (by omega) (by omega) (by omega) (by omega)).mono ?_
      rintro e w' ⟨rfl, rfl⟩
      go_wp2
      go_ret
      exact ⟨rfl, hB⟩
    · unfold In at h2
      go_wp2_with fail
      refine (of_no _ _ _ (by omega)).mono ?_
      rintro e w' ⟨rfl, rfl⟩
      go_wp2
      go_ret
      exact ⟨rfl, hB⟩

set_option maxHeartbeats 800000 in
theorem chargeLaws_yes (a b c d : Int) (w : World) (ha : In a) (hb : In b) (hc : In c) (hd : In d) :
    Calls Try.prog 10 #[.int .i64 a, .int .i64 b, .int .i64 c, .int .i64 d] w fun e w' => e = .returned (.bool true) ∧ Below w.heap.size w w' := by
  have s1 := same (ha.plus hc)
  have s2 := same (hb.plus hd)
  have s3 := same (ha.plus ha)
  have s4 := same (hb.plus hb)
  have s5 := same ha
  have s6 := same hb
  have s7 : (FloatKind.f64.format.order 0 0 == some .eq) = true := by decide
  go_enter Try.func10, Try.ntmps10
  go_wp2_with fail
  refine (alive1 _).mono ?_
  rintro e w' ⟨rfl, hB⟩
  have hz := hB.size
  go_wp2_with fail
  refine (of_yes _ _ _ ha.1 ha.2 hb.1 hb.2).mono ?_
  rintro e w' ⟨rfl, rfl⟩
  go_wp2_with fail
  refine (of_yes _ _ _ hc.1 hc.2 hd.1 hd.2).mono ?_
  rintro e w' ⟨rfl, rfl⟩
  go_wp2_with fail
  refine (sum_ch _ _ ha hb hc hd _ (by simp) (by simp)).mono ?_
  rintro e w' ⟨rfl, rfl⟩
  go_wp2_with fail
  refine (sum_ch _ _ hc hd ha hb _ (by simp) (by simp)).mono ?_
  rintro e w' ⟨rfl, rfl⟩
  rw [plus_comm c a, plus_comm d b]
  go_wp2_with fail
  refine (fits_yes ha hb (ha.plus hc) (hb.plus hd) (le_plus ha hc) (le_plus hb hd) _).mono ?_
  rintro e w' ⟨rfl, rfl⟩
  go_wp2_with fail
  refine (less_ch ha hb hc hd _).mono ?_
  rintro e w' ⟨rfl, rfl⟩
  go_wp2_with fail
  refine (fits_yes (ha.less hc) (hb.less hd) ha hb (less_le ha hc) (less_le hb hd) _).mono ?_
  rintro e w' ⟨rfl, rfl⟩
  go_wp2_with fail
  refine (times_ch ha hb _ (by omega) (by omega) _).mono ?_
  rintro e w' ⟨rfl, rfl⟩
  rw [tim_two ha, tim_two hb]
  go_wp2_with fail
  refine (sum_ch _ _ ha hb ha hb _ ?_ ?_).mono ?_
  · go_cell
  · go_cell
  rintro e w' ⟨rfl, rfl⟩
  go_wp2_with fail
  refine (times_ch ha hb _ (by omega) (by omega) _).mono ?_
  rintro e w' ⟨rfl, rfl⟩
  rw [tim_one ha, tim_one hb]
  go_wp2_with fail
  refine (times_ch ha hb _ (by omega) (by omega) _).mono ?_
  rintro e w' ⟨rfl, rfl⟩
  rw [tim_nought, tim_nought, foi_nought]
  have ba := ha
  have bb := hb
  have bc := hc
  have bd := hd
  unfold In at ba bb bc bd
  by_cases h1 : a + c ≤ 1099511627776
  · by_cases h2 : b + d ≤ 1099511627776
    · go_wp2_with fail
      refine (less_ch (ha.plus hc) (hb.plus hd) hc hd _).mono ?_
      rintro e w' ⟨rfl, rfl⟩
      rw [less_plus ha hc h1, less_plus hb hd h2]
      go_wp2_with fail
      go_ret
      exact ⟨rfl, by go_grown⟩
    · go_wp2_with fail
      refine (less_ch (ha.plus hc) (hb.plus hd) hc hd _).mono ?_
      rintro e w' ⟨rfl, rfl⟩
      go_wp2_with fail
      refine (fits_yes ((ha.plus hc).less hc) ((hb.plus hd).less hd) ha hb (less_plus_le ha hc) (less_plus_le hb hd) _).mono ?_
      rintro e w' ⟨rfl, rfl⟩
      go_wp2_with fail
      go_ret
      exact ⟨rfl, by go_grown⟩
  · go_wp2_with fail
    refine (less_ch (ha.plus hc) (hb.plus hd) hc hd _).mono ?_
    rintro e w' ⟨rfl, rfl⟩
    go_wp2_with fail
    refine (fits_yes ((ha.plus hc).less hc) ((hb.plus hd).less hd) ha hb (less_plus_le ha hc) (less_plus_le hb hd) _).mono ?_
    rintro e w' ⟨rfl, rfl⟩
    go_wp2_with fail
    go_ret
    exact ⟨rfl, by go_grown⟩

theorem up_any (n : Int) (w : World) :
    Calls Try.prog 40 #[.int .i64 n] w fun e w' => e = .returned (.int .i64 (if n < 0 then 0 else n)) ∧ w = w' := by
  by_cases h : n < 0
  · rw [if_pos h]
    go_enter Try.func40, Try.ntmps40
    go_wp2
    go_ret
    exact ⟨rfl, rfl⟩
  · rw [if_neg h]
    go_enter Try.func40, Try.ntmps40
    go_wp2
    go_ret
    exact ⟨rfl, rfl⟩
theorem up_less (a c : Int) (w : World) :
    Calls Try.prog 40 #[.int .i64 (a - c)] w fun e w' => e = .returned (.int .i64 (less a c)) ∧ w = w' := up_any (a - c) w

theorem less_great {a b : Int} (ha : In a) (hb : In b) (w : World) :
    Calls Try.prog 37 #[.complex .f64 (floatOfInt .f64 a) (floatOfInt .f64 b), .complex .f64 0 4787326403894837248] w fun e w' => e = .returned (.complex .f64 (floatOfInt .f64 a) (floatOfInt .f64 0)) ∧ w = w' := by
  have h := less_ch ha hb (c := 0) (d := 1099511627776) ⟨by omega, by omega⟩ ⟨by omega, by omega⟩ w
  have e1 : less a 0 = a := by unfold Ytgfjagbcdjmgkaa.less; unfold In at ha; rw [if_neg (by omega)]; omega
  have e2 : less b 1099511627776 = 0 := by unfold Ytgfjagbcdjmgkaa.less; unfold In at hb; split <;> omega
  rw [e1, e2, foi_nought, foi_great] at h
  rw [foi_nought]; exact h

theorem chargeParts_no (a b c d n : Int) (w : World) (h : (¬ (In a ∧ In b)) ∨ (¬ (In c ∧ In d))) :
    Calls Try.prog 11 #[.int .i64 a, .int .i64 b, .int .i64 c, .int .i64 d, .int .i64 n] w fun e w' => e = .returned (.bool true) ∧ Below w.heap.size w w' := by
  by_cases h1 : In a ∧ In b
  · have h2 : ¬ (In c ∧ In d) := by rcases h with h | h; exact absurd h1 h; exact h
    obtain ⟨ha, hb⟩ := h1
    unfold In at ha hb h2
    go_enter Try.func11, Try.ntmps11
    go_wp2_with fail
    refine (alive1 _).mono ?_
    rintro e w' ⟨rfl, hB⟩
    go_wp2_with fail
    refine (of_yes _ _ _ (by omega) (by omega) (by omega) (by omega)).mono ?_
    rintro e w' ⟨rfl, rfl⟩
    go_wp2_with fail
    refine (of_no _ _ _ (by omega)).mono ?_
    rintro e w' ⟨rfl, rfl⟩
    go_wp2
    go_ret
    exact ⟨rfl, hB⟩
  · clear h
    unfold In at h1
    go_enter Try.func11, Try.ntmps11
    go_wp2_with fail
    refine (alive1 _).mono ?_
    rintro e w' ⟨rfl, hB⟩
    go_wp2_with fail
    refine (of_no _ _ _ (by omega)).mono ?_
    rintro e w' ⟨rfl, rfl⟩
    by_cases h2 : In c ∧ In d
    · obtain ⟨hc, hd⟩ := h2
      unfold In at hc hd
      go_wp2_with fail
      refine (of_yes _ _ _ (by omega) (by omega) (by omega) (by omega)).mono ?_
      rintro e w' ⟨rfl, rfl⟩
      go_wp2
      go_ret
      exact ⟨rfl, hB⟩
    · unfold In at h2
      go_wp2_with fail
      refine (of_no _ _ _ (by omega)).mono ?_
      rintro e w' ⟨rfl, rfl⟩
      go_wp2
      go_ret
      exact ⟨rfl, hB⟩

set_option maxHeartbeats 800000 in
theorem chargeParts_yes (a b c d n : Int) (w : World) (ha : In a) (hb : In b) (hc : In c) (hd : In d) (hn0 : -9223372036854775808 ≤ n) (hn : n ≤ 9223372036854775807) :
    Calls Try.prog 11 #[.int .i64 a, .int .i64 b, .int .i64 c, .int .i64 d, .int .i64 n] w fun e w' => e = .returned (.bool true) ∧ Below w.heap.size w w' := by
  have ba := ha
  have bb := hb
  have bc := hc
  have bd := hd
  unfold In at ba bb bc bd
  have In0 : In 0 := ⟨by omega, by omega⟩
  by_cases h1 : a ≤ c
  all_goals
    by_cases h2 : b ≤ d
    all_goals
      go_enter Try.func11, Try.ntmps11
      go_wp2_with fail
      refine (alive1 _).mono ?_
      rintro e w' ⟨rfl, hB⟩
      go_wp2_with fail
      refine (of_yes _ _ _ ha.1 ha.2 hb.1 hb.2).mono ?_
      rintro e w' ⟨rfl, rfl⟩
      go_wp2_with fail
      refine (of_yes _ _ _ hc.1 hc.2 hd.1 hd.2).mono ?_
      rintro e w' ⟨rfl, rfl⟩
      go_wp2_with fail
      refine (less_ch ha hb hc hd _).mono ?_
      rintro e w' ⟨rfl, rfl⟩
      go_wp2_with fail
      refine (parts_ch (ha.less hc) (hb.less hd) _).mono ?_
      rintro e w' ⟨rfl, rfl⟩
      go_wp2_with fail
      refine (times_ch ha hb _ hn0 hn _).mono ?_
      rintro e w' ⟨rfl, rfl⟩
      go_wp2_with fail
      refine (parts_ch (ha.tim n) (hb.tim n) _).mono ?_
      rintro e w' ⟨rfl, rfl⟩
      go_wp2_with fail
      refine (less_great ha hb _).mono ?_
      rintro e w' ⟨rfl, rfl⟩
      go_wp2_with fail
      refine (times_ch ha In0 _ hn0 hn _).mono ?_
      rintro e w' ⟨rfl, rfl⟩
      go_wp2_with fail
      refine (parts_ch (ha.tim n) (In0.tim n) _).mono ?_
      rintro e w' ⟨rfl, rfl⟩
      go_wp2_with fail
      refine (up_less _ _ _).mono ?_
      rintro e w' ⟨rfl, rfl⟩
      go_wp2_with fail
      refine (up_less _ _ _).mono ?_
      rintro e w' ⟨rfl, rfl⟩
      go_wp2_with fail
      refine (fits_ch ha hb hc hd _).mono ?_
      rintro e w' ⟨rfl, rfl⟩
      go_wp2_with fail
      go_ret
      exact ⟨rfl, hB⟩

theorem wf_i64 {n : Int} (h : (Lit.int .i64 n).wf = true) : -9223372036854775808 ≤ n ∧ n ≤ 9223372036854775807 := by
  simpa [Lit.wf, IntKind.min, IntKind.max, IntKind.bits, IntKind.signed] using h

theorem chargeLaws_walk (a b c d : Int) (_ : (Lit.int .i64 a).wf = true) (_ : (Lit.int .i64 b).wf = true) (_ : (Lit.int .i64 c).wf = true) (_ : (Lit.int .i64 d).wf = true) (w : World) :
    Calls Try.prog 10 #[.int .i64 a, .int .i64 b, .int .i64 c, .int .i64 d] w fun e w' => e = .returned (.bool true) ∧ Below w.heap.size w w' := by
  by_cases h1 : In a ∧ In b
  · by_cases h2 : In c ∧ In d
    · exact chargeLaws_yes a b c d w h1.1 h1.2 h2.1 h2.2
    · exact chargeLaws_no a b c d w (Or.inr h2)
  · exact chargeLaws_no a b c d w (Or.inl h1)

theorem chargeParts_walk (a b c d n : Int) (_ : (Lit.int .i64 a).wf = true) (_ : (Lit.int .i64 b).wf = true) (_ : (Lit.int .i64 c).wf = true) (_ : (Lit.int .i64 d).wf = true) (hn : (Lit.int .i64 n).wf = true) (w : World) :
    Calls Try.prog 11 #[.int .i64 a, .int .i64 b, .int .i64 c, .int .i64 d, .int .i64 n] w fun e w' => e = .returned (.bool true) ∧ Below w.heap.size w w' := by
  by_cases h1 : In a ∧ In b
  · by_cases h2 : In c ∧ In d
    · exact chargeParts_yes a b c d n w h1.1 h1.2 h2.1 h2.2 (wf_i64 hn).1 (wf_i64 hn).2
    · exact chargeParts_no a b c d n w (Or.inr h2)
  · exact chargeParts_no a b c d n w (Or.inl h1)

end Go.Proofs.Ytgfjagbcdjmgkaa
