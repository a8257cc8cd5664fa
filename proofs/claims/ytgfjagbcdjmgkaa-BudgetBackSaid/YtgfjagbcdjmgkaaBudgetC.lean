/- The law's own check that a budget lives; and the walk of BudgetBack. -/
import Derived.Test.YtgfjagbcdjmgkaaBudgetB
import Derived.Test.YtgfjagbcdjmgkaaBudgetD
namespace Go.Proofs.Ytgfjagbcdjmgkaa
set_option linter.unusedVariables false
set_option linter.unusedSimpArgs false
open Go.RowKit
theorem give_all {b m : Nat} {A B c d : Int} (w : World) (h : Bud w b m A B c d #[ent c d] 1) (hbm : b ≠ m) (hc : In c) (hd : In d) :
    Calls Try.prog 28 #[.pointer (some ⟨b, 0, none⟩), .int .i64 1, .complex .f64 (floatOfInt .f64 c) (floatOfInt .f64 d)] w
      fun e w' => e = .returned (.bool true) ∧ Bud w' b m A B 0 0 #[ent 0 0] 1 ∧ ∀ B0, B0 ≤ b → B0 ≤ m → B0 ≤ w.heap.size → Below B0 w w' := by
  refine (give_yes w h hbm hc hd).mono ?_
  rintro e w' ⟨rfl, rfl⟩
  exact ⟨rfl, ((h.drew.put hbm _ _).put hbm _ _).set hbm _ _, fun B0 h1 h2 _ => set_below (putMap_below (putMap_below (Below.refl _ _).drew h2) h2) h1⟩

theorem foi_1 : floatOfInt .f64 1 = 4607182418800017408 := by kernel_rfl
theorem foi_3 : floatOfInt .f64 3 = 4613937818241073152 := by kernel_rfl
theorem foi_5 : floatOfInt .f64 5 = 4617315517961601024 := by kernel_rfl

theorem alive15 (w : World) : Calls Try.prog 22 #[] w fun e w' => e = .returned (.bool true) ∧ Below w.heap.size w w' := by
  have I0 : In 0 := ⟨by omega, by omega⟩
  have I1 : In 1 := ⟨by omega, by omega⟩
  have I3 : In 3 := ⟨by omega, by omega⟩
  have I5 : In 5 := ⟨by omega, by omega⟩
  have hn := Lib.hid (fun W => new_ch (x := 5) (y := 0) I5 I0 W)
  rw [foi_5, foi_nought] at hn
  have s7 : (FloatKind.f64.format.order 0 0 == some .eq) = true := by decide
  have s3 : (FloatKind.f64.format.order 4613937818241073152 4613937818241073152 == some .eq) = true := by rw [← foi_3]; exact same I3
  go_enter Try.func22, Try.ntmps22
  go_wp2_with fail
  refine (hn.out _).mono ?_
  rintro e w1 ⟨b, m, rfl, hb, hm, hbm, hB, bel⟩
  have HB := Lib.hid hB
  have LB := Lib.hid (And.intro hb hm)
  clear hB hb hm
  go_wp2_with fail
  have ht := take_no (c := 0) (d := 1) w1 HB.out I5 I0 I0 I0 I0 I1 (by decide)
  rw [foi_1, foi_nought] at ht
  refine ht.mono ?_
  clear ht
  rintro e w2 ⟨rfl, hB2⟩
  go_wp2_with fail
  have ht := take_yes (c := 3) (d := 0) w2 (HB.out.below hB2) hbm I5 I0 I3 I0 (by omega) (by omega)
  rw [foi_3, foi_nought] at ht
  refine ht.mono ?_
  clear ht
  rintro e w3 ⟨rfl, hb3, bel3⟩
  have HB3 := Lib.hid hb3
  have BL3 := Lib.hid bel3
  clear hb3 bel3
  go_wp2_with fail
  have ht := used_any w3 HB3.out
  rw [foi_3, foi_nought] at ht
  refine ht.mono ?_
  clear ht
  rintro e w4 ⟨rfl, rfl⟩
  go_wp2_with fail
  go_ret
  refine ⟨rfl, ?_⟩
  have z1 : w.heap.size ≤ w1.heap.size := bel.size
  have z2 : w1.heap.size ≤ w2.heap.size := hB2.size
  exact (bel.trans (hB2.mono z1)).trans (BL3.out _ LB.out.1 LB.out.2 (Nat.le_trans z1 z2))

theorem less_0 {a : Int} (ha : In a) : less a 0 = a := by unfold less; unfold In at ha; rw [if_neg (by omega)]; omega

set_option maxHeartbeats 800000 in
theorem budgetBack_no (x y c d : Int) (o : Bool) (w : World) (h : (¬ (In x ∧ In y)) ∨ (¬ (In c ∧ In d))) :
    Calls Try.prog 7 #[.int .i64 x, .int .i64 y, .int .i64 c, .int .i64 d, .bool o] w fun e w' => e = .returned (.bool true) ∧ Below w.heap.size w w' := by
  have HN := Lib.hid h
  by_cases h1 : In x ∧ In y
  · have h2 := Lib.hid (show ¬ (In c ∧ In d) by rcases h with h | h; exact absurd h1 h; exact h)
    obtain ⟨ha, hb⟩ := h1
    clear h
    go_enter Try.func7, Try.ntmps7
    go_wp2_with fail
    refine (alive15 _).mono ?_
    rintro e w' ⟨rfl, hB⟩
    go_wp2_with fail
    refine (of1_yes ha hb _).mono ?_
    rintro e w' ⟨rfl, rfl⟩
    go_wp2_with fail
    refine (of1_no h2.out _).mono ?_
    rintro e w' ⟨rfl, rfl⟩
    go_wp2
    go_ret
    exact ⟨rfl, hB⟩
  · have h1' := Lib.hid h1
    clear h h1
    by_cases h2 : In c ∧ In d
    · obtain ⟨hc, hd⟩ := h2
      go_enter Try.func7, Try.ntmps7
      go_wp2_with fail
      refine (alive15 _).mono ?_
      rintro e w' ⟨rfl, hB⟩
      go_wp2_with fail
      refine (of1_no h1'.out _).mono ?_
      rintro e w' ⟨rfl, rfl⟩
      go_wp2_with fail
      refine (of1_yes hc hd _).mono ?_
      rintro e w' ⟨rfl, rfl⟩
      go_wp2
      go_ret
      exact ⟨rfl, hB⟩
    · have h2' := Lib.hid h2
      clear h2
      go_enter Try.func7, Try.ntmps7
      go_wp2_with fail
      refine (alive15 _).mono ?_
      rintro e w' ⟨rfl, hB⟩
      go_wp2_with fail
      refine (of1_no h1'.out _).mono ?_
      rintro e w' ⟨rfl, rfl⟩
      go_wp2_with fail
      refine (of1_no h2'.out _).mono ?_
      rintro e w' ⟨rfl, rfl⟩
      go_wp2
      go_ret
      exact ⟨rfl, hB⟩

set_option maxHeartbeats 800000 in
theorem budgetBack_zero (x y : Int) (o : Bool) (w : World) (ha : In x) (hb : In y) :
    Calls Try.prog 7 #[.int .i64 x, .int .i64 y, .int .i64 0, .int .i64 0, .bool o] w fun e w' => e = .returned (.bool true) ∧ Below w.heap.size w w' := by
  have I0 : In 0 := ⟨by omega, by omega⟩
  go_enter Try.func7, Try.ntmps7
  go_wp2_with fail
  refine (alive15 _).mono ?_
  rintro e w' ⟨rfl, hB⟩
  go_wp2_with fail
  refine (of1_yes ha hb _).mono ?_
  rintro e w' ⟨rfl, rfl⟩
  go_wp2_with fail
  refine (of1_yes I0 I0 _).mono ?_
  rintro e w' ⟨rfl, rfl⟩
  go_wp2
  go_ret
  exact ⟨rfl, hB⟩

set_option maxHeartbeats 800000 in
theorem budgetBack_small (x y c d : Int) (o : Bool) (w : World) (ha : In x) (hb : In y) (hc : In c) (hd : In d) (hz : ¬ (c = 0 ∧ d = 0)) (hf : ¬ (c ≤ x ∧ d ≤ y)) :
    Calls Try.prog 7 #[.int .i64 x, .int .i64 y, .int .i64 c, .int .i64 d, .bool o] w fun e w' => e = .returned (.bool true) ∧ Below w.heap.size w w' := by
  have I0 : In 0 := ⟨by omega, by omega⟩
  have s7 : (FloatKind.f64.format.order 0 0 == some .eq) = true := by decide
  have s1 := same ha
  have s2 := same hb
  have HF := Lib.hid hf
  have HZ := Lib.hid hz
  clear hf
  have hcc : (c == 0) = true ∧ (d == 0) = false ∨ (c == 0) = false := by
    by_cases h : c = 0
    · exact Or.inl ⟨beq_iff_eq.2 h, beq_eq_false_iff_ne.2 fun h' => hz ⟨h, h'⟩⟩
    · exact Or.inr (beq_eq_false_iff_ne.2 h)
  clear hz HZ
  rcases hcc with ⟨hc0, hd0⟩ | hc0
  all_goals
    by_cases hcx : c ≤ x
    all_goals
      try (have hdy : ¬ d ≤ y := fun h => HF.out ⟨hcx, h⟩)
      try (have hdb : decide (d ≤ y) = false := decide_eq_false hdy)
      try (have hcb : decide (c ≤ x) = false := decide_eq_false hcx)
      go_enter Try.func7, Try.ntmps7
      go_wp2_with fail
      refine (alive15 _).mono ?_
      rintro e w' ⟨rfl, hB⟩
      go_wp2_with fail
      refine (of1_yes ha hb _).mono ?_
      rintro e w' ⟨rfl, rfl⟩
      go_wp2_with fail
      refine (of1_yes hc hd _).mono ?_
      rintro e w' ⟨rfl, rfl⟩
      go_wp2_with fail
      refine (new_ch ha hb _).mono ?_
      rintro e w1 ⟨b, m, rfl, hb1, hm1, hbm, hBud, bel⟩
      have HB := Lib.hid hBud
      have LB := Lib.hid (And.intro hb1 hm1)
      clear hBud hb1 hm1
      go_wp2_with fail
      refine (take_no w1 HB.out ha hb I0 I0 hc hd (by rw [less_0 ha, less_0 hb]; exact HF.out)).mono ?_
      rintro e w2 ⟨rfl, hB2⟩
      go_wp2_with fail
      have ht := used_any w2 (HB.out.below hB2)
      rw [foi_nought] at ht
      refine ht.mono ?_
      clear ht
      rintro e w3 ⟨rfl, rfl⟩
      go_wp2_with fail
      have ht := left_any w2 (HB.out.below hB2) ha hb I0 I0
      rw [less_0 ha, less_0 hb] at ht
      refine ht.mono ?_
      clear ht
      rintro e w3 ⟨rfl, hB3⟩
      go_wp2_with fail
      go_ret
      have z0 := hB.size
      have z1 := bel.size
      have z2 := hB2.size
      exact ⟨rfl, ((hB.trans (bel.mono z0)).trans (hB2.mono (Nat.le_trans z0 z1))).trans (hB3.mono (Nat.le_trans z0 (Nat.le_trans z1 z2)))⟩

set_option maxHeartbeats 800000 in
theorem budgetBack_other (x y c d : Int) (w : World) (ha : In x) (hb : In y) (hc : In c) (hd : In d) (hz : ¬ (c = 0 ∧ d = 0)) (h1 : c ≤ x) (h2 : d ≤ y) :
    Calls Try.prog 7 #[.int .i64 x, .int .i64 y, .int .i64 c, .int .i64 d, .bool true] w fun e w' => e = .returned (.bool true) ∧ Below w.heap.size w w' := by
  have I0 : In 0 := ⟨by omega, by omega⟩
  have s7 : (FloatKind.f64.format.order 0 0 == some .eq) = true := by decide
  have s1 := same hc
  have s2 := same hd
  have HC := Lib.hid (show ¬ (c ≤ 0 ∧ d ≤ 0) by unfold In at hc hd; omega)
  have HZ := Lib.hid hz
  have hcc : (c == 0) = true ∧ (d == 0) = false ∨ (c == 0) = false := by
    by_cases h : c = 0
    · exact Or.inl ⟨beq_iff_eq.2 h, beq_eq_false_iff_ne.2 fun h' => hz ⟨h, h'⟩⟩
    · exact Or.inr (beq_eq_false_iff_ne.2 h)
  clear hz HZ
  rcases hcc with ⟨hc0, hd0⟩ | hc0
  all_goals
    go_enter Try.func7, Try.ntmps7
    go_wp2_with fail
    refine (alive15 _).mono ?_
    rintro e w' ⟨rfl, hB⟩
    go_wp2_with fail
    refine (of1_yes ha hb _).mono ?_
    rintro e w' ⟨rfl, rfl⟩
    go_wp2_with fail
    refine (of1_yes hc hd _).mono ?_
    rintro e w' ⟨rfl, rfl⟩
    go_wp2_with fail
    refine (new_ch ha hb _).mono ?_
    rintro e w1 ⟨b, m, rfl, hb1, hm1, hbm, hBud, bel⟩
    have HB := Lib.hid hBud
    have LB := Lib.hid (And.intro hb1 hm1)
    clear hBud hb1 hm1
    go_wp2_with fail
    refine (take_yes w1 HB.out hbm ha hb hc hd h1 h2).mono ?_
    rintro e w2 ⟨rfl, hb2, bel2⟩
    have HB2 := Lib.hid hb2
    have BL2 := Lib.hid bel2
    clear hb2 bel2
    go_wp2_with fail
    refine (give_other w2 HB2.out hc hd HC.out).mono ?_
    rintro e w3 ⟨rfl, rfl⟩
    go_wp2_with fail
    refine (of_same w2 HB2.out).mono ?_
    rintro e w3 ⟨rfl, rfl⟩
    go_wp2_with fail
    have ht := of_other w2 HB2.out
    rw [foi_nought] at ht
    refine ht.mono ?_
    clear ht
    rintro e w3 ⟨rfl, rfl⟩
    go_wp2_with fail
    go_ret
    have z0 := hB.size
    have z1 := bel.size
    exact ⟨rfl, (hB.trans (bel.mono z0)).trans (BL2.out _ (Nat.le_trans z0 LB.out.1) (Nat.le_trans z0 LB.out.2) (Nat.le_trans z0 z1))⟩

set_option maxHeartbeats 800000 in
theorem budgetBack_back (x y c d : Int) (w : World) (ha : In x) (hb : In y) (hc : In c) (hd : In d) (hz : ¬ (c = 0 ∧ d = 0)) (h1 : c ≤ x) (h2 : d ≤ y) :
    Calls Try.prog 7 #[.int .i64 x, .int .i64 y, .int .i64 c, .int .i64 d, .bool false] w fun e w' => e = .returned (.bool true) ∧ Below w.heap.size w w' := by
  have I0 : In 0 := ⟨by omega, by omega⟩
  have s7 : (FloatKind.f64.format.order 0 0 == some .eq) = true := by decide
  have s1 := same ha
  have s2 := same hb
  have HC := Lib.hid (show ¬ (c ≤ 0 ∧ d ≤ 0) by unfold In at hc hd; omega)
  have HZ := Lib.hid hz
  have hcc : (c == 0) = true ∧ (d == 0) = false ∨ (c == 0) = false := by
    by_cases h : c = 0
    · exact Or.inl ⟨beq_iff_eq.2 h, beq_eq_false_iff_ne.2 fun h' => hz ⟨h, h'⟩⟩
    · exact Or.inr (beq_eq_false_iff_ne.2 h)
  clear hz HZ
  rcases hcc with ⟨hc0, hd0⟩ | hc0
  all_goals
    go_enter Try.func7, Try.ntmps7
    go_wp2_with fail
    refine (alive15 _).mono ?_
    rintro e w' ⟨rfl, hB⟩
    go_wp2_with fail
    refine (of1_yes ha hb _).mono ?_
    rintro e w' ⟨rfl, rfl⟩
    go_wp2_with fail
    refine (of1_yes hc hd _).mono ?_
    rintro e w' ⟨rfl, rfl⟩
    go_wp2_with fail
    refine (new_ch ha hb _).mono ?_
    rintro e w1 ⟨b, m, rfl, hb1, hm1, hbm, hBud, bel⟩
    have HB := Lib.hid hBud
    have LB := Lib.hid (And.intro hb1 hm1)
    clear hBud hb1 hm1
    go_wp2_with fail
    refine (take_yes w1 HB.out hbm ha hb hc hd h1 h2).mono ?_
    rintro e w2 ⟨rfl, hb2, bel2⟩
    have HB2 := Lib.hid hb2
    have BL2 := Lib.hid bel2
    clear hb2 bel2
    have z0 := hB.size
    have z1 := bel.size
    have z2 := (BL2.out 0 (by omega) (by omega) (by omega)).size
    go_wp2_with fail
    refine (give_all w2 HB2.out hbm hc hd).mono ?_
    rintro e w3 ⟨rfl, hb3, bel3⟩
    have HB3 := Lib.hid hb3
    have BL3 := Lib.hid bel3
    clear hb3 bel3
    have z3 := (BL3.out 0 (by omega) (by omega) (by omega)).size
    go_wp2_with fail
    have ht := used_any w3 HB3.out
    rw [foi_nought] at ht
    refine ht.mono ?_
    clear ht
    rintro e w4 ⟨rfl, rfl⟩
    go_wp2_with fail
    have ht := left_any w3 HB3.out ha hb I0 I0
    rw [less_0 ha, less_0 hb] at ht
    refine ht.mono ?_
    clear ht
    rintro e w4 ⟨rfl, hB4⟩
    go_wp2_with fail
    refine (give_empty w4 (HB3.out.below hB4) hc hd HC.out).mono ?_
    rintro e w5 ⟨rfl, rfl⟩
    go_wp2_with fail
    go_ret
    exact ⟨rfl, (((hB.trans (bel.mono z0)).trans (BL2.out _ (Nat.le_trans z0 LB.out.1) (Nat.le_trans z0 LB.out.2) (Nat.le_trans z0 z1))).trans (BL3.out _ (Nat.le_trans z0 LB.out.1) (Nat.le_trans z0 LB.out.2) (Nat.le_trans z0 (Nat.le_trans z1 z2)))).trans (hB4.mono (Nat.le_trans z0 (Nat.le_trans z1 (Nat.le_trans z2 z3))))⟩

set_option maxHeartbeats 800000 in
theorem budgetBack_walk (x y c d : Int) (o : Bool) (_ : (Lit.int .i64 x).wf = true) (_ : (Lit.int .i64 y).wf = true) (_ : (Lit.int .i64 c).wf = true) (_ : (Lit.int .i64 d).wf = true) (w : World) :
    Calls Try.prog 7 #[.int .i64 x, .int .i64 y, .int .i64 c, .int .i64 d, .bool o] w fun e w' => e = .returned (.bool true) ∧ Below w.heap.size w w' := by
  by_cases h1 : In x ∧ In y
  · by_cases h2 : In c ∧ In d
    · by_cases hz : c = 0 ∧ d = 0
      · obtain ⟨rfl, rfl⟩ := hz
        exact budgetBack_zero x y o w h1.1 h1.2
      · by_cases hf : c ≤ x ∧ d ≤ y
        · cases o
          · exact budgetBack_back x y c d w h1.1 h1.2 h2.1 h2.2 hz hf.1 hf.2
          · exact budgetBack_other x y c d w h1.1 h1.2 h2.1 h2.2 hz hf.1 hf.2
        · exact budgetBack_small x y c d o w h1.1 h1.2 h2.1 h2.2 hz hf
    · exact budgetBack_no x y c d o w (Or.inr h2)
  · exact budgetBack_no x y c d o w (Or.inl h1)

end Go.Proofs.Ytgfjagbcdjmgkaa
