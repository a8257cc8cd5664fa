/- Facts on float64: a whole number from 0 to 2^40 is held exactly, and what a float64 between 0 and 2^40 is cut to. No program in sight. -/
import Derived.Laws.FloatArith
namespace Go.Proofs.Ytgfjagbcdjmgkaa
open Ieee

theorem leastPlace_double : double.leastPlace = -1074 := by decide
theorem binade_double : double.binade = 2 ^ 52 := rfl
theorem infRung_double : double.infRung = 2047 * 2 ^ 52 := by decide
theorem signWeight_double : double.signWeight = 2 ^ 63 := by decide

theorem cut_zero_drop (way : Toward) (neg : Bool) (n : Nat) : way.cut neg n 0 = n := by
  have h1 : (1 : Nat) <<< min 0 (n.log2 + 2) = 1 := by simp
  unfold Toward.cut
  simp only [h1, Nat.div_one, Nat.mod_one]
  cases way <;> simp

/-- The number's place: 2^L ≤ n < 2^(L+1). -/
theorem log2_spec (n : Nat) (h : n ≠ 0) : 2 ^ n.log2 ≤ n ∧ n < 2 ^ (n.log2 + 1) := ⟨Nat.log2_self_le h, Nat.lt_log2_self⟩

theorem small_rung (q m : Nat) (hq : q ≤ 1062 * 2 ^ 52) (hm : m < 2 ^ 53) : q + m ≤ 2047 * 2 ^ 52 := by omega

theorem nearest_whole (n : Nat) (h0 : n ≠ 0) (h : n ≤ 2 ^ 40) :
    floatOfInt .f64 (n : Int) = (n.log2 + 1022) * 2 ^ 52 + n * 2 ^ (52 - n.log2) := by
  obtain ⟨h1, h2⟩ := log2_spec n h0
  have hL : n.log2 ≤ 40 := by
    by_cases hc : n.log2 ≤ 40
    · exact hc
    · exfalso
      have : 2 ^ 41 ≤ 2 ^ n.log2 := Nat.pow_le_pow_right (by omega) (by omega)
      omega
  have e : floatOfInt .f64 (n : Int) = double.nearest false n 0 := by
    unfold floatOfInt FloatKind.nearest FloatKind.encode
    have : decide ((n : Int) < 0) = false := by simp
    rw [this]; rfl
  rw [e]
  unfold Format.nearest
  rw [if_neg h0]
  have hlast : max ((0 : Int) + n.log2 - double.fractionBits) double.leastPlace = (n.log2 : Int) - 52 := by
    rw [leastPlace_double]
    have : (double.fractionBits : Int) = 52 := rfl
    rw [this]; omega
  simp only [hlast]
  have e1 : ((0 : Int) - ((n.log2 : Int) - 52)).toNat = 52 - n.log2 := by omega
  have e2 : (((n.log2 : Int) - 52) - (0 : Int)).toNat = 0 := by omega
  have e3 : (((n.log2 : Int) - 52) - double.leastPlace).toNat = n.log2 + 1022 := by rw [leastPlace_double]; omega
  rw [e1, e2, e3, cut_zero_drop, binade_double, infRung_double, Nat.shiftLeft_eq]
  have hb : n * 2 ^ (52 - n.log2) < 2 ^ 53 := by
    have : n * 2 ^ (52 - n.log2) < 2 ^ (n.log2 + 1) * 2 ^ (52 - n.log2) := Nat.mul_lt_mul_of_pos_right h2 (Nat.two_pow_pos _)
    rw [← Nat.pow_add] at this
    rwa [show n.log2 + 1 + (52 - n.log2) = 53 from by omega] at this
  have hm : (n.log2 + 1022) * 2 ^ 52 + n * 2 ^ (52 - n.log2) ≤ 2047 * 2 ^ 52 := by
    exact small_rung _ _ (Nat.mul_le_mul_right _ (by omega)) hb
  rw [Nat.min_eq_left hm]
  rfl

theorem read_whole (n : Nat) (h0 : n ≠ 0) (h : n ≤ 2 ^ 40) :
    double.read (floatOfInt .f64 (n : Int)) = .number false (n * 2 ^ (52 - n.log2)) ((n.log2 : Int) - 52) := by
  obtain ⟨h1, h2⟩ := log2_spec n h0
  have hL : n.log2 ≤ 40 := by
    by_cases hc : n.log2 ≤ 40
    · exact hc
    · exfalso
      have : 2 ^ 41 ≤ 2 ^ n.log2 := Nat.pow_le_pow_right (by omega) (by omega)
      omega
  have hb : n * 2 ^ (52 - n.log2) < 2 ^ 53 := by
    have : n * 2 ^ (52 - n.log2) < 2 ^ (n.log2 + 1) * 2 ^ (52 - n.log2) := Nat.mul_lt_mul_of_pos_right h2 (Nat.two_pow_pos _)
    rw [← Nat.pow_add] at this
    rwa [show n.log2 + 1 + (52 - n.log2) = 53 from by omega] at this
  have ha : 2 ^ 52 ≤ n * 2 ^ (52 - n.log2) := by
    have : 2 ^ n.log2 * 2 ^ (52 - n.log2) ≤ n * 2 ^ (52 - n.log2) := Nat.mul_le_mul_right _ h1
    rw [← Nat.pow_add] at this
    rwa [show n.log2 + (52 - n.log2) = 52 from by omega] at this
  rw [nearest_whole n h0 h]
  generalize n * 2 ^ (52 - n.log2) = m at *
  generalize n.log2 = L at *
  unfold Format.read
  rw [binade_double, infRung_double, signWeight_double, leastPlace_double]
  have e1 : ((L + 1022) * 2 ^ 52 + m) / 2 ^ 63 = 0 := by omega
  have e2 : ((L + 1022) * 2 ^ 52 + m) % 2 ^ 63 = (L + 1022) * 2 ^ 52 + m := by omega
  simp only [e1, e2]
  rw [if_neg (by omega), if_pos (by omega)]
  have e3 : ((L + 1022) * 2 ^ 52 + m) % 2 ^ 52 = m - 2 ^ 52 := by omega
  have e4 : ((L + 1022) * 2 ^ 52 + m) / 2 ^ 52 = L + 1023 := by omega
  rw [e3, e4]
  have e5 : 2 ^ 52 + (m - 2 ^ 52) = m := by omega
  have e6 : (-1074 : Int) + ((L + 1023 - 1 : Nat) : Int) = (L : Int) - 52 := by omega
  rw [e5, e6]
  rfl

theorem read_zero : double.read (floatOfInt .f64 0) = .number false 0 (-1074) := by decide

theorem nat_whole (n : Nat) (h : n ≤ 2 ^ 40) : ∃ m e, double.read (floatOfInt .f64 (n : Int)) = .number false m e := by
  by_cases h0 : n = 0
  · subst h0; exact ⟨_, _, read_zero⟩
  · exact ⟨_, _, read_whole n h0 h⟩

/-- A number is as great as itself. -/
theorem order_self (s : Bool) (m : Nat) (e : Int) : Datum.order (.number s m e) (.number s m e) = some .eq := by
  simp [Datum.order]

theorem signed_false (m k : Nat) : signed false m k = ((m * 2 ^ k : Nat) : Int) := by simp [signed, Nat.shiftLeft_eq]
theorem signed_true (m k : Nat) : signed true m k = -((m * 2 ^ k : Nat) : Int) := by simp [signed, Nat.shiftLeft_eq]

theorem cut_zero (neg : Bool) (n drop : Nat) : Toward.zero.cut neg n drop = n / 2 ^ (min drop (n.log2 + 2)) := by
  unfold Toward.cut
  simp [Nat.shiftLeft_eq]

theorem read_nought : double.read 0 = .number false 0 (-1074) := by decide
theorem read_great : double.read 4787326403894837248 = .number false (2 ^ 52) (-12) := by decide

/-- Lies a float64 between 0 and 2^40, both among them? -/
def inP (b : Nat) : Bool :=
  (FloatKind.f64.format.order b 0 == some .gt || FloatKind.f64.format.order b 0 == some .eq) && (FloatKind.f64.format.order b 4787326403894837248 == some .lt || FloatKind.f64.format.order b 4787326403894837248 == some .eq)

theorem le_of_compare {x y : Int} (h : (some (compare x y) == some Ordering.lt || some (compare x y) == some Ordering.eq) = true) : x ≤ y := by
  rcases Int.lt_trichotomy x y with h1 | h1 | h1
  · omega
  · omega
  · have : compare x y = .gt := by simp [Int.compare_eq_gt, h1]
    rw [this] at h; cases h
theorem ge_of_compare {x y : Int} (h : (some (compare x y) == some Ordering.gt || some (compare x y) == some Ordering.eq) = true) : y ≤ x := by
  rcases Int.lt_trichotomy x y with h1 | h1 | h1
  · have : compare x y = .lt := by simp [Int.compare_eq_lt, h1]
    rw [this] at h; cases h
  · omega
  · omega
theorem compare_le {x y : Int} (h : x ≤ y) : (some (compare x y) == some Ordering.lt || some (compare x y) == some Ordering.eq) = true := by
  rcases Int.lt_trichotomy x y with h1 | h1 | h1
  · have : compare x y = .lt := by simp [Int.compare_eq_lt, h1]
    rw [this]; rfl
  · have : compare x y = .eq := by simp [h1]
    rw [this]; rfl
  · omega
theorem compare_ge {x y : Int} (h : y ≤ x) : (some (compare x y) == some Ordering.gt || some (compare x y) == some Ordering.eq) = true := by
  rcases Int.lt_trichotomy x y with h1 | h1 | h1
  · omega
  · have : compare x y = .eq := by simp [h1]
    rw [this]; rfl
  · have : compare x y = .gt := by simp [Int.compare_eq_gt, h1]
    rw [this]; rfl

theorem pow_bound (m D : Nat) (h : m ≤ 2 ^ (40 + D)) : m / 2 ^ (min D (m.log2 + 2)) ≤ 2 ^ 40 := by
  by_cases hD : D ≤ m.log2 + 2
  · rw [Nat.min_eq_left hD]
    refine Nat.div_le_of_le_mul ?_
    rw [← Nat.pow_add, Nat.add_comm]; exact h
  · rw [Nat.min_eq_right (by omega)]
    have hm : m < 2 ^ (m.log2 + 2) := Nat.lt_trans (Nat.lt_log2_self) (Nat.pow_lt_pow_right (by omega) (by omega))
    rw [Nat.div_eq_of_lt hm]; omega

/-- What such a float64 is cut to lies between 0 and 2^40, too. -/
theorem toInt_in (b : Nat) (h : inP b = true) : ∃ n : Int, (FloatKind.f64.decode b).toInt .zero = some n ∧ 0 ≤ n ∧ n ≤ 1099511627776 := by
  have hd : FloatKind.f64.decode b = double.read b := rfl
  unfold inP at h
  rw [Bool.and_eq_true] at h
  obtain ⟨h1, h2⟩ := h
  have o1 : FloatKind.f64.format.order b 0 = (double.read b).order (.number false 0 (-1074)) := by rw [← read_nought]; rfl
  have o2 : FloatKind.f64.format.order b 4787326403894837248 = (double.read b).order (.number false (2 ^ 52) (-12)) := by rw [← read_great]; rfl
  rw [o1] at h1; rw [o2] at h2; rw [hd]
  clear o1 o2 hd
  generalize double.read b = d at *
  cases d with
  | nan s f => simp [Datum.order] at h1
  | infinity s => cases s <;> simp [Datum.order] at h1 h2
  | number s m e =>
    simp only [Datum.order] at h1 h2
    have g1 := ge_of_compare h1
    have g2 := le_of_compare h2
    clear h1 h2
    simp only [Datum.toInt, Datum.integral, cut_zero]
    cases s with
    | true =>
      rw [signed_true, signed_false] at g1
      have hm : m = 0 := by
        have hk := Nat.two_pow_pos (e - min e (-1074)).toNat
        by_cases hm : m = 0
        · exact hm
        · exfalso
          have : 0 < m * 2 ^ (e - min e (-1074)).toNat := Nat.mul_pos (by omega) hk
          simp only [Nat.zero_mul] at g1
          omega
      subst hm
      refine ⟨_, rfl, ?_, ?_⟩ <;> simp [signed]
    | false =>
      rw [signed_false, signed_false] at g2
      refine ⟨_, rfl, by rw [signed_false]; omega, ?_⟩
      rw [signed_false, Nat.pow_zero, Nat.mul_one, Nat.shiftLeft_eq]
      have key : m * 2 ^ e.toNat / 2 ^ (min (-e).toNat ((m * 2 ^ e.toNat).log2 + 2)) ≤ 2 ^ 40 := by
        by_cases he : 0 ≤ e
        · have e1 : (-e).toNat = 0 := by omega
          have e2 : min e (-12) = -12 := by omega
          rw [e2] at g2
          have e3 : (e - -12).toNat = e.toNat + 12 := by omega
          have e4 : ((-12 : Int) - -12).toNat = 0 := by omega
          rw [e3, e4] at g2
          have g3 : m * 2 ^ (e.toNat + 12) ≤ 2 ^ 52 * 2 ^ 0 := by exact_mod_cast g2
          rw [Nat.pow_add, ← Nat.mul_assoc] at g3
          rw [e1, Nat.zero_min, Nat.pow_zero, Nat.div_one]
          omega
        · have e1 : e.toNat = 0 := by omega
          rw [e1, Nat.pow_zero, Nat.mul_one]
          refine pow_bound m _ ?_
          obtain ⟨D, hD⟩ : ∃ D : Nat, e = -(D : Int) := ⟨(-e).toNat, by omega⟩
          have e2 : (-e).toNat = D := by omega
          rw [e2]
          by_cases hD12 : D ≤ 12
          · have e3 : min e (-12) = -12 := by omega
            rw [e3] at g2
            have e4 : (e - -12).toNat = 12 - D := by omega
            have e5 : ((-12 : Int) - -12).toNat = 0 := by omega
            rw [e4, e5] at g2
            have g3 : m * 2 ^ (12 - D) ≤ 2 ^ 52 * 2 ^ 0 := by exact_mod_cast g2
            have g4 : m * 2 ^ (12 - D) ≤ 2 ^ (40 + D) * 2 ^ (12 - D) := by
              rw [← Nat.pow_add, show 40 + D + (12 - D) = 52 from by omega]; simpa using g3
            exact Nat.le_of_mul_le_mul_right g4 (Nat.two_pow_pos _)
          · have e3 : min e (-12) = e := by omega
            rw [e3] at g2
            have e4 : (e - e).toNat = 0 := by omega
            have e5 : ((-12 : Int) - e).toNat = D - 12 := by omega
            rw [e4, e5] at g2
            have g3 : m * 2 ^ 0 ≤ 2 ^ 52 * 2 ^ (D - 12) := by exact_mod_cast g2
            rw [← Nat.pow_add, show 52 + (D - 12) = 40 + D from by omega] at g3
            simpa using g3
      have : ((m * 2 ^ e.toNat / 2 ^ (min (-e).toNat ((m * 2 ^ e.toNat).log2 + 2)) : Nat) : Int) ≤ ((2 ^ 40 : Nat) : Int) := by exact_mod_cast key
      exact this

/-- The number of a part. -/
def pN (b : Nat) : Int := if inP b = true then ((FloatKind.f64.decode b).toInt .zero).getD 0 else 0
/-- Is it a part? -/
def pOk (b : Nat) : Bool := inP b && (FloatKind.f64.format.order (floatOfInt .f64 (pN b)) b == some .eq)

theorem pN_in (b : Nat) : 0 ≤ pN b ∧ pN b ≤ 1099511627776 := by
  unfold pN
  by_cases h : inP b = true
  · rw [if_pos h]
    obtain ⟨n, h1, h2, h3⟩ := toInt_in b h
    rw [h1]; exact ⟨h2, h3⟩
  · rw [if_neg h]; omega

theorem cut_to (b : Nat) (h : inP b = true) : floatToIntVal .f64 b .i64 = some (pN b) := by
  obtain ⟨n, h1, h2, h3⟩ := toInt_in b h
  unfold floatToIntVal pN
  rw [if_pos h, h1]
  simp only [Option.getD_some]
  rw [if_pos]
  constructor
  · have : IntKind.i64.min = -9223372036854775808 := by decide
    omega
  · have : IntKind.i64.max = 9223372036854775807 := by decide
    omega

theorem order_whole (n : Int) (h0 : 0 ≤ n) (h : n ≤ 1099511627776) : FloatKind.f64.format.order (floatOfInt .f64 n) (floatOfInt .f64 n) = some .eq := by
  obtain ⟨k, rfl⟩ := Int.eq_ofNat_of_zero_le h0
  obtain ⟨m, e, hm⟩ := nat_whole k (by omega)
  show Datum.order (double.read _) (double.read _) = _
  rw [hm, order_self]

theorem inP_whole (n : Int) (h0 : 0 ≤ n) (h : n ≤ 1099511627776) : inP (floatOfInt .f64 n) = true := by
  obtain ⟨k, rfl⟩ := Int.eq_ofNat_of_zero_le h0
  have o1 : FloatKind.f64.format.order (floatOfInt .f64 (k : Int)) 0 = (double.read (floatOfInt .f64 (k : Int))).order (.number false 0 (-1074)) := by rw [← read_nought]; rfl
  have o2 : FloatKind.f64.format.order (floatOfInt .f64 (k : Int)) 4787326403894837248 = (double.read (floatOfInt .f64 (k : Int))).order (.number false (2 ^ 52) (-12)) := by rw [← read_great]; rfl
  unfold inP
  rw [o1, o2, Bool.and_eq_true]
  by_cases hk : k = 0
  · subst hk
    have : double.read (floatOfInt .f64 ((0 : Nat) : Int)) = .number false 0 (-1074) := read_zero
    rw [this]; decide
  · have hL : k.log2 ≤ 40 := by
      by_cases hc : k.log2 ≤ 40
      · exact hc
      · exfalso
        have h41 : 2 ^ 41 ≤ 2 ^ k.log2 := Nat.pow_le_pow_right (by omega) (by omega)
        have := (log2_spec k hk).1
        omega
    rw [read_whole k hk (by omega)]
    simp only [Datum.order, signed_false]
    refine ⟨compare_ge (by simp only [Nat.zero_mul]; omega), compare_le ?_⟩
    have e1 : min ((k.log2 : Int) - 52) (-12) = (k.log2 : Int) - 52 := by omega
    rw [e1]
    have e2 : ((k.log2 : Int) - 52 - ((k.log2 : Int) - 52)).toNat = 0 := by omega
    have e3 : ((-12 : Int) - ((k.log2 : Int) - 52)).toNat = 40 - k.log2 := by omega
    rw [e2, e3]
    have : k * 2 ^ (52 - k.log2) * 2 ^ 0 ≤ 2 ^ 52 * 2 ^ (40 - k.log2) := by
      rw [Nat.pow_zero, Nat.mul_one, ← Nat.pow_add, show 52 + (40 - k.log2) = 40 + (52 - k.log2) from by omega, Nat.pow_add]
      exact Nat.mul_le_mul_right _ (by omega)
    exact_mod_cast this

theorem toInt_whole (n : Int) (h0 : 0 ≤ n) (h : n ≤ 1099511627776) : (FloatKind.f64.decode (floatOfInt .f64 n)).toInt .zero = some n := by
  obtain ⟨k, rfl⟩ := Int.eq_ofNat_of_zero_le h0
  have hd : FloatKind.f64.decode (floatOfInt .f64 (k : Int)) = double.read (floatOfInt .f64 (k : Int)) := rfl
  rw [hd]
  by_cases hk : k = 0
  · subst hk
    have : double.read (floatOfInt .f64 ((0 : Nat) : Int)) = .number false 0 (-1074) := read_zero
    rw [this]; decide
  · have hL : k.log2 ≤ 40 := by
      by_cases hc : k.log2 ≤ 40
      · exact hc
      · exfalso
        have h41 : 2 ^ 41 ≤ 2 ^ k.log2 := Nat.pow_le_pow_right (by omega) (by omega)
        have := (log2_spec k hk).1
        omega
    rw [read_whole k hk (by omega)]
    simp only [Datum.toInt, Datum.integral, cut_zero]
    have e1 : ((k.log2 : Int) - 52).toNat = 0 := by omega
    have e2 : (-((k.log2 : Int) - 52)).toNat = 52 - k.log2 := by omega
    rw [e1, e2, Nat.shiftLeft_zero]
    have hm : 2 ^ (52 - k.log2) ≤ k * 2 ^ (52 - k.log2) := Nat.le_mul_of_pos_left _ (by omega)
    have hlog : 52 - k.log2 ≤ (k * 2 ^ (52 - k.log2)).log2 := (Nat.le_log2 (by have := Nat.two_pow_pos (52 - k.log2); omega)).2 hm
    rw [Nat.min_eq_left (by omega), Nat.mul_div_cancel _ (Nat.two_pow_pos _), signed_false]
    simp

theorem pN_whole (n : Int) (h0 : 0 ≤ n) (h : n ≤ 1099511627776) : pN (floatOfInt .f64 n) = n := by
  unfold pN
  rw [if_pos (inP_whole n h0 h), toInt_whole n h0 h]; rfl
theorem pOk_whole (n : Int) (h0 : 0 ≤ n) (h : n ≤ 1099511627776) : pOk (floatOfInt .f64 n) = true := by
  unfold pOk
  rw [inP_whole n h0 h, pN_whole n h0 h, order_whole n h0 h]; rfl

/-- The numbers of a charge; is it one? -/
def cOk (a b : Nat) : Bool := pOk a && pOk b
def cX (a b : Nat) : Int := if cOk a b = true then pN a else 0
def cY (a b : Nat) : Int := if cOk a b = true then pN b else 0
theorem cX_in (a b : Nat) : 0 ≤ cX a b ∧ cX a b ≤ 1099511627776 := by
  unfold cX; split
  · exact pN_in a
  · omega
theorem cY_in (a b : Nat) : 0 ≤ cY a b ∧ cY a b ≤ 1099511627776 := by
  unfold cY; split
  · exact pN_in b
  · omega
theorem c_whole (x y : Int) (hx0 : 0 ≤ x) (hx : x ≤ 1099511627776) (hy0 : 0 ≤ y) (hy : y ≤ 1099511627776) :
    cOk (floatOfInt .f64 x) (floatOfInt .f64 y) = true ∧ cX (floatOfInt .f64 x) (floatOfInt .f64 y) = x ∧ cY (floatOfInt .f64 x) (floatOfInt .f64 y) = y := by
  have h : cOk (floatOfInt .f64 x) (floatOfInt .f64 y) = true := by unfold cOk; rw [pOk_whole x hx0 hx, pOk_whole y hy0 hy]; rfl
  refine ⟨h, ?_, ?_⟩
  · unfold cX; rw [if_pos h, pN_whole x hx0 hx]
  · unfold cY; rw [if_pos h, pN_whole y hy0 hy]
theorem foi_nought : floatOfInt .f64 0 = 0 := by decide
theorem foi_great : floatOfInt .f64 1099511627776 = 4787326403894837248 := by decide

end Go.Proofs.Ytgfjagbcdjmgkaa
