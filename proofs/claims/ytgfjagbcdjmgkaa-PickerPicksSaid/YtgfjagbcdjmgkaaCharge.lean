/- Contracts of package charge's functions: what each call answers, in whatever memory. -/
import Derived.Test.YtgfjagbcdjmgkaaProg
import Derived.Test.YtgfjagbcdjmgkaaIeee
import Derived.WalkKit
import Derived.WalkLawsBesides
import Derived.Lib.Hide
import Derived.IntWalk
import Derived.KernelRfl
import Derived.Outline
namespace Go.Proofs.Ytgfjagbcdjmgkaa
open Go.RowKit

theorem ret_bool {a b : Bool} (h : a = b) : Ending.returned (.bool a) = .returned (.bool b) := by rw [h]
theorem ret_ch {x y x' y' : Int} (h : x = x') (h' : y = y') : Ending.returned (.complex .f64 (floatOfInt .f64 x) (floatOfInt .f64 y)) = .returned (.complex .f64 (floatOfInt .f64 x') (floatOfInt .f64 y')) := by rw [h, h']
theorem ret_int {k : IntKind} {a b : Int} (h : a = b) : Ending.returned (.int k a) = .returned (.int k b) := by rw [h]

theorem part_out (b : Nat) (w : World) (h : inP b = false) :
    Calls Try.prog 58 #[.float .f64 b] w fun e w' => e = .returned (.tuple #[.int .i64 0, .bool false]) ∧ w = w' := by
  unfold inP at h
  by_cases h1 : (FloatKind.f64.format.order b 0 == some .gt || FloatKind.f64.format.order b 0 == some .eq) = true
  · have h2 : (FloatKind.f64.format.order b 4787326403894837248 == some .lt || FloatKind.f64.format.order b 4787326403894837248 == some .eq) = false := by
      rw [h1, Bool.true_and] at h; exact h
    clear h
    go_enter Try.func58, Try.ntmps58
    go_wp2
    go_ret2
    exact ⟨rfl, rfl⟩
  · have h2 : (FloatKind.f64.format.order b 0 == some .gt || FloatKind.f64.format.order b 0 == some .eq) = false := by simpa using h1
    clear h h1
    go_enter Try.func58, Try.ntmps58
    go_wp2
    go_ret2
    exact ⟨rfl, rfl⟩

theorem part_in (b : Nat) (w : World) (h : inP b = true) :
    Calls Try.prog 58 #[.float .f64 b] w fun e w' => e = .returned (.tuple #[.int .i64 (pN b), .bool (FloatKind.f64.format.order (floatOfInt .f64 (pN b)) b == some .eq)]) ∧ w = w' := by
  have hc := fun (W : World) => run_convert_float_int (P := Try.prog) W 82 3 .f64 .i64 b (pN b) (by rw [Try.underlying82]; rfl) Try.underlying3 (cut_to b h)
  unfold inP at h
  rw [Bool.and_eq_true] at h
  obtain ⟨h1, h2⟩ := h
  go_enter Try.func58, Try.ntmps58
  go_wp2
  go_ret2
  exact ⟨rfl, rfl⟩

theorem part_any (b : Nat) (w : World) :
    Calls Try.prog 58 #[.float .f64 b] w fun e w' => e = .returned (.tuple #[.int .i64 (pN b), .bool (pOk b)]) ∧ w = w' := by
  by_cases h : inP b = true
  · have e : pOk b = (FloatKind.f64.format.order (floatOfInt .f64 (pN b)) b == some .eq) := by unfold pOk; rw [h, Bool.true_and]
    rw [e]; exact part_in b w h
  · have h' : inP b = false := by simpa using h
    have e : pOk b = false := by unfold pOk; rw [h', Bool.false_and]
    have e2 : pN b = 0 := by unfold pN; rw [if_neg h]
    rw [e, e2]; exact part_out b w h'

theorem parts_any (a b : Nat) (w : World) :
    Calls Try.prog 39 #[.complex .f64 a b] w fun e w' => e = .returned (.tuple #[.int .i64 (cX a b), .int .i64 (cY a b), .bool (cOk a b)]) ∧ w = w' := by
  cases h1 : pOk a
  · have e1 : cOk a b = false := by unfold cOk; rw [h1]; rfl
    have e2 : cX a b = 0 := by unfold cX; rw [if_neg (by rw [e1]; simp)]
    have e3 : cY a b = 0 := by unfold cY; rw [if_neg (by rw [e1]; simp)]
    rw [e1, e2, e3]; clear e1 e2 e3
    go_enter Try.func39, Try.ntmps39
    go_wp2_with (go_at_call 58; refine (part_any _ _).mono ?_; rintro e w' ⟨rfl, rfl⟩)
    go_ret3
    exact ⟨rfl, rfl⟩
  · cases h2 : pOk b
    · have e1 : cOk a b = false := by unfold cOk; rw [h1, h2]; rfl
      have e2 : cX a b = 0 := by unfold cX; rw [if_neg (by rw [e1]; simp)]
      have e3 : cY a b = 0 := by unfold cY; rw [if_neg (by rw [e1]; simp)]
      rw [e1, e2, e3]; clear e1 e2 e3
      go_enter Try.func39, Try.ntmps39
      go_wp2_with (go_at_call 58; refine (part_any _ _).mono ?_; rintro e w' ⟨rfl, rfl⟩)
      go_ret3
      exact ⟨rfl, rfl⟩
    · have e1 : cOk a b = true := by unfold cOk; rw [h1, h2]; rfl
      have e2 : cX a b = pN a := by unfold cX; rw [if_pos e1]
      have e3 : cY a b = pN b := by unfold cY; rw [if_pos e1]
      rw [e1, e2, e3]; clear e1 e2 e3
      go_enter Try.func39, Try.ntmps39
      go_wp2_with (go_at_call 58; refine (part_any _ _).mono ?_; rintro e w' ⟨rfl, rfl⟩)
      go_ret3
      exact ⟨rfl, rfl⟩

/-- The charge of two numbers, as a value. -/
def ch (x y : Int) : Value := .complex .f64 (floatOfInt .f64 x) (floatOfInt .f64 y)

theorem made_any (x y : Int) (w : World) :
    Calls Try.prog 56 #[.int .i64 x, .int .i64 y] w fun e w' => e = .returned (.complex .f64 (floatOfInt .f64 x) (floatOfInt .f64 y)) ∧ w = w' := by
  go_enter Try.func56, Try.ntmps56
  go_wp2
  go_ret
  exact ⟨rfl, rfl⟩

theorem of_yes (x y : Int) (w : World) (hx0 : 0 ≤ x) (hx : x ≤ 1099511627776) (hy0 : 0 ≤ y) (hy : y ≤ 1099511627776) :
    Calls Try.prog 34 #[.int .i64 x, .int .i64 y] w fun e w' => e = .returned (.tuple #[.complex .f64 (floatOfInt .f64 x) (floatOfInt .f64 y), .bool true]) ∧ w = w' := by
  go_enter Try.func34, Try.ntmps34
  go_wp2_with (go_at_call 56; refine (made_any _ _ _).mono ?_; rintro e w' ⟨rfl, rfl⟩)
  all_goals (go_ret2; exact ⟨rfl, rfl⟩)

theorem of_no (x y : Int) (w : World) (h : x < 0 ∨ y < 0 ∨ 1099511627776 < x ∨ 1099511627776 < y) :
    Calls Try.prog 34 #[.int .i64 x, .int .i64 y] w fun e w' => e = .returned (.tuple #[.complex .f64 0 0, .bool false]) ∧ w = w' := by
  rcases Int.lt_trichotomy x y with h1 | rfl | h1
  · by_cases h2 : x < 0
    all_goals
      go_enter Try.func34, Try.ntmps34
      go_wp2_with (go_at_call 56; exfalso; omega)
      go_ret2
      exact ⟨rfl, rfl⟩
  · by_cases h2 : x < 0
    all_goals
      go_enter Try.func34, Try.ntmps34
      go_wp2_with (go_at_call 56; exfalso; omega)
      go_ret2
      exact ⟨rfl, rfl⟩
  · by_cases h2 : y < 0
    all_goals
      go_enter Try.func34, Try.ntmps34
      go_wp2_with (go_at_call 56; exfalso; omega)
      go_ret2
      exact ⟨rfl, rfl⟩

/-- Is there room? -/
def fitB (a b c d : Nat) : Bool := cOk a b && cOk c d && decide (cX a b ≤ cX c d) && decide (cY a b ≤ cY c d)

theorem fits_any (a b c d : Nat) (w : World) :
    Calls Try.prog 36 #[.complex .f64 a b, .complex .f64 c d] w fun e w' => e = .returned (.bool (fitB a b c d)) ∧ w = w' := by
  unfold fitB
  cases h1 : cOk a b
  · go_enter Try.func36, Try.ntmps36
    go_wp2_with (go_at_call 39; refine (parts_any _ _ _).mono ?_; rintro e w' ⟨rfl, rfl⟩)
    go_ret
    exact ⟨rfl, rfl⟩
  · cases h2 : cOk c d
    · go_enter Try.func36, Try.ntmps36
      go_wp2_with (go_at_call 39; refine (parts_any _ _ _).mono ?_; rintro e w' ⟨rfl, rfl⟩)
      go_ret
      exact ⟨rfl, rfl⟩
    · by_cases h3 : cX a b ≤ cX c d
      · go_enter Try.func36, Try.ntmps36
        go_wp2_with (go_at_call 39; refine (parts_any _ _ _).mono ?_; rintro e w' ⟨rfl, rfl⟩)
        all_goals go_ret
        all_goals exact ⟨ret_bool (by simp; omega), rfl⟩
      · go_enter Try.func36, Try.ntmps36
        go_wp2_with (go_at_call 39; refine (parts_any _ _ _).mono ?_; rintro e w' ⟨rfl, rfl⟩)
        all_goals go_ret
        all_goals exact ⟨ret_bool (by simp; omega), rfl⟩

/-- What is left of a part. -/
def less (x u : Int) : Int := if x - u < 0 then 0 else x - u
theorem less_in {x u : Int} (hx0 : 0 ≤ x) (hx : x ≤ 1099511627776) (hu : 0 ≤ u) : 0 ≤ less x u ∧ less x u ≤ 1099511627776 := by
  unfold less; split <;> omega

theorem less_any (a b c d : Nat) (w : World) :
    Calls Try.prog 37 #[.complex .f64 a b, .complex .f64 c d] w fun e w' => e = .returned (.complex .f64 (floatOfInt .f64 (less (cX a b) (cX c d))) (floatOfInt .f64 (less (cY a b) (cY c d)))) ∧ w = w' := by
  have h1 := cX_in a b
  have h2 := cX_in c d
  have h3 := cY_in a b
  have h4 := cY_in c d
  go_enter Try.func37, Try.ntmps37
  go_wp2_with (first | (go_at_call 39; refine (parts_any _ _ _).mono ?_; rintro e w' ⟨rfl, rfl⟩) | (go_at_call 56; refine (made_any _ _ _).mono ?_; rintro e w' ⟨rfl, rfl⟩))
  all_goals go_ret
  all_goals exact ⟨ret_ch (by unfold less; split <;> omega) (by unfold less; split <;> omega), rfl⟩

/-- So many of a part. -/
def tim (x n : Int) : Int := if x = 0 ∨ n ≤ 0 then 0 else if n > 1099511627776 / x then 1099511627776 else x * n

theorem tim_fits {x n : Int} (hx0 : 0 < x) (_hn : 0 < n) (h : n ≤ 1099511627776 / x) : x * n ≤ 1099511627776 := by
  have h1 : x * n ≤ x * (1099511627776 / x) := Int.mul_le_mul_of_nonneg_left h (by omega)
  have h2 : x * (1099511627776 / x) ≤ 1099511627776 := Int.mul_ediv_self_le (by omega)
  omega
theorem tim_in {x n : Int} (hx0 : 0 ≤ x) : 0 ≤ tim x n ∧ tim x n ≤ 1099511627776 := by
  unfold tim
  split
  · omega
  · split
    · omega
    · rename_i h1 h2
      have hx : 0 < x := by omega
      have hn : 0 < n := by omega
      exact ⟨Int.mul_nonneg hx0 (by omega), tim_fits hx hn (by omega)⟩

theorem times_any (x n : Int) (w : World) (hx0 : 0 ≤ x) (hx : x ≤ 1099511627776) (hn0 : -9223372036854775808 ≤ n) (hn : n ≤ 9223372036854775807) :
    Calls Try.prog 57 #[.int .i64 x, .int .i64 n] w fun e w' => e = .returned (.int .i64 (tim x n)) ∧ w = w' := by
  by_cases h1 : x = 0
  · subst h1
    go_enter Try.func57, Try.ntmps57
    go_wp2
    go_ret
    exact ⟨ret_int (by simp [tim]), rfl⟩
  · by_cases h2 : n ≤ 0
    · have h1' : (x == 0) = false := beq_eq_false_iff_ne.2 h1
      have e : tim x n = 0 := by unfold tim; rw [if_pos (Or.inr h2)]
      rw [e]; clear e
      go_enter Try.func57, Try.ntmps57
      go_wp2
      go_ret
      exact ⟨rfl, rfl⟩
    · have h1' : (x == 0) = false := beq_eq_false_iff_ne.2 h1
      by_cases h3 : 1099511627776 / x < n
      · have e : tim x n = 1099511627776 := by unfold tim; rw [if_neg (by omega), if_pos h3]
        rw [e]; clear e
        go_enter Try.func57, Try.ntmps57
        go_wp2
        all_goals (go_ret; exact ⟨rfl, rfl⟩)
      · have e : tim x n = x * n := by unfold tim; rw [if_neg (by omega), if_neg h3]
        have hm : 0 ≤ x * n := Int.mul_nonneg hx0 (by omega)
        have hm' : x * n ≤ 1099511627776 := tim_fits (by omega) (by omega) (by omega)
        rw [e]; clear e
        go_enter Try.func57, Try.ntmps57
        go_wp2
        all_goals (go_ret; exact ⟨rfl, rfl⟩)

theorem Times_any (a b : Nat) (n : Int) (w : World) (hn0 : -9223372036854775808 ≤ n) (hn : n ≤ 9223372036854775807) :
    Calls Try.prog 38 #[.complex .f64 a b, .int .i64 n] w fun e w' => e = .returned (.complex .f64 (floatOfInt .f64 (tim (cX a b) n)) (floatOfInt .f64 (tim (cY a b) n))) ∧ w = w' := by
  have h1 := cX_in a b
  have h2 := cY_in a b
  go_enter Try.func38, Try.ntmps38
  go_wp2_with (first | (go_at_call 39; refine (parts_any _ _ _).mono ?_; rintro e w' ⟨rfl, rfl⟩) | (go_at_call 57; refine (times_any _ _ _ (by omega) (by omega) hn0 hn).mono ?_; rintro e w' ⟨rfl, rfl⟩) | (go_at_call 56; refine (made_any _ _ _).mono ?_; rintro e w' ⟨rfl, rfl⟩))
  go_ret
  exact ⟨rfl, rfl⟩

/-- Two parts together, cut. -/
def plus (x u : Int) : Int := if 1099511627776 < x + u then 1099511627776 else x + u
theorem plus_in {x u : Int} (hx : 0 ≤ x) (hu : 0 ≤ u) : 0 ≤ plus x u ∧ plus x u ≤ 1099511627776 := by
  unfold plus; split <;> omega

/-- The sum of the parts of charges. -/
def sumX (l : List (Nat × Nat)) : Int := l.foldl (fun a p => plus a (cX p.1 p.2)) 0
def sumY (l : List (Nat × Nat)) : Int := l.foldl (fun a p => plus a (cY p.1 p.2)) 0
theorem sumX_in (l : List (Nat × Nat)) : 0 ≤ sumX l ∧ sumX l ≤ 1099511627776 := by
  have key : ∀ (l : List (Nat × Nat)) (a : Int), 0 ≤ a ∧ a ≤ 1099511627776 → 0 ≤ l.foldl (fun a p => plus a (cX p.1 p.2)) a ∧ l.foldl (fun a p => plus a (cX p.1 p.2)) a ≤ 1099511627776 := by
    intro l
    induction l with
    | nil => intro a h; exact h
    | cons p l ih => intro a h; exact ih _ (plus_in h.1 (cX_in p.1 p.2).1)
  exact key l 0 (by omega)
theorem sumY_in (l : List (Nat × Nat)) : 0 ≤ sumY l ∧ sumY l ≤ 1099511627776 := by
  have key : ∀ (l : List (Nat × Nat)) (a : Int), 0 ≤ a ∧ a ≤ 1099511627776 → 0 ≤ l.foldl (fun a p => plus a (cY p.1 p.2)) a ∧ l.foldl (fun a p => plus a (cY p.1 p.2)) a ≤ 1099511627776 := by
    intro l
    induction l with
    | nil => intro a h; exact h
    | cons p l ih => intro a h; exact ih _ (plus_in h.1 (cY_in p.1 p.2).1)
  exact key l 0 (by omega)
theorem sumX_snoc (l : List (Nat × Nat)) (p : Nat × Nat) : sumX (l ++ [p]) = plus (sumX l) (cX p.1 p.2) := by simp [sumX]
theorem sumY_snoc (l : List (Nat × Nat)) (p : Nat × Nat) : sumY (l ++ [p]) = plus (sumY l) (cY p.1 p.2) := by simp [sumY]

theorem sum_any (b off c : Nat) (l : List (Nat × Nat)) (w : World) (hl : l.length ≤ 9223372036854775807)
    (hc : ∀ k (h : k < l.length), w.cell? ⟨b, off + k, none⟩ = some (.complex .f64 l[k].1 l[k].2)) :
    Calls Try.prog 35 #[.slice (some ⟨b, off, none⟩) l.length c] w fun e w' => e = .returned (.complex .f64 (floatOfInt .f64 (sumX l)) (floatOfInt .f64 (sumY l))) ∧ w = w' := by
  have HC := Lib.hid hc; clear hc
  go_enter Try.func35, Try.ntmps35
  go_wp2
  go_loop [3, 4, 12] (fun x y i => ∃ k : Nat, k ≤ l.length ∧ i = .int .i64 k ∧ x = .int .i64 (sumX (l.take k)) ∧ y = .int .i64 (sumY (l.take k))) (fun _ _ i => l.length - (intOf i).toNat)
  case atStart => exact ⟨0, Nat.zero_le _, rfl, rfl, rfl⟩
  case round =>
    obtain ⟨k, hk, rfl, rfl, rfl⟩ := hrel
    have hsx := sumX_in (l.take k)
    have hsy := sumY_in (l.take k)
    by_cases hlt : k < l.length
    · have hcell := HC.out k hlt
      have ht : l.take (k + 1) = l.take k ++ [l[k]] := by rw [List.take_succ_eq_append_getElem hlt]
      have HX : Hid (sumX (l.take (k + 1)) = plus (sumX (l.take k)) (cX l[k].1 l[k].2)) := by rw [ht]; exact sumX_snoc _ _
      have HY : Hid (sumY (l.take (k + 1)) = plus (sumY (l.take k)) (cY l[k].1 l[k].2)) := by rw [ht]; exact sumY_snoc _ _
      clear ht
      have hx := cX_in l[k].1 l[k].2
      have hy := cY_in l[k].1 l[k].2
      go_wp2_with (go_at_call 39; refine (parts_any _ _ _).mono ?_; rintro e w' ⟨rfl, rfl⟩)
      all_goals
        go_round
        case rel => exact ⟨k + 1, by omega, by go_num, by rw [HX.out]; unfold plus; split <;> go_num, by rw [HY.out]; unfold plus; split <;> go_num⟩
        case measure => simp [intOf]; omega
    · have e : l.take k = l := List.take_of_length_le (by omega)
      go_wp2_with (go_at_call 56; refine (made_any _ _ _).mono ?_; rintro e w' ⟨rfl, rfl⟩)
      go_ret
      exact ⟨rfl, rfl⟩

theorem plus_nought {x : Int} (hx : x ≤ 1099511627776) : plus 0 x = x := by unfold plus; rw [if_neg (by omega)]; omega

theorem sum_one (b c p q : Nat) (w : World) (h0 : w.cell? ⟨b, 0, none⟩ = some (.complex .f64 p q)) :
    Calls Try.prog 35 #[.slice (some ⟨b, 0, none⟩) 1 c] w fun e w' => e = .returned (.complex .f64 (floatOfInt .f64 (cX p q)) (floatOfInt .f64 (cY p q))) ∧ w = w' := by
  have h := sum_any b 0 c [(p, q)] w (by simp) (by
    intro k hk
    have hk' : k < 1 := hk
    match k, hk' with
    | 0, _ => exact h0)
  have e1 : sumX [(p, q)] = cX p q := plus_nought (cX_in p q).2
  have e2 : sumY [(p, q)] = cY p q := plus_nought (cY_in p q).2
  rw [e1, e2] at h
  exact h

theorem sum_two (b c p q r s : Nat) (w : World) (h0 : w.cell? ⟨b, 0, none⟩ = some (.complex .f64 p q)) (h1 : w.cell? ⟨b, 1, none⟩ = some (.complex .f64 r s)) :
    Calls Try.prog 35 #[.slice (some ⟨b, 0, none⟩) 2 c] w fun e w' => e = .returned (.complex .f64 (floatOfInt .f64 (plus (cX p q) (cX r s))) (floatOfInt .f64 (plus (cY p q) (cY r s)))) ∧ w = w' := by
  have h := sum_any b 0 c [(p, q), (r, s)] w (by simp) (by
    intro k hk
    have hk' : k < 2 := hk
    match k, hk' with
    | 0, _ => exact h0
    | 1, _ => exact h1)
  have e1 : sumX [(p, q), (r, s)] = plus (cX p q) (cX r s) := by
    show plus (plus 0 (cX p q)) (cX r s) = _
    rw [plus_nought (cX_in p q).2]
  have e2 : sumY [(p, q), (r, s)] = plus (cY p q) (cY r s) := by
    show plus (plus 0 (cY p q)) (cY r s) = _
    rw [plus_nought (cY_in p q).2]
  rw [e1, e2] at h
  exact h

end Go.Proofs.Ytgfjagbcdjmgkaa
