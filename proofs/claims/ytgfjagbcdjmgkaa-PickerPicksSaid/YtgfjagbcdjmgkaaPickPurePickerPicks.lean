/- What sizes, total, alike and Pick reckon, in plain numbers. -/
import Derived.Test.YtgfjagbcdjmgkaaQPickerPicksx2
namespace Go.Proofs.Ytgfjagbcdjmgkaa.PPickerPicks
open Go.RowKit Go.Proofs.YtgfjagbcdjmgkaaW.PrintWords Go.Proofs.YtgfjagbcdjmgkaaW.PrintLast Go.Proofs.YtgfjagbcdjmgkaaW.PrintMore
set_option linter.unusedVariables false
set_option linter.unusedSimpArgs false

/-- How much a run counts. -/
def sz (b : Int) : Int := mn (mx 1 b) 16777216
theorem sz_in (b : Int) : 1 ≤ sz b ∧ sz b ≤ 16777216 := by unfold sz mn mx; split <;> split <;> omega
def szs (l : List S51) : List Int := l.map fun r => sz r.f1
theorem szs_length (l : List S51) : (szs l).length = l.length := by simp [szs]
def Small (xs : List Int) : Prop := ∀ x ∈ xs, 1 ≤ x ∧ x ≤ 16777216
theorem szs_small (l : List S51) : Small (szs l) := by
  intro x hx
  obtain ⟨r, _, rfl⟩ := List.mem_map.1 hx
  exact sz_in _
theorem Small.drop {xs : List Int} (h : Small xs) (n : Nat) : Small (xs.drop n) := fun x hx => h x (List.mem_of_mem_drop hx)
theorem Small.take {xs : List Int} (h : Small xs) (n : Nat) : Small (xs.take n) := fun x hx => h x (List.mem_of_mem_take hx)
theorem Small.tail {x : Int} {xs : List Int} (h : Small (x :: xs)) : Small xs := fun y hy => h y (List.mem_cons_of_mem _ hy)
theorem Small.head {x : Int} {xs : List Int} (h : Small (x :: xs)) : 1 ≤ x ∧ x ≤ 16777216 := h x (List.mem_cons_self ..)
theorem Small.sum {xs : List Int} (h : Small xs) : 0 ≤ xs.sum ∧ xs.sum ≤ 16777216 * xs.length := by
  induction xs with
  | nil => simp
  | cons x r ih =>
    have := ih h.tail
    have := h.head
    simp only [List.sum_cons, List.length_cons, Int.natCast_add, Int.natCast_one]
    omega
theorem getD_at {α : Type} {xs : List α} {n : Nat} (h : n < xs.length) (d : α) : xs.getD n d = xs[n] := by simp [List.getD, h]
theorem wi (n : Int) (h : -9223372036854775808 ≤ n ∧ n ≤ 9223372036854775807) : wrap64 n = n := by unfold wrap64; omega
theorem rd_at {xs : List Int} {n : Nat} (h : n < xs.length) : rd xs (n : Int) = xs[n] := by
  unfold rd; rw [Int.toNat_natCast]; exact getD_at h 0
theorem rdT_at {xs : List S51} {n : Nat} (h : n < xs.length) : rd_T51 xs (n : Int) = xs[n] := by
  unfold rd_T51; rw [Int.toNat_natCast]; exact getD_at h z51
theorem w_succ {i : Nat} (h : i < 9223372036854775807) : wrap64 ((i : Int) + 1) = ((i + 1 : Nat) : Int) := by
  rw [wi _ (by omega)]; omega

theorem sizes_l0 (l : List S51) (hl : l.length < 17592186044416) : ∀ (j k : Nat) (x3 : List Int) (i : Nat), i + j = l.length → j < k → x3.length = i →
    picker_sizes.l0 k x3 l (l.length : Int) (i : Int) = some (x3 ++ szs (l.drop i)) := by
  intro j
  induction j with
  | zero =>
    intro k x3 i hij hk hx
    obtain ⟨k, rfl⟩ : ∃ k', k = k' + 1 := ⟨k - 1, by omega⟩
    rw [picker_sizes.l0, if_neg (by omega), List.drop_eq_nil_of_le (by omega)]
    simp [szs]
  | succ j ih =>
    intro k x3 i hij hk hx
    obtain ⟨k, rfl⟩ : ∃ k', k = k' + 1 := ⟨k - 1, by omega⟩
    have hi : i < l.length := by omega
    rw [picker_sizes.l0, if_pos (by omega), if_pos (by omega), if_pos (by omega), if_pos (by omega), w_succ (by omega), ih k _ (i + 1) (by omega) (by omega) (by simp [hx]), rdT_at hi, List.drop_eq_getElem_cons hi, List.append_assoc]
    rfl
theorem sizes_f (l : List S51) (hl : l.length < 17592186044416) (k : Nat) (hk : l.length < k) : picker_sizes.f k l = some (szs l) := by
  have h := sizes_l0 l hl l.length k [] 0 (by omega) hk rfl
  rw [List.drop_zero, List.nil_append] at h
  exact h

theorem total_l0 (xs : List Int) (hx : Small xs) (hl : xs.length ≤ 1000) : ∀ (j k : Nat) (acc : Int) (i : Nat), i + j = xs.length → j < k → 0 ≤ acc → acc ≤ 16777216 * i →
    picker_total.l0 k acc xs (xs.length : Int) (i : Int) = some (acc + (xs.drop i).sum) := by
  intro j
  induction j with
  | zero =>
    intro k acc i hij hk h0 h1
    obtain ⟨k, rfl⟩ : ∃ k', k = k' + 1 := ⟨k - 1, by omega⟩
    rw [picker_total.l0, if_neg (by omega), List.drop_eq_nil_of_le (by omega)]
    simp
  | succ j ih =>
    intro k acc i hij hk h0 h1
    obtain ⟨k, rfl⟩ : ∃ k', k = k' + 1 := ⟨k - 1, by omega⟩
    have hi : i < xs.length := by omega
    have hb := hx xs[i] (List.getElem_mem hi)
    rw [picker_total.l0, if_pos (by omega), if_pos (by omega), if_pos (by omega), w_succ (by omega), rd_at hi, wi _ (by omega), ih k _ (i + 1) (by omega) (by omega) (by omega) (by omega), List.drop_eq_getElem_cons hi, List.sum_cons, Int.add_assoc]
theorem total_f (xs : List Int) (hx : Small xs) (hl : xs.length ≤ 1000) (k : Nat) (hk : xs.length < k) : picker_total.f k xs = some xs.sum := by
  have h := total_l0 xs hx hl xs.length k 0 0 (by omega) hk (by omega) (by omega)
  rw [List.drop_zero, Int.zero_add] at h
  exact h

/-- How many runs from one on are alike: what is left of the list, the count so far, the sum so far. -/
def al (ratio : Int) : List Int → Int → Int → Int
  | [], n, _ => n
  | x :: r, n, s => if 100 * x ≤ (100 + ratio) * s then al ratio r (n + 1) (s + x) else n
theorem al_in (ratio : Int) : ∀ (xs : List Int) (n s : Int), n ≤ al ratio xs n s ∧ al ratio xs n s ≤ n + xs.length
  | [], n, s => by simp [al]
  | x :: r, n, s => by
    have := al_in ratio r (n + 1) (s + x)
    simp only [al, List.length_cons, Int.natCast_add, Int.natCast_one]
    split <;> omega
theorem mul_in {r s : Int} (h0 : 0 ≤ r) (h1 : r ≤ 1000) (h2 : 0 ≤ s) (h3 : s ≤ 16777216000) : 0 ≤ (100 + r) * s ∧ (100 + r) * s ≤ 18454937600000 := by
  have h4 : (100 + r) * s ≤ 1100 * s := Int.mul_le_mul_of_nonneg_right (by omega) h2
  exact ⟨Int.mul_nonneg (by omega) h2, by omega⟩
theorem alike_l0 (xs : List Int) (hx : Small xs) (hl : xs.length ≤ 1000) (ratio : Int) (hr0 : 0 ≤ ratio) (hr : ratio ≤ 1000) : ∀ (j k : Nat) (s : Int) (i : Nat), i + j = xs.length → j < k → 0 ≤ s → s ≤ 16777216 * i →
    picker_alike.l0 k xs ratio (i : Int) s = some (al ratio (xs.drop i) (i : Int) s) := by
  intro j
  induction j with
  | zero =>
    intro k s i hij hk h0 h1
    obtain ⟨k, rfl⟩ : ∃ k', k = k' + 1 := ⟨k - 1, by omega⟩
    rw [picker_alike.l0, if_neg (by omega), List.drop_eq_nil_of_le (by omega)]
    rfl
  | succ j ih =>
    intro k s i hij hk h0 h1
    obtain ⟨k, rfl⟩ : ∃ k', k = k' + 1 := ⟨k - 1, by omega⟩
    have hi : i < xs.length := by omega
    have hb := hx xs[i] (List.getElem_mem hi)
    have hm := mul_in hr0 hr h0 (by omega)
    rw [picker_alike.l0, if_pos (by omega), if_pos (by omega), w_succ (by omega), rd_at hi, wi (s + _) (by omega), wi (100 * _) (by omega), wi (100 + ratio) (by omega), wi _ (by omega), List.drop_eq_getElem_cons hi, al]
    split
    · rw [ih k _ (i + 1) (by omega) (by omega) (by omega) (by omega)]
      congr 1
    · rfl
theorem alike_f (x : Int) (r : List Int) (hx : Small (x :: r)) (hl : r.length < 1000) (ratio : Int) (hr0 : 0 ≤ ratio) (hr : ratio ≤ 1000) (k : Nat) (hk : r.length < k) : picker_alike.f k (x :: r) ratio = some (al ratio r 1 x) := by
  have hh := hx.head
  unfold picker_alike.f
  rw [if_pos (by simp)]
  have h := alike_l0 (x :: r) hx (by simp; omega) ratio hr0 hr r.length k x 1 (by simp; omega) hk (by omega) (by omega)
  exact h

/-- The first place whence two or more are alike. -/
def pk1 (ratio runs n : Int) : List Int → Int → Int × Int × Int
  | [], _ => (3, 0, n - runs + 1)
  | x :: r, i => if al ratio r 1 x ≥ 2 then (2, i, al ratio r 1 x) else pk1 ratio runs n r (i + 1)
/-- Which runs are put together. -/
def pk (s : List Int) (space ratio runs : Int) : Int × Int × Int :=
  if 2 ≤ s.length ∧ 100 * (s.take (s.length - 1)).sum ≥ space * s.getD (s.length - 1) 0 then (1, 0, s.length)
  else if (s.length : Int) ≤ runs then (0, 0, 0) else pk1 ratio runs s.length s 0

theorem Pick_l0 (s : List Int) (hs : Small s) (hl : s.length ≤ 1000) (ratio runs : Int) (hr0 : 0 ≤ ratio) (hr : ratio ≤ 1000) (hn0 : 1 ≤ runs) (hn : runs ≤ 100) : ∀ (j k : Nat) (i : Nat), i + j = s.length → j < k →
    picker_Pick.l0 k s ratio runs (s.length : Int) (s.length : Int) (i : Int) = some (pk1 ratio runs s.length (s.drop i) (i : Int)) := by
  intro j
  induction j with
  | zero =>
    intro k i hij hk
    obtain ⟨k, rfl⟩ : ∃ k', k = k' + 1 := ⟨k - 1, by omega⟩
    rw [picker_Pick.l0, if_neg (by omega), List.drop_eq_nil_of_le (by omega), wi (_ - _) (by omega), wi _ (by omega)]
    rfl
  | succ j ih =>
    intro k i hij hk
    obtain ⟨k, rfl⟩ : ∃ k', k = k' + 1 := ⟨k - 1, by omega⟩
    have hi : i < s.length := by omega
    have hd := List.drop_eq_getElem_cons hi
    have hsm := hs.drop i
    rw [hd] at hsm
    rw [picker_Pick.l0, if_pos (by omega), if_pos (by omega), if_pos (by omega), Int.toNat_natCast, hd, alike_f _ _ hsm (by simp; omega) ratio hr0 hr k (by simp; omega), Option.bind_some, pk1, w_succ (by omega), ih k (i + 1) (by omega) (by omega)]
    split
    · rfl
    · rfl

theorem mx_in (a : Int) : 0 ≤ mn (mx 0 a) 1000 ∧ mn (mx 0 a) 1000 ≤ 1000 := by unfold mn mx; split <;> split <;> omega
theorem mx1_in (a : Int) : 1 ≤ mn (mx 1 a) 100 ∧ mn (mx 1 a) 100 ≤ 100 := by unfold mn mx; split <;> split <;> omega

theorem Pick_f (l : List S51) (hl : l.length ≤ 1000) (a0 a1 a2 : Int) (k : Nat) (hk : l.length + 1 < k) :
    picker_Pick.f k l a0 a1 a2 = some (pk (szs l) (mn (mx 0 a0) 1000) (mn (mx 0 a1) 1000) (mn (mx 1 a2) 100)) := by
  have h0 := mx_in a0
  have h1 := mx_in a1
  have h2 := mx1_in a2
  have hs := szs_small l
  have hlen := szs_length l
  unfold picker_Pick.f
  rw [sizes_f l (by omega) k (by omega), Option.bind_some]
  generalize mn (mx 0 a0) 1000 = space at *
  generalize mn (mx 0 a1) 1000 = ratio at *
  generalize mn (mx 1 a2) 100 = runs at *
  generalize szs l = s at *
  have hj : ∀ (k : Nat), s.length < k → picker_Pick.l0 k s ratio runs (s.length : Int) (s.length : Int) 0 = some (pk1 ratio runs s.length s 0) := fun k hk => Pick_l0 s hs (by omega) ratio runs h1.1 h1.2 h2.1 h2.2 s.length k 0 (by omega) hk
  obtain ⟨k, rfl⟩ : ∃ k', k = k' + 1 := ⟨k - 1, by omega⟩
  by_cases hn : 2 ≤ s.length
  · have hn1 : wrap64 ((s.length : Int) - 1) = ((s.length - 1 : Nat) : Int) := by rw [wi _ (by omega)]; omega
    have hlast : s.length - 1 < s.length := by omega
    have hb := hs s[s.length - 1] (List.getElem_mem hlast)
    have hts := (hs.take (s.length - 1)).sum
    have htl : (s.take (s.length - 1)).length = s.length - 1 := by rw [List.length_take]; omega
    have hm0 : 0 ≤ space * s[s.length - 1] := Int.mul_nonneg h0.1 (by omega)
    have hm1 : space * s[s.length - 1] ≤ 1000 * 16777216 := Int.mul_le_mul h0.2 hb.2 (by omega) (by omega)
    rw [if_pos (by omega), hn1, if_pos (by omega), if_pos (by omega), Int.toNat_natCast, total_f _ (hs.take _) (by rw [htl]; omega) _ (by rw [htl]; omega), Option.bind_some, if_pos (by omega), rd_at hlast, wi (100 * _) (by omega), wi _ (by omega), picker_Pick.j0]
    unfold pk
    rw [getD_at hlast]
    by_cases hc : 100 * (s.take (s.length - 1)).sum ≥ space * s[s.length - 1]
    · rw [if_pos (decide_eq_true hc), if_pos ⟨hn, hc⟩]
    · rw [if_neg (by rw [decide_eq_false hc]; simp), if_neg (show ¬ (2 ≤ s.length ∧ 100 * (s.take (s.length - 1)).sum ≥ space * s[s.length - 1]) from fun h => hc h.2)]
      split
      · rfl
      · exact hj k (by omega)
  · rw [if_neg (by omega), picker_Pick.j0, if_neg (by simp)]
    unfold pk
    rw [if_neg (show ¬ (2 ≤ s.length ∧ 100 * (s.take (s.length - 1)).sum ≥ space * s.getD (s.length - 1) 0) from fun h => hn h.1)]
    split
    · rfl
    · exact hj k (by omega)

theorem pk1_in (ratio runs : Int) (n : Nat) (hr : 1 ≤ runs) (hn : runs < n) : ∀ (xs : List Int) (i : Int), 0 ≤ i → i + xs.length = n →
    (pk1 ratio runs n xs i).1 ≠ 0 ∧ 0 ≤ (pk1 ratio runs n xs i).2.1 ∧ 2 ≤ (pk1 ratio runs n xs i).2.2 ∧ (pk1 ratio runs n xs i).2.1 + (pk1 ratio runs n xs i).2.2 ≤ n
  | [], i, h0, h1 => by simp only [pk1]; refine ⟨by omega, by omega, by omega, by omega⟩
  | x :: r, i, h0, h1 => by
    have ha := al_in ratio r 1 x
    simp only [List.length_cons, Int.natCast_add, Int.natCast_one] at h1
    unfold pk1
    by_cases hc : al ratio r 1 x ≥ 2
    · rw [if_pos hc]
      refine ⟨show (2 : Int) ≠ 0 by omega, ?_, ?_, ?_⟩
      · exact h0
      · exact hc
      · show i + al ratio r 1 x ≤ n
        omega
    · rw [if_neg hc]
      exact pk1_in ratio runs n hr hn r (i + 1) (by omega) (by omega)
/-- What is picked: nothing, where few runs are there; else two or more that lie within. -/
theorem pk_in (s : List Int) (space ratio runs : Int) (hr : 1 ≤ runs) :
    (pk s space ratio runs = (0, 0, 0) ∧ (s.length : Int) ≤ runs) ∨ ((pk s space ratio runs).1 ≠ 0 ∧ 0 ≤ (pk s space ratio runs).2.1 ∧ 2 ≤ (pk s space ratio runs).2.2 ∧ (pk s space ratio runs).2.1 + (pk s space ratio runs).2.2 ≤ s.length) := by
  unfold pk
  by_cases hc : 2 ≤ s.length ∧ 100 * (s.take (s.length - 1)).sum ≥ space * s.getD (s.length - 1) 0
  · rw [if_pos hc]
    refine Or.inr ⟨show (1 : Int) ≠ 0 by omega, ?_, ?_, ?_⟩
    · exact Int.le_refl _
    · show (2 : Int) ≤ (s.length : Int)
      omega
    · show (0 : Int) + (s.length : Int) ≤ (s.length : Int)
      omega
  · rw [if_neg hc]
    by_cases hn : (s.length : Int) ≤ runs
    · rw [if_pos hn]; exact Or.inl ⟨rfl, hn⟩
    · rw [if_neg hn]
      exact Or.inr (pk1_in ratio runs s.length hr (by omega) s 0 (by omega) (by omega))

end Go.Proofs.Ytgfjagbcdjmgkaa.PPickerPicks
