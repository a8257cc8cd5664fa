/- What the reference's Pick reckons: the same as Pick. -/
import Derived.Test.YtgfjagbcdjmgkaaQPickerPicksx3
import Derived.Test.YtgfjagbcdjmgkaaPickPurePickerPicks
namespace Go.Proofs.Ytgfjagbcdjmgkaa.PPickerPicks
open Go.RowKit Go.Proofs.YtgfjagbcdjmgkaaW.PrintWords Go.Proofs.YtgfjagbcdjmgkaaW.PrintLast Go.Proofs.YtgfjagbcdjmgkaaW.PrintMore
set_option linter.unusedVariables false
set_option linter.unusedSimpArgs false

theorem alive_f : ∀ k, 20 ≤ k → butterylaw19_alive.f k = some true := by
  intro k hk
  obtain ⟨j, rfl⟩ := Nat.exists_eq_add_of_le hk
  clear hk
  induction j with
  | zero => show butterylaw19_alive.f 20 = some true; kernel_rfl
  | succ j ih => exact butterylaw19_alive.mono _ _ ih

theorem bytes_f (a b c : Int) (l m : List Int) (d : Int) : butteryref16_bytes.f a b c l m d = some (sz b) := by
  unfold butteryref16_bytes.f sz mn mx
  split
  · rw [if_neg (by omega), if_neg (by omega)]
  · split
    · rw [if_pos (show (1 : Int) < b by omega), if_pos (by omega)]
    · by_cases h : 1 < b
      · rw [if_pos h, if_neg (by omega)]
      · rw [if_neg h, if_neg (by omega)]
        congr 1; omega
theorem between_f (a : Int) : butteryref16_between.f a 0 1000 = some (mn (mx 0 a) 1000) := by
  unfold butteryref16_between.f mn mx
  split
  · rw [if_neg (by omega), if_neg (by omega)]
  · split
    · rw [if_pos (show (0 : Int) < a by omega), if_pos (by omega)]
    · by_cases h : 0 < a
      · rw [if_pos h, if_neg (by omega)]
      · rw [if_neg h, if_neg (by omega)]
        congr 1; omega
theorem between1_f (a : Int) : butteryref16_between.f a 1 100 = some (mn (mx 1 a) 100) := by
  unfold butteryref16_between.f mn mx
  split
  · rw [if_neg (by omega), if_neg (by omega)]
  · split
    · rw [if_pos (show (1 : Int) < a by omega), if_pos (by omega)]
    · by_cases h : 1 < a
      · rw [if_pos h, if_neg (by omega)]
      · rw [if_neg h, if_neg (by omega)]
        congr 1; omega

theorem szs_at {l : List S51} {i : Nat} (h : i < l.length) : (szs l)[i]'(by rw [szs_length]; exact h) = sz l[i].f1 := by simp [szs]
theorem szs_drop (l : List S51) {i : Nat} (h : i < l.length) : (szs l).drop i = sz l[i].f1 :: (szs l).drop (i + 1) := by
  rw [List.drop_eq_getElem_cons (by rw [szs_length]; exact h), szs_at h]

/-- The inner loop: from a place on, so many are alike. -/
theorem ref_l2 (l : List S51) (hl : l.length ≤ 1000) (ratio runs : Int) (hr0 : 0 ≤ ratio) (hr : ratio ≤ 1000) (a : Nat) (ha : a < l.length)
    (hnext : ∀ k, l.length - a ≤ k + 1 → True) : ∀ (j k : Nat) (s : Int) (c : Nat), a + c + j = l.length → j < k → 1 ≤ c → 0 ≤ s → s ≤ 16777216 * c →
    ∃ k', k ≤ k' + j + 1 ∧ k' < k ∧ butteryref16_Pick.l2 k l ratio runs (l.length : Int) (a : Int) s (c : Int) =
      (if al ratio ((szs l).drop (a + c)) (c : Int) s > 1 then some (2, (a : Int), al ratio ((szs l).drop (a + c)) (c : Int) s) else butteryref16_Pick.l1 k' l ratio runs (l.length : Int) ((a + 1 : Nat) : Int)) := by
  intro j
  induction j with
  | zero =>
    intro k s c hij hk h1 h0 hs
    obtain ⟨k, rfl⟩ : ∃ k', k = k' + 1 := ⟨k - 1, by omega⟩
    refine ⟨k, by omega, by omega, ?_⟩
    have hw : wrap64 ((a : Int) + (c : Int)) = ((a + c : Nat) : Int) := by rw [wi _ (by omega)]; omega
    rw [butteryref16_Pick.l2, hw, if_neg (by omega), List.drop_eq_nil_of_le (by rw [szs_length]; omega), w_succ (by omega)]
    rfl
  | succ j ih =>
    intro k s c hij hk h1 h0 hs
    obtain ⟨k, rfl⟩ : ∃ k', k = k' + 1 := ⟨k - 1, by omega⟩
    have hw : wrap64 ((a : Int) + (c : Int)) = ((a + c : Nat) : Int) := by rw [wi _ (by omega)]; omega
    have hi : a + c < l.length := by omega
    have hb := sz_in l[a + c].f1
    have hm := mul_in hr0 hr h0 (by omega)
    have hcm : s * (100 + ratio) = (100 + ratio) * s := Int.mul_comm _ _
    rw [butteryref16_Pick.l2, hw, if_pos (by omega), if_pos (by omega), if_pos (by omega), rdT_at hi, bytes_f, Option.bind_some, wi (100 + ratio) (by omega), hcm, wi ((100 + ratio) * s) (by omega), wi (_ * 100) (by omega), Option.bind_some, wi (s + _) (by omega), w_succ (by omega), w_succ (by omega), szs_drop l hi, al, Int.mul_comm (sz _) 100]
    by_cases hc : 100 * sz l[a + c].f1 ≤ (100 + ratio) * s
    · rw [if_pos hc, if_pos hc]
      obtain ⟨k', h2, h3, h4⟩ := ih k (s + sz l[a + c].f1) (c + 1) (by omega) (by omega) (by omega) (by omega) (by omega)
      refine ⟨k', by omega, by omega, ?_⟩
      rw [h4, show a + (c + 1) = a + c + 1 by omega]
      rfl
    · rw [if_neg hc, if_neg hc]
      exact ⟨k, by omega, by omega, rfl⟩

theorem ref_l1 (l : List S51) (hl : l.length ≤ 1000) (ratio runs : Int) (hr0 : 0 ≤ ratio) (hr : ratio ≤ 1000) (hn0 : 1 ≤ runs) (hn : runs ≤ 100) : ∀ (j k : Nat) (i : Nat), i + j = l.length → (j + 1) * (l.length + 3) < k →
    butteryref16_Pick.l1 k l ratio runs (l.length : Int) (i : Int) = some (pk1 ratio runs l.length ((szs l).drop i) (i : Int)) := by
  intro j
  induction j with
  | zero =>
    intro k i hij hk
    obtain ⟨k, rfl⟩ : ∃ k', k = k' + 1 := ⟨k - 1, by omega⟩
    rw [butteryref16_Pick.l1, if_neg (by omega), List.drop_eq_nil_of_le (by rw [szs_length]; omega), wi (_ - _) (by omega), wi _ (by omega)]
    rfl
  | succ j ih =>
    intro k i hij hk
    have hkk : (j + 1 + 1) * (l.length + 3) = (j + 1) * (l.length + 3) + (l.length + 3) := Nat.succ_mul _ _
    obtain ⟨k, rfl⟩ : ∃ k', k = k' + 1 := ⟨k - 1, by omega⟩
    have hi : i < l.length := by omega
    have hb := sz_in l[i].f1
    obtain ⟨k', h2, h3, h4⟩ := ref_l2 l hl ratio runs hr0 hr i hi (fun _ _ => trivial) (l.length - i - 1) k (sz l[i].f1) 1 (by omega) (by omega) (by omega) (by omega) (by omega)
    rw [butteryref16_Pick.l1, if_pos (by omega), if_pos (by omega), if_pos (by omega), rdT_at hi, bytes_f, Option.bind_some]
    refine h4.trans ?_
    rw [szs_drop l hi, pk1, ih k' (i + 1) (by omega) (by omega)]
    by_cases hc : al ratio ((szs l).drop (i + 1)) 1 (sz l[i].f1) ≥ 2
    · rw [if_pos hc]
      exact if_pos (show al ratio ((szs l).drop (i + 1)) 1 (sz l[i].f1) > 1 by omega)
    · rw [if_neg hc]
      exact if_neg (show ¬ al ratio ((szs l).drop (i + 1)) 1 (sz l[i].f1) > 1 by omega)

theorem ref_l0 (l : List S51) (hl : l.length ≤ 1000) (h2 : 2 ≤ l.length) (space ratio runs : Int) (hs0 : 0 ≤ space) (hs : space ≤ 1000) (hr0 : 0 ≤ ratio) (hr : ratio ≤ 1000) (hn0 : 1 ≤ runs) (hn : runs ≤ 100) : ∀ (j k : Nat) (s : Int) (i : Nat), i + j = l.length - 1 → (l.length + 2) * (l.length + 3) + j < k → s = ((szs l).take i).sum →
    butteryref16_Pick.l0 k l space ratio runs (l.length : Int) s (i : Int) = some (pk (szs l) space ratio runs) := by
  have hw : wrap64 ((l.length : Int) - 1) = ((l.length - 1 : Nat) : Int) := by rw [wi _ (by omega)]; omega
  have hlen := szs_length l
  intro j
  induction j with
  | zero =>
    intro k s i hij hk hsum
    obtain ⟨k, rfl⟩ : ∃ k', k = k' + 1 := ⟨k - 1, by omega⟩
    have hlast : l.length - 1 < l.length := by omega
    have hlast' : (szs l).length - 1 < (szs l).length := by omega
    have hb := sz_in l[l.length - 1].f1
    have hts := ((szs_small l).take i).sum
    have htl : ((szs l).take i).length = i := by rw [List.length_take]; omega
    have hm0 : 0 ≤ space * sz l[l.length - 1].f1 := Int.mul_nonneg hs0 (by omega)
    have hm1 : space * sz l[l.length - 1].f1 ≤ 1000 * 16777216 := Int.mul_le_mul hs hb.2 (by omega) (by omega)
    have hd : (szs l).getD ((szs l).length - 1) 0 = sz l[l.length - 1].f1 := by
      rw [getD_at hlast']; simp [szs]
    have hi : i = (szs l).length - 1 := by omega
    have hfin := ref_l1 l hl ratio runs hr0 hr hn0 hn l.length k 0 (by omega) (by
      have : (l.length + 2) * (l.length + 3) = (l.length + 1) * (l.length + 3) + (l.length + 3) := Nat.succ_mul _ _
      omega)
    rw [butteryref16_Pick.l0, hw, if_neg (by omega), if_pos (by omega), if_pos (by omega), rdT_at hlast, bytes_f, Option.bind_some, wi (s * 100) (by omega), wi (space * _) (by omega)]
    unfold pk
    rw [hd, ← hi, ← hsum, hlen]
    by_cases hc : s * 100 ≥ space * sz l[l.length - 1].f1
    · rw [if_pos hc, if_pos ⟨by omega, by omega⟩]
    · rw [if_neg hc, if_neg (show ¬ (2 ≤ l.length ∧ 100 * s ≥ space * sz l[l.length - 1].f1) from fun h => hc (by omega))]
      split
      · rfl
      · exact hfin
  | succ j ih =>
    intro k s i hij hk hsum
    obtain ⟨k, rfl⟩ : ∃ k', k = k' + 1 := ⟨k - 1, by omega⟩
    have hi : i < l.length := by omega
    have hb := sz_in l[i].f1
    have hts := ((szs_small l).take i).sum
    have htl : ((szs l).take i).length = i := by rw [List.length_take]; omega
    have hst : ((szs l).take (i + 1)).sum = s + sz l[i].f1 := by
      rw [List.take_succ_eq_append_getElem (by omega), szs_at hi, List.sum_append, ← hsum]
      simp
    rw [butteryref16_Pick.l0, hw, if_pos (by omega), if_pos (by omega), if_pos (by omega), rdT_at hi, bytes_f, Option.bind_some, wi (s + _) (by omega), w_succ (by omega)]
    exact ih k _ (i + 1) (by omega) (by omega) hst.symm

theorem refPick_f (l : List S51) (hl : l.length ≤ 1000) (a0 a1 a2 : Int) (k : Nat) (hk : (l.length + 2) * (l.length + 3) + l.length < k) :
    butteryref16_Pick.f k l a0 a1 a2 = some (pk (szs l) (mn (mx 0 a0) 1000) (mn (mx 0 a1) 1000) (mn (mx 1 a2) 100)) := by
  have h0 := mx_in a0
  have h1 := mx_in a1
  have h2 := mx1_in a2
  have hlen := szs_length l
  unfold butteryref16_Pick.f
  rw [between_f, Option.bind_some, between_f, Option.bind_some, between1_f, Option.bind_some]
  by_cases h : l.length < 2
  · rw [if_pos (by omega)]
    unfold pk
    rw [if_neg (fun h' => by omega), if_pos (by omega)]
  · rw [if_neg (by omega)]
    exact ref_l0 l hl (by omega) _ _ _ h0.1 h0.2 h1.1 h1.2 h2.1 h2.2 (l.length - 1) k 0 0 (by omega) (by omega) (by simp)

end Go.Proofs.Ytgfjagbcdjmgkaa.PPickerPicks
