/- What PickerRest answers, reckoned: again and again putting together what is picked comes to an end. -/
import Derived.Test.YtgfjagbcdjmgkaaQPickerRestx4
import Derived.Test.YtgfjagbcdjmgkaaPickPurePickerRest
namespace Go.Proofs.Ytgfjagbcdjmgkaa.PPickerRest
open Go.RowKit Go.Proofs.YtgfjagbcdjmgkaaW.PrintWords Go.Proofs.YtgfjagbcdjmgkaaW.PrintLast Go.Proofs.YtgfjagbcdjmgkaaW.PrintMore
set_option linter.unusedVariables false
set_option linter.unusedSimpArgs false

theorem alive_f : ∀ k, 20 ≤ k → butterylaw19_alive.f k = some true := by
  intro k hk
  obtain ⟨j, rfl⟩ := Nat.exists_eq_add_of_le hk
  clear hk
  induction j with
  | zero => show butterylaw19_alive.f 20 = some true; kernel_rfl
  | succ j ih => exact butterylaw19_alive.mono _ _ ih

theorem runs_l0 (xs : List Int) (hl : xs.length ≤ 1000) : ∀ (j k : Nat) (x3 : List S51) (i : Nat), i + j = xs.length → j < k → x3.length = i →
    ∃ r : List S51, butterylaw19_runs.l0 k xs x3 (i : Int) = some r ∧ r.length = xs.length := by
  intro j
  induction j with
  | zero =>
    intro k x3 i hij hk hx
    obtain ⟨k, rfl⟩ : ∃ k', k = k' + 1 := ⟨k - 1, by omega⟩
    rw [butterylaw19_runs.l0, if_neg (by omega)]
    exact ⟨x3, rfl, by omega⟩
  | succ j ih =>
    intro k x3 i hij hk hx
    obtain ⟨k, rfl⟩ : ∃ k', k = k' + 1 := ⟨k - 1, by omega⟩
    rw [butterylaw19_runs.l0, if_pos (by omega), if_pos (by omega), if_pos (by omega), w_succ (by omega)]
    exact ih k _ (i + 1) (by omega) (by omega) (by simp [hx])

/-- The bytes of what is picked are summed; then the list is put together. -/
theorem rest_l1 (x0 : List Int) (x6 : List S51) (x7 : Nat) (hx7 : x7 ≤ 1000) (hl : x6.length ≤ 1000) (a0 a1 a2 y0 : Int) (p c : Nat) (hpc : p + c ≤ x6.length) : ∀ (j k : Nat) (acc : Int) (i : Nat), i + j = p + c → j < k →
    ∃ v : Int, butterylaw19_PickerRest.l1 k x0 x6 (x7 : Int) acc (i : Int) a0 a1 a2 y0 (p : Int) (c : Int) = butterylaw19_PickerRest.l0 (k - j - 1) x0 ((x6.take p ++ [⟨0, v, 0, [], [], 0⟩]) ++ x6.drop (p + c)) ((x7 + 1 : Nat) : Int) a0 a1 a2 := by
  have hw : wrap64 ((p : Int) + (c : Int)) = ((p + c : Nat) : Int) := by rw [wi _ (by omega)]; omega
  intro j
  induction j with
  | zero =>
    intro k acc i hij hk
    obtain ⟨k, rfl⟩ : ∃ k', k = k' + 1 := ⟨k - 1, by omega⟩
    refine ⟨acc, ?_⟩
    have h1 : (x6.take p).length = p := by rw [List.length_take]; omega
    have h2 : (x6.drop (p + c)).length = x6.length - (p + c) := List.length_drop
    rw [butterylaw19_PickerRest.l1, hw, if_neg (by omega), if_pos (by omega), if_pos (by omega), Option.bind_some, if_pos (by simp; omega), Option.bind_some, if_pos (by simp; omega), Option.bind_some, if_pos (by omega), if_pos (by omega), Option.bind_some, if_pos (by simp; omega), w_succ (by omega)]
    simp [show ((p : Int) + (c : Int)).toNat = p + c by omega]
  | succ j ih =>
    intro k acc i hij hk
    obtain ⟨k, rfl⟩ : ∃ k', k = k' + 1 := ⟨k - 1, by omega⟩
    obtain ⟨v, hv⟩ := ih k (wrap64 (acc + (rd_T51 x6 (i : Int)).f1)) (i + 1) (by omega) (by omega)
    refine ⟨v, ?_⟩
    rw [butterylaw19_PickerRest.l1, hw, if_pos (by omega), if_pos (by omega), if_pos (by omega), w_succ (by omega), hv]
    congr 1
    omega

theorem rest_l0 (x0 : List Int) (hx0 : x0.length ≤ 40) (a0 a1 a2 : Int) : ∀ (m : Nat) (k : Nat) (x6 : List S51) (i : Nat), x6.length ≤ m → 1 ≤ m → i + m ≤ x0.length + 1 → 50 * m + 100 ≤ k →
    butterylaw19_PickerRest.l0 k x0 x6 (i : Int) a0 a1 a2 = some true := by
  intro m
  induction m with
  | zero => intro k x6 i h0 h1; omega
  | succ m ih =>
    intro k x6 i h0 h1 hi hk
    obtain ⟨k, rfl⟩ : ∃ k', k = k' + 1 := ⟨k - 1, by omega⟩
    have h2 := mx1_in a2
    have hp := pk_in (szs x6) (mn (mx 0 a0) 1000) (mn (mx 0 a1) 1000) (mn (mx 1 a2) 100) h2.1
    have hlen := szs_length x6
    rw [butterylaw19_PickerRest.l0, if_pos (by omega), Pick_f x6 (by omega) a0 a1 a2 k (by omega), Option.bind_some]
    have hr : (1 : Int) ≤ mn (mx 1 a2) 100 ∧ (mn (mx 1 a2) 100 = 1 ∨ mn (mx 1 a2) 100 ≤ a2) := by
      unfold mn mx; split <;> split <;> omega
    generalize pk (szs x6) (mn (mx 0 a0) 1000) (mn (mx 0 a1) 1000) (mn (mx 1 a2) 100) = q at *
    rcases hp with ⟨rfl, hn⟩ | ⟨hq0, hq1, hq2, hq3⟩
    · rw [if_pos rfl]
      by_cases hc : a2 < 1
      · rw [if_pos hc, if_pos (by decide), if_pos (by omega)]
      · rw [if_neg hc, if_pos (by decide)]
        by_cases hd : (x6.length : Int) ≤ a2
        · rw [if_pos hd]
        · rw [if_neg hd, decide_eq_true (by omega)]
    · obtain ⟨q0, q1, q2⟩ := q
      simp only at hq0 hq1 hq2 hq3
      obtain ⟨p, rfl⟩ := Int.eq_ofNat_of_zero_le hq1
      obtain ⟨c, rfl⟩ := Int.eq_ofNat_of_zero_le (show 0 ≤ q2 by omega)
      obtain ⟨k, rfl⟩ : ∃ k', k = k' + 1 := ⟨k - 1, by omega⟩
      obtain ⟨v, hv⟩ := rest_l1 x0 x6 i (by omega) (by omega) a0 a1 a2 q0 p c (by omega) c k 0 p rfl (by omega)
      have hw : wrap64 ((x6.length : Int) - (c : Int)) = (x6.length : Int) - c := wi _ (by omega)
      simp only
      rw [if_neg hq0, if_neg (by omega), if_neg (by omega), butterylaw19_PickerRest.j2, hw, if_neg (by simp; omega), hv]
      refine ih _ _ (i + 1) ?_ (by omega) (by omega) (by omega)
      simp only [List.length_append, List.length_take, List.length_drop, List.length_cons, List.length_nil]
      omega

theorem rest_pure (l0 : List Int) (a0 a1 a2 : Int) : butterylaw19_PickerRest.f 3000 l0 a0 a1 a2 = some true := by
  unfold butterylaw19_PickerRest.f
  rw [alive_f 3000 (by omega), Option.bind_some, if_pos rfl]
  by_cases h : (l0.length : Int) > 40
  · rw [decide_eq_true h, butterylaw19_PickerRest.j0, if_pos rfl]
  · rw [decide_eq_false h, butterylaw19_PickerRest.j0, if_neg (by simp)]
    obtain ⟨r, hr, hlr⟩ := runs_l0 l0 (by omega) l0.length 2999 [] 0 (by omega) (by omega) rfl
    have hr' : butterylaw19_runs.f 2999 l0 = some r := hr
    rw [hr', Option.bind_some]
    exact rest_l0 l0 (by omega) a0 a1 a2 (l0.length + 1) 2999 r 0 (by omega) (by omega) (by omega) (by omega)

end Go.Proofs.Ytgfjagbcdjmgkaa.PPickerRest
namespace Go.Proofs.Ytgfjagbcdjmgkaa
open Go.RowKit Go.Proofs.YtgfjagbcdjmgkaaW.PrintWords
theorem pickerRest_row (A : Option Addr) (c : Nat) (l : List Int) (x y z : Int) {w : World} (hr : ReadsInt w .i64 A l.length l) (_ : ∀ v ∈ l, (Lit.int .i64 v).wf = true) (hc : l.length ≤ c) (_ : (Lit.int .i64 x).wf = true) (_ : (Lit.int .i64 y).wf = true) (_ : (Lit.int .i64 z).wf = true) (W : World) (e : w = W) :
    Calls Try.prog 8 #[.slice A l.length c, .agg #[.int .i64 x, .int .i64 y, .int .i64 z]] W fun e w' => e = .returned (.bool true) ∧ Below W.heap.size W w' := by
  subst e
  exact PPickerRest.butterylaw19_PickerRest.calls 3000 A c l x y z true w (Kd.C_of_reads (enc := Value.int .i64) (d := (0 : Int)) (h1 := fun _ => rfl) hr) hc (PPickerRest.rest_pure l x y z)
end Go.Proofs.Ytgfjagbcdjmgkaa
