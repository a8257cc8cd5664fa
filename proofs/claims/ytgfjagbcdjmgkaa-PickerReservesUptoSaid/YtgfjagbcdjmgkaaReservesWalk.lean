/- PickerReserves: what it reckons, and its walk. -/
import Derived.Test.YtgfjagbcdjmgkaaQPickerReservesx3
import Derived.Test.YtgfjagbcdjmgkaaReservePickerReserves
import Derived.Test.YtgfjagbcdjmgkaaParts1
namespace Go.Proofs.Ytgfjagbcdjmgkaa.PPickerReserves
open Go.RowKit Go.Proofs.YtgfjagbcdjmgkaaW.PrintWords Go.Proofs.YtgfjagbcdjmgkaaW.PrintLast Go.Proofs.YtgfjagbcdjmgkaaW.PrintMore
set_option linter.unusedVariables false
set_option linter.unusedSimpArgs false

theorem alive_f : ∀ k, 20 ≤ k → butterylaw19_alive.f k = some true := by
  intro k hk
  obtain ⟨j, rfl⟩ := Nat.exists_eq_add_of_le hk
  clear hk
  induction j with
  | zero => show butterylaw19_alive.f 20 = some true; kernel_rfl
  | succ j ih => exact butterylaw19_alive.mono _ _ ih
theorem and_in (x : Int) : 0 ≤ Go.bits .and .i64 x 65535 ∧ Go.bits .and .i64 x 65535 ≤ 65535 := by
  have h : ((BitVec.ofInt 64 x) &&& (BitVec.ofInt 64 65535)).toNat ≤ 65535 := by
    rw [BitVec.toNat_and]; exact Nat.le_trans Nat.and_le_right (by decide)
  have e : Go.bits .and .i64 x 65535 = IntKind.i64.wrap ((((BitVec.ofInt 64 x) &&& (BitVec.ofInt 64 65535)).toNat : Nat) : Int) := rfl
  rw [e, IntKind.wrap_i64]
  omega
def Runs (l : List S51) : Prop := ∀ x ∈ l, 1 ≤ x.f1 ∧ x.f1 ≤ 65536
theorem runs_l0 (xs : List Int) (hl : xs.length < 1759218604441) : ∀ (j k : Nat) (x3 : List S51) (i : Nat), i + j = xs.length → j < k → x3.length = i → Runs x3 →
    ∃ r : List S51, butterylaw19_runs.l0 k xs x3 (i : Int) = some r ∧ r.length = xs.length ∧ Runs r := by
  intro j
  induction j with
  | zero =>
    intro k x3 i hij hk hx hR
    obtain ⟨k, rfl⟩ : ∃ k', k = k' + 1 := ⟨k - 1, by omega⟩
    rw [butterylaw19_runs.l0, if_neg (by omega)]
    exact ⟨x3, rfl, by omega, hR⟩
  | succ j ih =>
    intro k x3 i hij hk hx hR
    obtain ⟨k, rfl⟩ : ∃ k', k = k' + 1 := ⟨k - 1, by omega⟩
    rw [butterylaw19_runs.l0, if_pos (by omega), if_pos (by omega), if_pos (by omega), w_succ (by omega)]
    refine ih k _ (i + 1) (by omega) (by omega) (by simp [hx]) ?_
    intro x hx
    rcases List.mem_append.1 hx with hx | hx
    · exact hR x hx
    · rw [List.mem_singleton] at hx
      subst hx
      have h := and_in (rd xs (i : Int))
      show 1 ≤ wrap64 (1 + Go.bits .and .i64 (rd xs (i : Int)) 65535) ∧ wrap64 (1 + Go.bits .and .i64 (rd xs (i : Int)) 65535) ≤ 65536
      rw [wi _ (by omega)]
      omega
theorem runs_f (xs : List Int) (hl : xs.length < 1759218604441) : ∃ r : List S51, butterylaw19_runs.f (xs.length + 1) xs = some r ∧ r.length = xs.length ∧ Runs r :=
  runs_l0 xs hl xs.length (xs.length + 1) [] 0 (by omega) (by omega) rfl (fun x hx => by simp at hx)

theorem sz_run {x : S51} (h : 1 ≤ x.f1 ∧ x.f1 ≤ 65536) : sz x.f1 = x.f1 := by unfold sz mn mx; split <;> split <;> omega
theorem part_nought (l : List S51) (p : Nat) (h : p ≤ l.length) : part l p 0 = 0 := by
  unfold part
  rw [List.drop_eq_nil_of_le (by rw [List.length_take]; omega)]
  rfl
theorem part_succ (l : List S51) (p j : Nat) (h : p + j < l.length) : part l p (j + 1) = part l p j + sz l[p + j].f1 := by
  unfold part
  rw [show p + (j + 1) = p + j + 1 by omega, List.take_succ_eq_append_getElem h, List.drop_append_of_le_length (by rw [List.length_take]; omega)]
  simp [szs]

theorem reserves_no (A : Option Addr) (c : Nat) (xs : List Int) (a b : Int) (r : List S51) (hf : butterylaw19_runs.f (xs.length + 1) xs = some r) (w : World) (hr : Kd.C (Kd.int .i64) w A xs.length xs) (hc : xs.length ≤ c) (hrl : r.length ≤ 9223372036854775807)
    (h : 40 < r.length ∨ a < 0 ∨ b < 0 ∨ (r.length : Int) < a ∨ (r.length : Int) - a < b) :
    Calls Try.prog 13 #[.slice A xs.length c, .int .i64 a, .int .i64 b] w fun e w' => e = .returned (.bool true) ∧ Below w.heap.size w w' := by
  have HR := Lib.hid hr
  have HF := Lib.hid hf
  have HC := Lib.hid hc
  have hcase : (40 < r.length) ∨ (¬ 40 < r.length ∧ a < 0) ∨ (¬ 40 < r.length ∧ ¬ a < 0 ∧ b < 0) ∨ (¬ 40 < r.length ∧ ¬ a < 0 ∧ ¬ b < 0 ∧ (r.length : Int) < a) ∨ (¬ 40 < r.length ∧ ¬ a < 0 ∧ ¬ b < 0 ∧ ¬ (r.length : Int) < a ∧ (r.length : Int) - a < b) := by omega
  clear hr hf hc h hrl
  rcases hcase with h0 | ⟨h0, h1⟩ | ⟨h0, h1, h2⟩ | ⟨h0, h1, h2, h3⟩ | ⟨h0, h1, h2, h3, h4⟩
  all_goals
    try (have e5 := wi' ((r.length : Int) - a) (by omega))
    go_enter Try.func13, Try.ntmps13
    go_wp2_with fail
    refine (butterylaw19_alive.calls 20 true _ (alive_f 20 (by omega))).mono ?_
    rintro e w1 ⟨rfl, hB1⟩
    go_wp2_with fail
    refine (butterylaw19_runs.calls _ A c xs r _ (Kd.C_below HR.out hB1) HC.out HF.out).mono ?_
    rintro e w2 ⟨v, rfl, hS, hB2⟩
    obtain ⟨A1, c1, rfl, hlc, hC⟩ := Kd.S_reads hS
    clear hS hC hlc
    go_wp2
    go_ret
    exact ⟨rfl, below_step hB1 hB2⟩

theorem reserves_yes (A : Option Addr) (c : Nat) (xs : List Int) (p q : Nat) (r : List S51) (hf : butterylaw19_runs.f (xs.length + 1) xs = some r) (hR : Runs r) (w : World) (hr : Kd.C (Kd.int .i64) w A xs.length xs) (hc : xs.length ≤ c)
    (h40 : r.length ≤ 40) (hpq : p + q ≤ r.length) :
    Calls Try.prog 13 #[.slice A xs.length c, .int .i64 (p : Int), .int .i64 (q : Int)] w fun e w' => e = .returned (.bool true) ∧ Below w.heap.size w w' := by
  have HR := Lib.hid hr
  have HF := Lib.hid hf
  have HC := Lib.hid hc
  have HRR := Lib.hid hR
  have hp := part_in r p q hpq
  have HP := Lib.hid hp
  have h0 : ¬ 40 < r.length := by omega
  have h3 : ¬ r.length < p := by omega
  have h4 : ¬ ((r.length : Int) - (p : Int) < (q : Int)) := by omega
  have e5 := wi' ((r.length : Int) - (p : Int)) (by omega)
  have e6 := wi' ((p : Int) + (q : Int)) (by omega)
  have e7 := wi' (64 * (q : Int)) (by omega)
  have e8 := wi' (part r p q + 64 * (q : Int)) (by omega)
  have e9 := wi' ((q : Int) + 1) (by omega)
  have HQ := Lib.hid hpq
  clear hr hf hc hR hp
  go_enter Try.func13, Try.ntmps13
  go_wp2_with fail
  refine (butterylaw19_alive.calls 20 true _ (alive_f 20 (by omega))).mono ?_
  rintro e w1 ⟨rfl, hB1⟩
  go_wp2_with fail
  refine (butterylaw19_runs.calls _ A c xs r _ (Kd.C_below HR.out hB1) HC.out HF.out).mono ?_
  rintro e w2 ⟨v, rfl, hS, hB2⟩
  obtain ⟨A1, c1, rfl, hlc, hC⟩ := Kd.S_reads hS
  have HCC := Lib.hid hC
  have HLC := Lib.hid hlc
  clear hS hC hlc
  go_wp2
  go_loop [9, 10] (fun s i => ∃ j : Nat, j ≤ q ∧ i = .int .i64 ((p + j : Nat) : Int) ∧ s = .int .i64 (part r p j)) (fun _ i => p + q - (intOf i).toNat)
  case atStart => exact ⟨0, Nat.zero_le _, rfl, by rw [part_nought r p (by omega)]⟩
  case round =>
    obtain ⟨j, hj, rfl, rfl⟩ := hrel
    by_cases hlt : j < q
    · have hi : p + j < r.length := by omega
      have hlt' : ((p + j : Nat) : Int) < (p : Int) + (q : Int) := by omega
      have hpj := part_in r p j (by omega)
      have hs := Lib.hid (part_succ r p j hi)
      have hz := HRR.out r[p + j] (List.getElem_mem hi)
      have hzz := Lib.hid (sz_run hz)
      obtain ⟨ad, A3, c3, A4, c4, e1, _, hcell, _⟩ := at_T51 HCC.out ((p + j : Nat) : Int) (by omega) (by omega)
      subst e1
      rw [rdT_at hi] at hcell
      rw [Int.toNat_natCast] at hcell
      have e10 := wi' (part r p j + r[p + j].f1) (by omega)
      generalize r[p + j].f1 = z at *
      go_wp2
      go_round
      case rel => exact ⟨j + 1, by omega, by go_num, by rw [hs.out, hzz.out]⟩
      case measure => simp [intOf]; omega
    · have hjq : j = q := by omega
      subst hjq
      have hlt' : ¬ (((p + j : Nat) : Int) < (p : Int) + (j : Int)) := by omega
      go_wp2_with fail
      refine (reserve_yes A1 c1 r 0 p j _ HCC.out HLC.out (by omega) HQ.out).mono ?_
      rintro e w3 ⟨rfl, hB3⟩
      go_wp2_with fail
      have hp := HP.out
      refine (parts1_ch (a := part r p j + 64 * (j : Int)) (b := (j : Int) + 1) ⟨by omega, by omega⟩ ⟨by omega, by omega⟩ _).mono ?_
      rintro e w4 ⟨rfl, rfl⟩
      go_wp2_with fail
      go_ret
      exact ⟨rfl, below_step (below_step hB1 hB2) hB3⟩

theorem reserves_walk (A : Option Addr) (c : Nat) (xs : List Int) (a b : Int) (w : World) (hr : Kd.C (Kd.int .i64) w A xs.length xs) (hc : xs.length ≤ c) (hx : xs.length < 1759218604441) :
    Calls Try.prog 13 #[.slice A xs.length c, .int .i64 a, .int .i64 b] w fun e w' => e = .returned (.bool true) ∧ Below w.heap.size w w' := by
  obtain ⟨r, hf, hlen, hR⟩ := runs_f xs hx
  by_cases h : 40 < r.length ∨ a < 0 ∨ b < 0 ∨ (r.length : Int) < a ∨ (r.length : Int) - a < b
  · exact reserves_no A c xs a b r hf w hr hc (by omega) h
  · obtain ⟨p, rfl⟩ := Int.eq_ofNat_of_zero_le (show 0 ≤ a by omega)
    obtain ⟨q, rfl⟩ := Int.eq_ofNat_of_zero_le (show 0 ≤ b by omega)
    exact reserves_yes A c xs p q r hf hR w hr hc (by omega) (by omega)

end Go.Proofs.Ytgfjagbcdjmgkaa.PPickerReserves
namespace Go.Proofs.Ytgfjagbcdjmgkaa
open Go.RowKit Go.Proofs.YtgfjagbcdjmgkaaW.PrintWords
theorem pickerReserves_row (A : Option Addr) (c : Nat) (l : List Int) (a b : Int) {w : World} (hr : ReadsInt w .i64 A l.length l) (_ : ∀ v ∈ l, (Lit.int .i64 v).wf = true) (hc : l.length ≤ c) (_ : (Lit.int .i64 a).wf = true) (_ : (Lit.int .i64 b).wf = true) (hl : l.length < 1759218604441) (W : World) (e : w = W) :
    Calls Try.prog 13 #[.slice A l.length c, .int .i64 a, .int .i64 b] W fun e w' => e = .returned (.bool true) ∧ Below W.heap.size W w' := by
  subst e
  exact PPickerReserves.reserves_walk A c l a b w (Kd.C_of_reads (enc := Value.int .i64) (d := (0 : Int)) (h1 := fun _ => rfl) hr) hc hl
end Go.Proofs.Ytgfjagbcdjmgkaa
