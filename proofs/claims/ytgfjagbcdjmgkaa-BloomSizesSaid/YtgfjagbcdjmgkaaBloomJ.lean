/- The walk of BloomSizes: how long a filter is, and how many bits its keys have at most. -/
import Derived.Test.YtgfjagbcdjmgkaaBloomH
import Derived.Deep.QuietTactic
import Derived.BigQuiet
namespace Go.Proofs.Ytgfjagbcdjmgkaa
set_option linter.unusedVariables false
set_option linter.unusedSimpArgs false
open Go.RowKit Go.Proofs.YtgfjagbcdjmgkaaW.PrintWords Go.Proofs.YtgfjagbcdjmgkaaW.PrintMore

/-- What BloomSizes asks of a filter. -/
theorem sizes_facts (keys : List (List Int)) (bits : Int) (hn : keys.length ≤ 60) (h0 : 1 ≤ bits) (h1 : bits ≤ 40) :
    ∃ K : Nat, 1 ≤ K ∧ K ≤ 30 ∧ lastB (buildL keys bits) = K ∧ 9 ≤ (buildL keys bits).length ∧ (buildL keys bits).length ≤ 301 ∧ Bytes (buildL keys bits) ∧
      ((buildL keys bits).length : Int) = (mx ((keys.length : Int) * bits) 64 + 7) / 8 + 1 ∧ (cnt (buildL keys bits) (8 * ((buildL keys bits).length - 1)) : Int) ≤ (K : Int) * (keys.length : Int) ∧
      (K : Int) * (keys.length : Int) ≤ 1800 ∧ 0 ≤ (keys.length : Int) * bits ∧ (keys.length : Int) * bits ≤ 2400 := by
  have hb : bBits bits = bits := by unfold bBits mn mx; split <;> split <;> omega
  obtain ⟨N, K, hN0, hN, hK0, hK, eN, eK, _, _, hFl, hFb, hFlast⟩ := build_is keys bits hn
  have hc := cnt_build keys bits hn N K hFl eK
  have hbn := bN_in keys.length (bBits bits) (by omega) (by omega) hn
  have hk : K * keys.length ≤ 30 * 60 := Nat.mul_le_mul hK hn
  rw [hb] at eN hbn
  unfold bN at eN
  have e8 : (buildL keys bits).length - 1 = N := by omega
  refine ⟨K, hK0, hK, hFlast, by omega, by omega, hFb, by omega, ?_, ?_, hbn.2.2.1, hbn.2.2.2⟩
  · rw [e8, ← Int.natCast_mul]; omega
  · rw [← Int.natCast_mul]; omega

theorem cnt_le (f : List Int) (n : Nat) : cnt f n ≤ n := by
  induction n with
  | zero => simp [cnt]
  | succ n ih => unfold cnt; split <;> omega

theorem bit_val {f : List Int} (hb : Bytes f) (i j : Nat) (hj : j < 8) : Go.bits .and .u8 (rd f i / 2 ^ j) 1 = if hasBit f ((8 * i + j : Nat) : Int) = true then 1 else 0 := by
  have h := hb.rd i
  have hp : (0 : Int) < 2 ^ j := Int.pow_pos (by omega)
  have h0 : 0 ≤ rd f i / 2 ^ j := Int.ediv_nonneg h.1 (by omega)
  have h1 : rd f i / 2 ^ j < 256 := Int.lt_of_le_of_lt (Int.ediv_le_self _ h.1) h.2
  have e1 : ((8 * i + j : Nat) : Int) / 8 = i := by omega
  have e2 : (((8 * i + j : Nat) : Int) % 8).toNat = j := by omega
  unfold hasBit
  rw [e1, e2, and_one h0 h1]
  have : rd f i / 2 ^ j % 2 = 0 ∨ rd f i / 2 ^ j % 2 = 1 := by omega
  rcases this with q | q <;> rw [q] <;> simp

set_option maxHeartbeats 1600000 in
theorem bloomSizes_walk (A : Option Addr) (c : Nat) (keys : List (List Int)) (bits : Int) (w : World) (hr : Kd.C (Kd.slice 5 (Kd.int .u8)) w A keys.length keys) (hbt : ∀ r ∈ keys, Bytes r) (hc : keys.length ≤ c) :
    Calls Try.prog 6 #[.slice A keys.length c, .int .i64 bits] w fun e w' => e = .returned (.bool true) ∧ Below w.heap.size w w' := by
  have hm := hr.2.1
  have HR := Lib.hid hr
  clear hr hbt
  by_cases hin : bigB keys = false ∧ 1 ≤ bits ∧ bits ≤ 40
  · obtain ⟨hbig, hb0, hb1⟩ := hin
    have hn : keys.length ≤ 60 := by
      unfold bigB at hbig
      rw [Bool.or_eq_false_iff] at hbig
      have := hbig.2
      simp at this; exact this
    have hbig' := Lib.hid hbig
    clear hbig
    obtain ⟨K, hK0, hK, hlast, hF9, hF301, hFb, hFl, hcnt, hK18, hp0, hp1⟩ := sizes_facts keys bits hn hb0 hb1
    have HLAST := Lib.hid hlast
    have HFB := Lib.hid hFb
    have HFL := Lib.hid hFl
    clear hlast hFb hFl
    go_enter Try.func6, Try.ntmps6
    go_wp2_with fail
    refine (alive12 _).mono ?_
    rintro e w1 ⟨rfl, hB1⟩
    have hz1 := hB1.size
    have hr1 := Lib.hid (Kd.C_below HR.out hB1)
    go_wp2_with fail
    refine (big_any _ _ _ _ hr1.out hc).mono ?_
    rintro e w2 ⟨rfl, hB2⟩
    rw [hbig'.out]
    have hr2 := Lib.hid (Kd.C_below hr1.out hB2)
    have hb2 : Below w.heap.size w w2 := hB1.trans (hB2.mono hz1)
    have hz2 := hb2.size
    clear hr1 hB2 hB1
    go_wp2_with fail
    refine (build_any _ _ _ _ _ hr2.out hn).mono ?_
    rintro e w3 ⟨gf, rfl, hgf, hf, hB3⟩
    have hb3 : Below w.heap.size w w3 := hb2.trans (hB3.mono hz2)
    clear hr2 hB3
    generalize hFF : buildL keys bits = F at *
    clear hFF
    have hcf := hf.cell (F.length - 1) (by omega)
    have e1 : F.getD (F.length - 1) 0 = (K : Int) := by rw [← HLAST.out]; unfold lastB rd; congr 1; omega
    rw [e1] at hcf
    clear e1
    have hne : ((F.length : Int) != (mx ((keys.length : Int) * bits) 64 + 7) / 8 + 1) = false := by rw [HFL.out]; simp
    unfold mx at hne
    have hL1 : F.length - 1 < 301 := by omega
    have HCNT := Lib.hid hcnt
    clear hcnt
    have hcase : ((keys.length : Int) * bits < 64 ∧ ((F.length : Int) != (64 + 7) / 8 + 1) = false) ∨ (¬ (keys.length : Int) * bits < 64 ∧ ((F.length : Int) != ((keys.length : Int) * bits + 7) / 8 + 1) = false) := by
      by_cases h : (keys.length : Int) * bits < 64
      · rw [if_pos h] at hne; exact Or.inl ⟨h, hne⟩
      · rw [if_neg h] at hne; exact Or.inr ⟨h, hne⟩
    clear hne
    rcases hcase with ⟨hlt64, hne⟩ | ⟨hlt64, hne⟩
    all_goals
      go_wp2_with fail
      go_loop [10, 11, 12] (fun n i _ => ∃ (k : Nat), k ≤ F.length - 1 ∧ i = .int .i64 k ∧ n = .int .i64 (cnt F (8 * k))) (fun _ i _ => F.length - (intOf i).toNat)
      case atStart => exact ⟨0, Nat.zero_le _, rfl, rfl⟩
      case round =>
        obtain ⟨k, hk, rfl, rfl⟩ := hrel
        have hcl := cnt_le F (8 * k)
        by_cases hkl : k < F.length - 1
        · have hkl' : (k : Int) < (F.length : Int) - 1 := by omega
          have hx := hf.cell k (by omega)
          have hxe : F.getD k 0 = rd F k := by unfold rd; rw [Int.toNat_natCast]
          rw [hxe] at hx
          clear hxe
          go_wp2_with fail
          go_loop [10, 12] (fun n i => ∃ (j : Nat), j ≤ 8 ∧ i = .int .i64 j ∧ n = .int .i64 (cnt F (8 * k + j))) (fun _ i => 8 - (intOf i).toNat)
          case atStart => exact ⟨0, Nat.zero_le _, rfl, rfl⟩
          case round =>
            obtain ⟨j, hj, rfl, rfl⟩ := hrel
            have hcj := cnt_le F (8 * k + j)
            by_cases hj8 : j < 8
            · have hbv := bit_val HFB.out k j hj8
              obtain ⟨q, hq⟩ : ∃ q : Nat, (if hasBit F ((8 * k + j : Nat) : Int) = true then 1 else 0) = q := ⟨_, rfl⟩
              have hq1 : q ≤ 1 := by rw [← hq]; split <;> omega
              have hbq : Go.bits .and .u8 (rd F k / 2 ^ j) 1 = (q : Int) := by rw [hbv, ← hq]; split <;> rfl
              have HS : Hid (cnt F (8 * k + (j + 1)) = cnt F (8 * k + j) + q) := by
                show cnt F (8 * k + j + 1) = _
                rw [cnt, hq]
              clear hbv hq
              go_wp2_with fail
              go_round
              case rel => exact ⟨j + 1, by omega, by go_num, by rw [HS.out]; go_num⟩
              case measure => simp [intOf]; omega
            · have hj8' : j = 8 := by omega
              subst hj8'
              clear hj hj8
              go_wp2_with fail
              go_round
              case rel => exact ⟨k + 1, by omega, by go_num, rfl⟩
              case measure => simp [intOf]; omega
        · have hke : k = F.length - 1 := by omega
          have hcnt2 : (cnt F (8 * k) : Int) ≤ (K : Int) * (keys.length : Int) := by rw [hke]; exact HCNT.out
          have hkl' : ¬ ((k : Int) < (F.length : Int) - 1) := by omega
          have hk0 : 0 ≤ (K : Int) * (keys.length : Int) := by omega
          clear hke
          go_wp2_with fail
          go_ret
          exact ⟨rfl, hb3⟩
  · have hwhy : bigB keys = true ∨ bits < 1 ∨ 40 < bits := by
      cases hb : bigB keys
      · right
        by_cases h : bits < 1
        · exact Or.inl h
        · by_cases h' : 40 < bits
          · exact Or.inr h'
          · exact absurd ⟨hb, by omega, by omega⟩ hin
      · exact Or.inl rfl
    clear hin
    rcases hwhy with hbig | hwhy | hwhy
    · go_enter Try.func6, Try.ntmps6
      go_wp2_with fail
      refine (alive12 _).mono ?_
      rintro e w1 ⟨rfl, hB1⟩
      have hz1 := hB1.size
      have hr1 := Lib.hid (Kd.C_below HR.out hB1)
      go_wp2_with fail
      refine (big_any _ _ _ _ hr1.out hc).mono ?_
      rintro e w2 ⟨rfl, hB2⟩
      rw [hbig]
      have hb2 : Below w.heap.size w w2 := hB1.trans (hB2.mono hz1)
      go_wp2
      go_ret
      exact ⟨rfl, hb2⟩
    all_goals
      cases hbig : bigB keys
      all_goals
        have hbig' := Lib.hid hbig
        clear hbig
        go_enter Try.func6, Try.ntmps6
        go_wp2_with fail
        refine (alive12 _).mono ?_
        rintro e w1 ⟨rfl, hB1⟩
        have hz1 := hB1.size
        have hr1 := Lib.hid (Kd.C_below HR.out hB1)
        go_wp2_with fail
        refine (big_any _ _ _ _ hr1.out hc).mono ?_
        rintro e w2 ⟨rfl, hB2⟩
        rw [hbig'.out]
        have hb2 : Below w.heap.size w w2 := hB1.trans (hB2.mono hz1)
        go_wp2
        go_ret
        exact ⟨rfl, hb2⟩

theorem bloomSizes_row (A : Option Addr) (c : Nat) (keys : List (List Int)) (bits : Int) {w : World} (hr : Kd.C (Kd.slice 5 (Kd.int .u8)) w A keys.length keys) (hbt : ∀ r ∈ keys, Bytes r) (hc : keys.length ≤ c) (_ : (Lit.int .i64 bits).wf = true) (W : World) (e : w = W) :
    Calls Try.prog 6 #[.slice A keys.length c, .int .i64 bits] W fun e w' => e = .returned (.bool true) ∧ Below W.heap.size W w' := by
  subst e; exact bloomSizes_walk A c keys bits w hr hbt hc

end Go.Proofs.Ytgfjagbcdjmgkaa
