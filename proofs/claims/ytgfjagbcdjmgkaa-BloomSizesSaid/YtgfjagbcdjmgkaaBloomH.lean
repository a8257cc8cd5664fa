/- The walk of BloomBuilds: the filter is the reference's to the byte, it lets each of its keys, and the hashes are one. -/
import Derived.Test.YtgfjagbcdjmgkaaBloomF
import Derived.Deep.RegionWith
import Derived.Laws.BytesArg
namespace Go.Proofs.Ytgfjagbcdjmgkaa
set_option linter.unusedVariables false
set_option linter.unusedSimpArgs false
open Go.RowKit Go.Proofs.YtgfjagbcdjmgkaaW.PrintWords

/-- Are keys too many, or too long? -/
def bigB (keys : List (List Int)) : Bool := (keys.any fun r => decide (200 < r.length)) || decide (60 < keys.length)

theorem big_soon (keys : List (List Int)) (hn : keys.length ≤ 9223372036854775807) : Soon (fun k => PBloomBuilds.butterylaw12_big.f k keys) (bigB keys) := by
  have key : ∀ (q i : Nat), i + q = keys.length → Soon (fun k => PBloomBuilds.butterylaw12_big.l0 k keys (i : Int)) (((keys.drop i).any fun r => decide (200 < r.length)) || decide (60 < keys.length)) := by
    intro q
    induction q with
    | zero =>
      intro i hi
      refine Soon.now fun k => ?_
      show PBloomBuilds.butterylaw12_big.l0 (k + 1) keys (i : Int) = _
      rw [PBloomBuilds.butterylaw12_big.l0, if_neg (by omega), List.drop_of_length_le (by omega), List.any_nil, Bool.false_or]
      congr 1
      by_cases h : 60 < keys.length
      · rw [decide_eq_true h]; exact decide_eq_true (by omega)
      · rw [decide_eq_false h]; exact decide_eq_false (by omega)
    | succ q ih =>
      intro i hi
      have hlt : i < keys.length := by omega
      have e1 : PBloomBuilds.rd_L1 keys (i : Int) = keys[i] := by unfold PBloomBuilds.rd_L1; simp [hlt]
      have e2 : keys.drop i = keys[i] :: keys.drop (i + 1) := List.drop_eq_getElem_cons hlt
      by_cases h : 200 < keys[i].length
      · refine Soon.now fun k => ?_
        show PBloomBuilds.butterylaw12_big.l0 (k + 1) keys (i : Int) = _
        rw [PBloomBuilds.butterylaw12_big.l0, if_pos (by omega), if_pos (by omega), e1, if_pos (by omega), e2, List.any_cons, decide_eq_true h, Bool.true_or, Bool.true_or]
      · rw [e2, List.any_cons, decide_eq_false h, Bool.false_or]
        refine (ih (i + 1) (by omega)).next fun k => ?_
        show PBloomBuilds.butterylaw12_big.l0 (k + 1) keys (i : Int) = _
        rw [PBloomBuilds.butterylaw12_big.l0, if_pos (by omega), if_pos (by omega), e1, if_neg (by omega), wrap_next hlt hn]
  exact key keys.length 0 (by omega)

theorem big_any (A : Option Addr) (c : Nat) (keys : List (List Int)) (w : World) (hr : Kd.C (Kd.slice 5 (Kd.int .u8)) w A keys.length keys) (hc : keys.length ≤ c) :
    Calls Try.prog 15 #[.slice A keys.length c] w fun e w' => e = .returned (.bool (bigB keys)) ∧ Below w.heap.size w w' := by
  obtain ⟨K, hK⟩ := big_soon keys hr.2.1
  exact (PBloomBuilds.butterylaw12_big.calls K A c keys _ w hr hc (hK K (Nat.le_refl _))).mono fun e w' ⟨he, hd⟩ => ⟨he, hd.below⟩

theorem ref_any (A : Option Addr) (c : Nat) (keys : List (List Int)) (bits : Int) (w : World) (hr : Kd.C (Kd.slice 5 (Kd.int .u8)) w A keys.length keys) (hc : keys.length ≤ c) (hn : keys.length ≤ 60) :
    Calls Try.prog 17 #[.slice A keys.length c, .int .i64 bits] w fun e w' => ∃ g c2, e = .returned (.slice (some ⟨g, 0, none⟩) (buildL keys bits).length c2) ∧ ReadsInt w' .u8 (some ⟨g, 0, none⟩) (buildL keys bits).length (buildL keys bits) ∧ Below w.heap.size w w' := by
  have hx : ∀ x, x ∈ keys → x.length ≤ 9223372036854775807 := by
    intro x hx
    obtain ⟨i, hi, rfl⟩ := List.getElem_of_mem hx
    obtain ⟨_, _, _, _, _, _, h⟩ := row_at hr i hi
    exact h.2.1
  obtain ⟨K, hK⟩ := ref_soon keys bits hn hx
  exact (PBloomBuilds.butteryref9_Bloom.calls K A c keys bits _ w hr hc (hK K (Nat.le_refl _))).mono fun e w' ⟨v0, he, hR, hb⟩ => by
    obtain ⟨A2, c2, rfl, _, hC⟩ := Kd.R_reads hR
    obtain ⟨inner, ho⟩ := Kd.R_own hR
    obtain ⟨N, K', hN0, _, _, _, _, _, _, _, hl, _, _⟩ := build_is keys bits hn
    rcases ho.2 with ⟨hv, h0⟩ | ⟨g, cap, cur, hv, _⟩
    · omega
    · injection hv with hA _ _
      subst hA
      exact ⟨g, c2, he, ints_of_C hC, hb⟩

theorem conv_str {W : World} {f : List Int} {g c : Nat} (h : ReadsInt W .u8 (some ⟨g, 0, none⟩) f.length f) : (convert 25 9 (.slice (some ⟨g, 0, none⟩) f.length c)).run Try.prog W = .ok (.string (strOfNums f)) W :=
  run_convert_bytes_arg (P := Try.prog) W 25 5 Try.underlying25 Try.underlying5 g 0 f.length c f rfl (fun i hi => by
    obtain ⟨ad, e, hc⟩ := h.2.2 (by omega)
    injection e with e
    subst e
    have := hc i hi
    rw [add_plain] at this
    rw [Nat.zero_add]; exact this) 9 Try.underlying9

set_option maxHeartbeats 1600000 in
theorem bloomBuilds_walk (A : Option Addr) (c : Nat) (keys : List (List Int)) (bits : Int) (w : World) (hr : Kd.C (Kd.slice 5 (Kd.int .u8)) w A keys.length keys) (hbt : ∀ r ∈ keys, Bytes r) (hc : keys.length ≤ c) :
    Calls Try.prog 3 #[.slice A keys.length c, .int .i64 bits] w fun e w' => e = .returned (.bool true) ∧ Below w.heap.size w w' := by
  have hm := hr.2.1
  have HR := Lib.hid hr
  have HBT := Lib.hid hbt
  clear hr hbt
  cases hbig : bigB keys
  · have hn : keys.length ≤ 60 := by
      unfold bigB at hbig
      rw [Bool.or_eq_false_iff] at hbig
      have := hbig.2
      simp at this; exact this
    have hbig' := Lib.hid hbig
    clear hbig
    go_enter Try.func3, Try.ntmps3
    go_wp2_with fail
    refine (alive12 _).mono ?_
    rintro e w1 ⟨rfl, hB1⟩
    have hz1 := hB1.size
    have hr1 := Lib.hid (Kd.C_below HR.out hB1)
    go_wp2_with fail
    refine (big_any _ _ _ _ hr1.out hc).mono ?_
    rintro e w2 ⟨rfl, hB2⟩
    rw [hbig'.out]
    have hr2 := Lib.hid (Kd.C_below hr1.out hB2)
    have hb2 : Below w.heap.size w w2 := hB1.trans (hB2.mono hz1)
    have hz2 := hb2.size
    clear hr1 hB2 hB1
    go_wp2_with fail
    refine (build_any _ _ _ _ _ hr2.out hn).mono ?_
    rintro e w3 ⟨g, rfl, hg, hf, hB3⟩
    have hr3 := Lib.hid (Kd.C_below hr2.out hB3)
    have hb3 : Below w.heap.size w w3 := hb2.trans (hB3.mono hz2)
    have hz3 := hb3.size
    have hL := build_len keys bits hn
    have hBF := Lib.hid (build_bytes keys bits hn)
    have hMay := Lib.hid (may_build keys bits hn)
    clear hr2 hB3
    have hRef := Lib.hid (ref_any A c keys bits w3.drew hr3.out hc hn)
    have hcv := conv_str (W := w3.drew) (c := (buildL keys bits).length) (hf.reads (by omega))
    generalize buildL keys bits = f at *
    go_wp2_with fail
    go_region_with (go_at_call 17; refine hRef.out.mono ?_; rintro e w4 ⟨g4, c4, rfl, hf4, hB4⟩; have hcv4 := conv_str (W := w4) (c := c4) hf4; have hff := Filt.below (w := w3.drew) hf hB4; have hcv5 := conv_str (W := w4) (c := f.length) (hff.reads (by omega)))
    all_goals
      clear hRef hcv hcv4 hcv5 hf4 hf
      have hb4 : Below w.heap.size w w4 := Below.trans (c := w4) (Below.drew hb3) (Below.mono hB4 hz3)
      clear hB4
      go_wp2_with fail
      go_loopw [8] (fun i wr => ∃ (k : Nat), k ≤ keys.length ∧ i = .int .i64 k ∧ Filt wr g f ∧ Below w.heap.size w wr) (fun i _ => keys.length - (intOf i).toNat)
      case atStart => exact ⟨0, Nat.zero_le _, rfl, hff, hb4⟩
      case round =>
        clear hff hb4
        obtain ⟨k, hk, rfl, hfr, hbr⟩ := hrel
        have hzr := hbr.size
        by_cases hlt : k < keys.length
        · obtain ⟨ad, A0, c0, rfl, hcell0, hc0, hkey0⟩ := row_at HR.out k hlt
          have hcell := pw_cell_below hbr hcell0
          have hk' : ReadsInt wr.drew .u8 A0 keys[k].length keys[k] := (hkey0.below hbr : ReadsInt wr .u8 A0 keys[k].length keys[k])
          have hf' : ReadsInt wr.drew .u8 (some ⟨g, 0, none⟩) f.length f := (hfr.reads (by omega) : ReadsInt wr .u8 (some ⟨g, 0, none⟩) f.length f)
          have hcelld : wr.drew.cell? (ad.add k) = some (.slice A0 keys[k].length c0) := hcell
          have hk0 : (0 : Int) ≤ (k : Int) := by omega
          have hk1 : (k : Int) < (keys.length : Int) := by omega
          have hmk := Lib.hid (hMay.out _ (List.getElem_mem hlt))
          clear hcell0 hkey0
          go_wp2_with fail
          go_region_held3 (fun W => W.cell? (ad.add k) = some (.slice A0 keys[k].length c0)) (first | exact hcelld | exact hcell5 | assumption) ((first | (go_at_call 18; refine (may_any _ _ _ _ f keys[k] _ hf' hBF.out (by omega) hk').mono ?_; rintro e w5 ⟨rfl, hB5⟩; rw [hmk.out]; have hcell5 := pw_cell_below (w := wr.drew) hB5 hcelld; have hk5 := hk'.below hB5; have hf5 := Filt.below (w := wr.drew) hfr hB5) | (go_at_call 19; refine (hash_any _ _ _ _ hk5).mono ?_; rintro e w' ⟨rfl, rfl⟩) | (go_at_call 20; refine (hash9_any _ _ _ _ hk5).mono ?_; rintro e w' ⟨rfl, rfl⟩)))
          go_wp2_with fail
          go_roundw
          case rel => exact ⟨k + 1, by omega, by go_num, hf5, hbr.trans (Below.mono (w := wr) ⟨hB5.os, hB5.tape, hB5.output, hB5.size, hB5.block⟩ hzr)⟩
          case measure => simp [intOf]; omega
        · go_wp2_with fail
          go_ret
          exact ⟨rfl, hbr⟩
  · go_enter Try.func3, Try.ntmps3
    go_wp2_with fail
    refine (alive12 _).mono ?_
    rintro e w1 ⟨rfl, hB1⟩
    have hz1 := hB1.size
    have hr1 := Lib.hid (Kd.C_below HR.out hB1)
    go_wp2_with fail
    refine (big_any _ _ _ _ hr1.out hc).mono ?_
    rintro e w2 ⟨rfl, hB2⟩
    rw [hbig]
    have hb2 : Below w.heap.size w w2 := hB1.trans (hB2.mono hz1)
    go_wp2
    go_ret
    exact ⟨rfl, hb2⟩

theorem bloomBuilds_row (A : Option Addr) (c : Nat) (keys : List (List Int)) (bits : Int) {w : World} (hr : Kd.C (Kd.slice 5 (Kd.int .u8)) w A keys.length keys) (hbt : ∀ r ∈ keys, Bytes r) (hc : keys.length ≤ c) (_ : (Lit.int .i64 bits).wf = true) (W : World) (e : w = W) :
    Calls Try.prog 3 #[.slice A keys.length c, .int .i64 bits] W fun e w' => e = .returned (.bool true) ∧ Below W.heap.size W w' := by
  subst e; exact bloomBuilds_walk A c keys bits w hr hbt hc

end Go.Proofs.Ytgfjagbcdjmgkaa
