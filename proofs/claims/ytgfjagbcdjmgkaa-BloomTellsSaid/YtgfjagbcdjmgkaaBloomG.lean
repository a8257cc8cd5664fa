/- The walk of BloomTells: the program's May over a copy of the filter and the reference's May say the same. -/
import Derived.Test.YtgfjagbcdjmgkaaBloomF
namespace Go.Proofs.Ytgfjagbcdjmgkaa
set_option linter.unusedVariables false
set_option linter.unusedSimpArgs false
open Go.RowKit Go.Proofs.YtgfjagbcdjmgkaaW.PrintWords

set_option maxHeartbeats 800000 in
theorem bloomTells_walk (Af : Option Addr) (cf : Nat) (f : List Int) (A : Option Addr) (c : Nat) (key : List Int) (w : World) (hf : ReadsInt w .u8 Af f.length f) (hb : Bytes f) (hr : ReadsInt w .u8 A key.length key) (_ : Bytes key) :
    Calls Try.prog 4 #[.slice Af f.length cf, .slice A key.length c] w fun e w' => e = .returned (.bool true) ∧ Below w.heap.size w w' := by
  have m1 := hf.2.1
  have m2 := hr.2.1
  have HF := Lib.hid hf
  have HR := Lib.hid hr
  clear hf hr
  by_cases h1 : 300 < f.length
  · go_enter Try.func4, Try.ntmps4
    go_wp2_with fail
    refine (alive12 _).mono ?_
    rintro e w1 ⟨rfl, hB1⟩
    go_wp2_with fail
    go_ret
    exact ⟨rfl, hB1⟩
  · by_cases h2 : 200 < key.length
    · go_enter Try.func4, Try.ntmps4
      go_wp2_with fail
      refine (alive12 _).mono ?_
      rintro e w1 ⟨rfl, hB1⟩
      go_wp2_with fail
      go_ret
      exact ⟨rfl, hB1⟩
    · go_enter Try.func4, Try.ntmps4
      go_wp2_with fail
      refine (alive12 _).mono ?_
      rintro e w1 ⟨rfl, hB1⟩
      have hz1 := hB1.size
      have hf1 := HF.out.below hB1
      have hk1 := HR.out.below hB1
      go_wp2_with (at_builtin; refine print_append_row (w0 := w1) w1.heap.size rfl _ _ 25 5 .u8 1 rfl Try.underlying25 info5 (by decide) (.slice none 0 0) [] f Af f.length cf rfl rfl (own_nil _ _ _ _) hf1 (Below.refl _ _) (Nat.le_refl _) ?hl ?_)
      case hl => simp; omega
      intro v1 w2 hown hB2 _ _
      obtain ⟨Ag, cg, rfl, hrd⟩ := own_reads hown
      have hf2 := hf1.below hB2
      have hk2 := hk1.below hB2
      have hb2 : Below w.heap.size w w2 := hB1.trans (hB2.mono hz1)
      have hz2 := hb2.size
      clear hown hf1 hk1 hB2 hB1
      go_wp2_with fail
      refine (may_any _ _ _ _ _ _ _ hrd hb (by omega) hk2).mono ?_
      rintro e w3 ⟨rfl, hB3⟩
      have hf3 := hf2.below hB3
      have hk3 := hk2.below hB3
      have hb3 : Below w.heap.size w w3 := hb2.trans (hB3.mono hz2)
      clear hf2 hk2 hB3 hrd
      go_wp2_with fail
      refine (may9_any _ _ _ _ _ _ _ hf3 hb (by omega) hk3).mono ?_
      rintro e w4 ⟨rfl, rfl⟩
      clear hf3 hk3
      go_wp2_with fail
      go_ret
      exact ⟨ret_b (by simp), hb3⟩

theorem bloomTells_row (Af : Option Addr) (cf : Nat) (f : List Int) (A : Option Addr) (c : Nat) (key : List Int) {w : World} (hf : ReadsInt w .u8 Af f.length f) (hb : Bytes f) (hr : ReadsInt w .u8 A key.length key) (hk : Bytes key) (W : World) (e : w = W) :
    Calls Try.prog 4 #[.slice Af f.length cf, .slice A key.length c] W fun e w' => e = .returned (.bool true) ∧ Below W.heap.size W w' := by
  subst e; exact bloomTells_walk Af cf f A c key w hf hb hr hk

end Go.Proofs.Ytgfjagbcdjmgkaa
