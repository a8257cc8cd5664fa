/- Chapter 12's example (alive), and what the laws ask first (big). -/
import Derived.Test.YtgfjagbcdjmgkaaBloomE
import Derived.Lib.SlBytesConst
namespace Go.Proofs.Ytgfjagbcdjmgkaa
set_option linter.unusedVariables false
set_option linter.unusedSimpArgs false
open Go.RowKit Go.Proofs.YtgfjagbcdjmgkaaW.PrintWords

theorem rows_mk {w : World} {A : Option Addr} {xs : List (List Int)} (hl : xs.length ≤ 9223372036854775807)
    (h : ∀ i (hi : i < xs.length), ∃ ad A0 c0, A = some ad ∧ w.cell? (ad.add i) = some (.slice A0 xs[i].length c0) ∧ xs[i].length ≤ c0 ∧ ReadsInt w .u8 A0 xs[i].length xs[i]) :
    Kd.C (Kd.slice 5 (Kd.int .u8)) w A xs.length xs := by
  refine ⟨rfl, hl, fun hn => ?_⟩
  obtain ⟨ad, _, _, e, _⟩ := h 0 hn
  refine ⟨ad, e, fun j p hj => ?_⟩
  obtain ⟨hj', rfl⟩ := List.getElem?_eq_some_iff.1 hj
  obtain ⟨ad', A0, c0, e', hc, hc0, hr⟩ := h j hj'
  obtain rfl : ad = ad' := by rw [e] at e'; injection e'
  refine ⟨[.slice A0 xs[j].length c0], rfl, ⟨A0, c0, rfl, hc0, C_of_ints hr⟩, fun i u hu => ?_⟩
  match i with
  | 0 =>
    have hu' : Value.slice A0 xs[j].length c0 = u := by simpa using hu
    rw [← hu', Nat.add_zero]
    show w.cell? (ad.add (j * 1)) = _
    rw [Nat.mul_one]; exact hc
  | i + 1 => simp at hu

theorem rows_nil (w : World) : Kd.C (Kd.slice 5 (Kd.int .u8)) w none ([] : List (List Int)).length [] := rows_mk (by simp) (fun i hi => absurd hi (by simp))

theorem Filt.reads {w : World} {g : Nat} {f : List Int} (h : Filt w g f) (hl : f.length ≤ 9223372036854775807) : ReadsInt w .u8 (some ⟨g, 0, none⟩) f.length f :=
  ⟨rfl, hl, fun hn => ⟨_, rfl, fun j hj => by rw [add_plain]; exact h.cell j hj⟩⟩
theorem Filt.lt {w : World} {g : Nat} {f : List Int} (h : Filt w g f) : g < w.heap.size := (Array.getElem?_eq_some_iff.1 h).1
theorem Filt.below {w w' : World} {g : Nat} {f : List Int} (h : Filt w g f) (hb : Below w.heap.size w w') : Filt w' g f := (hb.block g h.lt).trans h

theorem build_len (keys : List (List Int)) (bits : Int) (hn : keys.length ≤ 60) : (buildL keys bits).length ≤ 301 := by
  obtain ⟨N, K, hN0, hN, hK0, hK, _, _, _, e1, hl, hbt, hlast⟩ := build_is keys bits hn
  omega

theorem build_bytes (keys : List (List Int)) (bits : Int) (hn : keys.length ≤ 60) : Bytes (buildL keys bits) := by
  obtain ⟨N, K, hN0, hN, hK0, hK, _, _, _, e1, hl, hbt, hlast⟩ := build_is keys bits hn
  exact hbt

theorem alive_may : mayF (buildL [] 10) [97] = false := by decide +kernel
theorem alive_len : (buildL [] 10).length = 9 := by decide +kernel

theorem lit_ints (W : World) : ReadsInt (W.alloc (.cells #[.int .u8 97] 5 (1, 2))) .u8 (some ⟨W.heap.size, 0, none⟩) [(97 : Int)].length [97] :=
  ⟨rfl, by simp, fun _ => ⟨_, rfl, fun j hj => by
    have hj' : j < 1 := hj
    obtain rfl : j = 0 := by omega
    rw [add_plain, World.cell?_alloc_mark]; rfl⟩⟩

set_option maxHeartbeats 800000 in
theorem alive12 (w : World) : Calls Try.prog 14 #[] w fun e w' => e = .returned (.bool true) ∧ Below w.heap.size w w' := by
  have kc := fun (w : World) (C : Array Value) (n c : Nat) => Lib.run_convert_bytes_const (P := Try.prog) w 25 5 C n c Try.underlying25 Try.underlying5
  have hbt1 : Bytes (buildL [[97]] 10) := build_bytes _ _ (by simp)
  have hbt0 : Bytes (buildL [] 10) := build_bytes _ _ (by simp)
  have L1 := build_len [[97]] 10 (by simp)
  have L0 := build_len [] 10 (by simp)
  have HM1 := Lib.hid (may_build [[97]] 10 (by simp) [97] (by simp))
  have HA := Lib.hid alive_len
  have HM := Lib.hid alive_may
  go_enter Try.func14, Try.ntmps14
  go_wp2_with fail
  refine (build_any _ _ [[97]] 10 _ (rows_mk (by simp) ?_) (by simp)).mono ?_
  · intro i hi
    have hi' : i < 1 := hi
    match i, hi' with
    | 0, _ => exact ⟨⟨w.heap.size + 1, 0, none⟩, some ⟨w.heap.size, 0, none⟩, 1, rfl, by rw [add_plain]; go_cell, by simp, (lit_ints w).below (below_alloc (Below.refl _ _) _)⟩
  rintro e w1 ⟨g1, rfl, hg1, hf1, hB1⟩
  simp only [World.size_alloc] at hg1 hB1
  have hb1 : Below w.heap.size w w1 := (((Below.refl _ _).alloc (Nat.le_refl _) _).alloc (by simp) _).trans (hB1.mono (by omega))
  have hz := hb1.size
  clear hB1
  go_wp2_with fail
  refine (build_any _ _ [] 10 _ (rows_nil _) (by simp)).mono ?_
  rintro e w2 ⟨g2, rfl, hg2, hf2, hB2⟩
  rw [HA.out]
  have hf1' := hf1.below hB2
  have hb2 : Below w.heap.size w w2 := hb1.trans (hB2.mono hz)
  have hz2 := hB2.size
  clear hf1 hf2 hB2
  go_wp2_with fail
  refine (may_any _ _ _ _ _ [97] _ ((hf1'.below (below_alloc (Below.refl _ _) _)).reads (by omega)) hbt1 (by omega) (lit_ints _)).mono ?_
  rintro e w3 ⟨rfl, hB3⟩
  rw [HM1.out]
  simp only [World.size_alloc] at hB3
  have hb3 : Below w.heap.size w w3 := (hb2.alloc (by omega) _).trans (hB3.mono (by omega))
  have hz3 := hb3.size
  clear hB3 hf1'
  go_wp2_with fail
  refine (build_any _ _ [] 10 _ (rows_nil _) (by simp)).mono ?_
  rintro e w4 ⟨g4, rfl, hg4, hf4, hB4⟩
  have hb4 : Below w.heap.size w w4 := hb3.trans (hB4.mono hz3)
  have hz4 := hb4.size
  clear hB4
  go_wp2_with fail
  refine (may_any _ _ _ _ _ [97] _ ((hf4.below (below_alloc (Below.refl _ _) _)).reads (by omega)) hbt0 (by omega) (lit_ints _)).mono ?_
  rintro e w5 ⟨rfl, hB5⟩
  rw [HM.out]
  simp only [World.size_alloc] at hB5
  have hb5 : Below w.heap.size w w5 := (hb4.alloc (by omega) _).trans (hB5.mono (by omega))
  clear hB5 hf4
  go_wp2_with fail
  go_ret
  exact ⟨rfl, hb5⟩

end Go.Proofs.Ytgfjagbcdjmgkaa
