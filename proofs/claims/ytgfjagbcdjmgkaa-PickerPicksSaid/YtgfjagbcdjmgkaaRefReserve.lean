/- What the reference's Reserve answers: the same charge. -/
import Derived.Test.YtgfjagbcdjmgkaaRefPure
import Derived.Test.YtgfjagbcdjmgkaaReservePickerPicks
import Derived.Test.YtgfjagbcdjmgkaaBudgetA
namespace Go.Proofs.Ytgfjagbcdjmgkaa.PPickerPicks
open Go.RowKit Go.Proofs.YtgfjagbcdjmgkaaW.PrintWords Go.Proofs.YtgfjagbcdjmgkaaW.PrintLast Go.Proofs.YtgfjagbcdjmgkaaW.PrintMore
set_option linter.unusedVariables false
set_option linter.unusedSimpArgs false

theorem part_nought (l : List S51) (p : Nat) (h : p ≤ l.length) : part l p 0 = 0 := by
  unfold part
  rw [List.drop_eq_nil_of_le (by rw [List.length_take]; omega)]
  rfl
theorem part_succ (l : List S51) (p j : Nat) (h : p + j < l.length) : part l p (j + 1) = part l p j + sz l[p + j].f1 := by
  unfold part
  rw [show p + (j + 1) = p + j + 1 by omega, List.take_succ_eq_append_getElem h, List.drop_append_of_le_length (by rw [List.length_take]; omega)]
  simp [szs]

theorem refReserve_yes (A : Option Addr) (cap : Nat) (l : List S51) (y0 : Int) (p q : Nat) (w : World) (hr : Kd.C k51 w A l.length l) (hc : l.length ≤ cap) (hl : l.length ≤ 1000) (hpq : p + q ≤ l.length) :
    Calls Try.prog 43 #[.slice A l.length cap, .agg #[.int .i64 y0, .int .i64 (p : Int), .int .i64 (q : Int)]] w
      fun e w' => e = .returned (.complex .f64 (floatOfInt .f64 (part l p q + 64 * q)) (floatOfInt .f64 ((q : Int) + 1))) ∧ Below w.heap.size w w' := by
  have HR := Lib.hid hr
  have hpart := Lib.hid (part_in l p q hpq)
  have HQ := Lib.hid hpq
  have g3' : ¬ (l.length < p) := by omega
  have e5 := wi' ((l.length : Int) - (p : Int)) (by omega)
  have g4' : ¬ ((l.length : Int) - (p : Int) < (q : Int)) := by omega
  have e1 := wi' ((p : Int) + (q : Int)) (by omega)
  have e2 := wi' (64 * (q : Int)) (by omega)
  have e4 := wi' ((q : Int) + 1) (by omega)
  clear hr hc
  go_enter Try.func43, Try.ntmps43
  go_wp2
  have hb0 := Lib.hid (show Below w.heap.size w (w.alloc (.cells #[.int .i64 y0, .int .i64 (p : Int), .int .i64 (q : Int)] 47)) from below_alloc (Below.refl _ _) _)
  have hlt0 : w.heap.size < (w.alloc (.cells #[.int .i64 y0, .int .i64 (p : Int), .int .i64 (q : Int)] 47)).heap.size := by simp
  have k1 := Lib.hid (show (w.alloc (.cells #[.int .i64 y0, .int .i64 (p : Int), .int .i64 (q : Int)] 47)).cell? ⟨w.heap.size, 1, none⟩ = some (.int .i64 (p : Int)) by go_cell)
  have k2 := Lib.hid (show (w.alloc (.cells #[.int .i64 y0, .int .i64 (p : Int), .int .i64 (q : Int)] 47)).cell? ⟨w.heap.size, 2, none⟩ = some (.int .i64 (q : Int)) by go_cell)
  have HR1 := Lib.hid (Kd.C_alloc HR.out (.cells #[.int .i64 y0, .int .i64 (p : Int), .int .i64 (q : Int)] 47))
  generalize w.alloc (.cells #[.int .i64 y0, .int .i64 (p : Int), .int .i64 (q : Int)] 47) = W0 at *
  go_loopw [5, 6] (fun n i wr => ∃ j : Nat, j ≤ q ∧ i = .int .i64 ((p + j : Nat) : Int) ∧ n = .int .i64 (64 * (q : Int) + part l p j) ∧ Below W0.heap.size W0 wr) (fun _ i _ => p + q - (intOf i).toNat)
  case atStart => exact ⟨0, Nat.zero_le _, rfl, by rw [part_nought l p (by omega)]; go_num, Below.refl _ _⟩
  case round =>
    obtain ⟨j, hj, rfl, rfl, hB⟩ := hrel
    have c1 := (hB.cell (p := ⟨w.heap.size, 1, none⟩) hlt0).trans k1.out
    have c2 := (hB.cell (p := ⟨w.heap.size, 2, none⟩) hlt0).trans k2.out
    by_cases hlt : j < q
    · have hi : p + j < l.length := by omega
      have hlt' : ((p + j : Nat) : Int) < (p : Int) + (q : Int) := by omega
      have hpj := part_in l p j (by omega)
      have hs := Lib.hid (part_succ l p j hi)
      have hz := sz_in l[p + j].f1
      obtain ⟨ad, A3, c3, A4, c4, ea, x0, x1, x2, x3, x4, x5, l3, r3, l4, r4⟩ := at_T51 (Kd.C_below HR1.out hB) ((p + j : Nat) : Int) (by omega) (by omega)
      subst ea
      rw [rdT_at hi] at x0 x1 x2 x3 x4 x5 l3 r3 l4 r4
      rw [Int.toNat_natCast] at x0 x1 x2 x3 x4 x5
      have e10 := wi' (64 * (q : Int) + part l p j + sz l[p + j].f1) (by omega)
      have F := Lib.hid (bytes_f l[p + j].f0 l[p + j].f1 l[p + j].f2 l[p + j].f3 l[p + j].f4 l[p + j].f5)
      have R3 := Lib.hid (And.intro r3 l3)
      have R4 := Lib.hid (And.intro r4 l4)
      clear r3 l3 r4 l4
      generalize l[p + j] = z at *
      go_wp2_with fail
      refine (butteryref16_bytes.calls z.f0 z.f1 z.f2 A3 c3 z.f3 A4 c4 z.f4 z.f5 (sz z.f1) _ R3.out.1 R3.out.2 R4.out.1 R4.out.2 F.out).mono ?_
      rintro e w5 ⟨rfl, hB5⟩
      go_wp2_with fail
      go_roundw
      case rel => exact ⟨j + 1, by omega, by go_num, by rw [hs.out]; go_num, below_step hB hB5⟩
      case measure => simp [intOf]; omega
    · have hjq : j = q := by omega
      subst hjq
      have hlt' : ¬ (((p + j : Nat) : Int) < (p : Int) + (j : Int)) := by omega
      go_wp2_with fail
      have hp := hpart.out
      refine (of1_yes (x := 64 * (j : Int) + part l p j) (y := (j : Int) + 1) ⟨by omega, by omega⟩ ⟨by omega, by omega⟩ _).mono ?_
      rintro e w4 ⟨rfl, rfl⟩
      go_wp2_with fail
      go_ret
      rw [Int.add_comm (64 * (j : Int)) (part l p j)]
      exact ⟨rfl, below_step hb0.out hB⟩

theorem refReserve_no (A : Option Addr) (cap : Nat) (l : List S51) (y0 a c : Int) (w : World) (hl : l.length ≤ 1000) (h : a < 0 ∨ c < 0 ∨ (l.length : Int) < a ∨ (l.length : Int) - a < c) :
    Calls Try.prog 43 #[.slice A l.length cap, .agg #[.int .i64 y0, .int .i64 a, .int .i64 c]] w
      fun e w' => e = .returned (.complex .f64 0 0) ∧ Below w.heap.size w w' := by
  have HH := Lib.hid h
  clear h
  by_cases h1 : a < 0
  · go_enter Try.func43, Try.ntmps43
    go_wp2
    go_ret
    exact ⟨rfl, below_alloc (Below.refl _ _) _⟩
  · by_cases h2 : c < 0
    · go_enter Try.func43, Try.ntmps43
      go_wp2
      go_ret
      exact ⟨rfl, below_alloc (Below.refl _ _) _⟩
    · by_cases h3 : (l.length : Int) < a
      · go_enter Try.func43, Try.ntmps43
        go_wp2
        go_ret
        exact ⟨rfl, below_alloc (Below.refl _ _) _⟩
      · have h4 : (l.length : Int) - a < c := by have := HH.out; omega
        have e5 := wi' ((l.length : Int) - a) (by omega)
        go_enter Try.func43, Try.ntmps43
        go_wp2
        go_ret
        exact ⟨rfl, below_alloc (Below.refl _ _) _⟩

end Go.Proofs.Ytgfjagbcdjmgkaa.PPickerPicks
