/- PickerPicks: its walk. -/
import Derived.Test.YtgfjagbcdjmgkaaRefReserve
namespace Go.Proofs.Ytgfjagbcdjmgkaa.PPickerPicks
open Go.RowKit Go.Proofs.YtgfjagbcdjmgkaaW.PrintWords Go.Proofs.YtgfjagbcdjmgkaaW.PrintLast Go.Proofs.YtgfjagbcdjmgkaaW.PrintMore
attribute [local go_sem high] eqA47
set_option linter.unusedVariables false
set_option linter.unusedSimpArgs false

theorem reserve_any (A : Option Addr) (cap : Nat) (l : List S51) (y0 a c : Int) (hc : l.length ≤ cap) (hl : l.length ≤ 1000) :
    ∃ X Y : Nat, (FloatKind.f64.format.order X X == some .eq) = true ∧ (FloatKind.f64.format.order Y Y == some .eq) = true ∧
      (∀ W, Kd.C k51 W A l.length l → Calls Try.prog 42 #[.slice A l.length cap, .agg #[.int .i64 y0, .int .i64 a, .int .i64 c]] W fun e w' => e = .returned (.complex .f64 X Y) ∧ Below W.heap.size W w') ∧
      (∀ W, Kd.C k51 W A l.length l → Calls Try.prog 43 #[.slice A l.length cap, .agg #[.int .i64 y0, .int .i64 a, .int .i64 c]] W fun e w' => e = .returned (.complex .f64 X Y) ∧ Below W.heap.size W w') := by
  by_cases h : a < 0 ∨ c < 0 ∨ (l.length : Int) < a ∨ (l.length : Int) - a < c
  · exact ⟨0, 0, by decide, by decide, fun W _ => reserve_no A cap l y0 a c W hl h, fun W _ => refReserve_no A cap l y0 a c W hl h⟩
  · obtain ⟨p, rfl⟩ := Int.eq_ofNat_of_zero_le (show 0 ≤ a by omega)
    obtain ⟨q, rfl⟩ := Int.eq_ofNat_of_zero_le (show 0 ≤ c by omega)
    have hp := part_in l p q (by omega)
    exact ⟨_, _, same (a := part l p q + 64 * q) ⟨by omega, by omega⟩, same (a := (q : Int) + 1) ⟨by omega, by omega⟩,
      fun W hr => reserve_yes A cap l y0 p q W hr hc hl (by omega), fun W hr => refReserve_yes A cap l y0 p q W hr hc hl (by omega)⟩

theorem keepS {w W W' : World} {A : Option Addr} {n : Nat} {l : List S51} {a1 a2 a3 a4 a5 a6 a7 a8 a9 : Addr} {v1 v2 v3 v4 v5 v6 v7 v8 v9 : Value} (hB : Below W.heap.size W W')
    (h : Below w.heap.size w W ∧ Kd.C k51 W A n l ∧ W.cell? a1 = some v1 ∧ W.cell? a2 = some v2 ∧ W.cell? a3 = some v3 ∧ W.cell? a4 = some v4 ∧ W.cell? a5 = some v5 ∧ W.cell? a6 = some v6 ∧ W.cell? a7 = some v7 ∧ W.cell? a8 = some v8 ∧ W.cell? a9 = some v9) :
    Below w.heap.size w W' ∧ Kd.C k51 W' A n l ∧ W'.cell? a1 = some v1 ∧ W'.cell? a2 = some v2 ∧ W'.cell? a3 = some v3 ∧ W'.cell? a4 = some v4 ∧ W'.cell? a5 = some v5 ∧ W'.cell? a6 = some v6 ∧ W'.cell? a7 = some v7 ∧ W'.cell? a8 = some v8 ∧ W'.cell? a9 = some v9 := by
  obtain ⟨h0, hC, h1, h2, h3, h4, h5, h6, h7, h8, h9⟩ := h
  exact ⟨below_step h0 hB, Kd.C_below hC hB, pw_cell_below hB h1, pw_cell_below hB h2, pw_cell_below hB h3, pw_cell_below hB h4, pw_cell_below hB h5, pw_cell_below hB h6, pw_cell_below hB h7, pw_cell_below hB h8, pw_cell_below hB h9⟩

theorem boxes {w W1 : World} {a0 a1 a2 b0 b1 b2 : Value} {t t' : TypeId} (hB : Below ((w.alloc (.cells #[a0, a1, a2] t)).alloc (.cells #[b0, b1, b2] t')).heap.size ((w.alloc (.cells #[a0, a1, a2] t)).alloc (.cells #[b0, b1, b2] t')) W1) :
    W1.cell? ⟨w.heap.size, 0, none⟩ = some a0 ∧ W1.cell? ⟨w.heap.size, 1, none⟩ = some a1 ∧ W1.cell? ⟨w.heap.size, 2, none⟩ = some a2 ∧ W1.cell? ⟨w.heap.size + 1, 0, none⟩ = some b0 ∧ W1.cell? ⟨w.heap.size + 1, 1, none⟩ = some b1 ∧ W1.cell? ⟨w.heap.size + 1, 2, none⟩ = some b2 := by
  refine ⟨pw_cell_below hB ?_, pw_cell_below hB ?_, pw_cell_below hB ?_, pw_cell_below hB ?_, pw_cell_below hB ?_, pw_cell_below hB ?_⟩ <;> go_cell

theorem getC {w W : World} {A : Option Addr} {n : Nat} {l : List S51} {X : Prop} (h : Below w.heap.size w W ∧ Kd.C k51 W A n l ∧ X) : Kd.C k51 W A n l := h.2.1

theorem getB {w W : World} {X : Prop} (h : Below w.heap.size w W ∧ X) : Below w.heap.size w W := h.1

theorem picks_long (A : Option Addr) (c : Nat) (l : List S51) (t0 t1 t2 y0 a b : Int) (w : World) (h : 100 < l.length) :
    Calls Try.prog 12 #[.slice A l.length c, .agg #[.int .i64 t0, .int .i64 t1, .int .i64 t2], .agg #[.int .i64 y0, .int .i64 a, .int .i64 b]] w fun e w' => e = .returned (.bool true) ∧ Below w.heap.size w w' := by
  go_enter Try.func12, Try.ntmps12
  go_wp2_with fail
  refine (butterylaw19_alive.calls 20 true _ (alive_f 20 (by omega))).mono ?_
  rintro e w1 ⟨rfl, hB1⟩
  go_wp2
  go_ret
  exact ⟨rfl, below_step (below_alloc (below_alloc (Below.refl _ _) _) _) hB1⟩

set_option maxHeartbeats 1600000 in
theorem picks_short (A : Option Addr) (c : Nat) (l : List S51) (t0 t1 t2 y0 a b : Int) (w : World) (hr : Kd.C k51 w A l.length l) (hc : l.length ≤ c) (h : ¬ 100 < l.length) :
    Calls Try.prog 12 #[.slice A l.length c, .agg #[.int .i64 t0, .int .i64 t1, .int .i64 t2], .agg #[.int .i64 y0, .int .i64 a, .int .i64 b]] w fun e w' => e = .returned (.bool true) ∧ Below w.heap.size w w' := by
  have HR := Lib.hid hr
  have HC := Lib.hid hc
  have hP := Lib.hid (Pick_f l (by omega) t0 t1 t2 20000 (by omega))
  have hQ := Lib.hid (refPick_f l (by omega) t0 t1 t2 20000 (by
    have h1 : (l.length + 2) * (l.length + 3) ≤ 102 * 103 := Nat.mul_le_mul (by omega) (by omega)
    omega))
  generalize pk (szs l) (mn (mx 0 t0) 1000) (mn (mx 0 t1) 1000) (mn (mx 1 t2) 100) = r at *
  obtain ⟨r0, r1, r2⟩ := r
  obtain ⟨X, Y, sX, sY, hp1, hp2⟩ := reserve_any A c l y0 a b hc (by omega)
  obtain ⟨X2, Y2, sX2, sY2, hx1, hx2⟩ := reserve_any A c l r0 r1 r2 hc (by omega)
  have P1 := Lib.hid hp1
  have P2 := Lib.hid hp2
  have X1 := Lib.hid hx1
  have X3 := Lib.hid hx2
  clear hr hc hp1 hp2 hx1 hx2
  go_enter Try.func12, Try.ntmps12
  go_wp2_with fail
  refine (butterylaw19_alive.calls 20 true _ (alive_f 20 (by omega))).mono ?_
  rintro e w1 ⟨rfl, hB1⟩
  have hb1 := Lib.hid (below_step (below_alloc (below_alloc (Below.refl w.heap.size w) _) _) hB1)
  obtain ⟨k0, k1, k2, m0, m1, m2⟩ := boxes hB1
  have HR1 := Lib.hid (Kd.C_below (Kd.C_alloc (Kd.C_alloc HR.out _) _) hB1)
  clear hB1
  go_wp2_with fail
  refine (picker_Pick.calls 20000 A c l t0 t1 t2 r0 r1 r2 _ HR1.out HC.out hP.out).mono ?_
  rintro e w2 ⟨rfl, hB2⟩
  have hb2 := Lib.hid (below_step hb1.out hB2)
  have HR2 := Lib.hid (Kd.C_below HR1.out hB2)
  replace k0 := pw_cell_below hB2 k0
  replace k1 := pw_cell_below hB2 k1
  replace k2 := pw_cell_below hB2 k2
  replace m0 := pw_cell_below hB2 m0
  replace m1 := pw_cell_below hB2 m1
  replace m2 := pw_cell_below hB2 m2
  clear hB2
  go_wp2_with fail
  have hbw := below_alloc (Below.refl w2.heap.size w2) (.cells #[.int .i64 r0, .int .i64 r1, .int .i64 r2] 47)
  have r_0 : (w2.alloc (.cells #[.int .i64 r0, .int .i64 r1, .int .i64 r2] 47)).cell? ⟨w2.heap.size, 0, none⟩ = some (.int .i64 r0) := by go_cell
  have r_1 : (w2.alloc (.cells #[.int .i64 r0, .int .i64 r1, .int .i64 r2] 47)).cell? ⟨w2.heap.size, 1, none⟩ = some (.int .i64 r1) := by go_cell
  have r_2 : (w2.alloc (.cells #[.int .i64 r0, .int .i64 r1, .int .i64 r2] 47)).cell? ⟨w2.heap.size, 2, none⟩ = some (.int .i64 r2) := by go_cell
  replace k0 := pw_cell_below hbw k0
  replace k1 := pw_cell_below hbw k1
  replace k2 := pw_cell_below hbw k2
  replace m0 := pw_cell_below hbw m0
  replace m1 := pw_cell_below hbw m1
  replace m2 := pw_cell_below hbw m2
  have hb3 := below_step hb2.out hbw
  have HR3 := Kd.C_below HR2.out hbw
  clear hbw hb1 hb2 HR HR1 HR2
  generalize w2.alloc (.cells #[.int .i64 r0, .int .i64 r1, .int .i64 r2] 47) = W at *
  generalize w2.heap.size = g at *
  have HS0 : (fun V : World => Below w.heap.size w V ∧ Kd.C k51 V A l.length l ∧ V.cell? ⟨w.heap.size, 0, none⟩ = some (.int .i64 t0) ∧ V.cell? ⟨w.heap.size, 1, none⟩ = some (.int .i64 t1) ∧ V.cell? ⟨w.heap.size, 2, none⟩ = some (.int .i64 t2) ∧ V.cell? ⟨w.heap.size + 1, 0, none⟩ = some (.int .i64 y0) ∧ V.cell? ⟨w.heap.size + 1, 1, none⟩ = some (.int .i64 a) ∧ V.cell? ⟨w.heap.size + 1, 2, none⟩ = some (.int .i64 b) ∧ V.cell? ⟨g, 0, none⟩ = some (.int .i64 r0) ∧ V.cell? ⟨g, 1, none⟩ = some (.int .i64 r1) ∧ V.cell? ⟨g, 2, none⟩ = some (.int .i64 r2)) W.drew := ⟨hb3.drew, Kd.C_drew HR3, k0, k1, k2, m0, m1, m2, r_0, r_1, r_2⟩
  have HS : Below w.heap.size w W.drew ∧ Kd.C k51 W.drew A l.length l ∧ W.drew.cell? ⟨w.heap.size, 0, none⟩ = some (.int .i64 t0) ∧ W.drew.cell? ⟨w.heap.size, 1, none⟩ = some (.int .i64 t1) ∧ W.drew.cell? ⟨w.heap.size, 2, none⟩ = some (.int .i64 t2) ∧ W.drew.cell? ⟨w.heap.size + 1, 0, none⟩ = some (.int .i64 y0) ∧ W.drew.cell? ⟨w.heap.size + 1, 1, none⟩ = some (.int .i64 a) ∧ W.drew.cell? ⟨w.heap.size + 1, 2, none⟩ = some (.int .i64 b) ∧ W.drew.cell? ⟨g, 0, none⟩ = some (.int .i64 r0) ∧ W.drew.cell? ⟨g, 1, none⟩ = some (.int .i64 r1) ∧ W.drew.cell? ⟨g, 2, none⟩ = some (.int .i64 r2) := HS0
  clear HS0 hb3 HR3 k0 k1 k2 m0 m1 m2 r_0 r_1 r_2
  go_region_held3 (fun V => Below w.heap.size w V ∧ Kd.C k51 V A l.length l ∧ V.cell? ⟨w.heap.size, 0, none⟩ = some (.int .i64 t0) ∧ V.cell? ⟨w.heap.size, 1, none⟩ = some (.int .i64 t1) ∧ V.cell? ⟨w.heap.size, 2, none⟩ = some (.int .i64 t2) ∧ V.cell? ⟨w.heap.size + 1, 0, none⟩ = some (.int .i64 y0) ∧ V.cell? ⟨w.heap.size + 1, 1, none⟩ = some (.int .i64 a) ∧ V.cell? ⟨w.heap.size + 1, 2, none⟩ = some (.int .i64 b) ∧ V.cell? ⟨g, 0, none⟩ = some (.int .i64 r0) ∧ V.cell? ⟨g, 1, none⟩ = some (.int .i64 r1) ∧ V.cell? ⟨g, 2, none⟩ = some (.int .i64 r2)) (first | exact HS | exact keepS (by assumption) (by assumption)) ((first | (go_at_call 41; refine (butteryref16_Pick.calls 20000 A c l t0 t1 t2 r0 r1 r2 _ ?sC HC.out hQ.out).mono ?_; (case sC => exact getC (w := w) (by assumption)); rintro e w5 ⟨rfl, hB5⟩) | (go_at_call_of 42 (y0); refine (P1.out _ ?sC).mono ?_; (case sC => exact getC (w := w) (by assumption)); rintro e w5 ⟨rfl, hB5⟩) | (go_at_call_of 43 (y0); refine (P2.out _ ?sC).mono ?_; (case sC => exact getC (w := w) (by assumption)); rintro e w5 ⟨rfl, hB5⟩) | (go_at_call_of 42 (r0); refine (X1.out _ ?sC).mono ?_; (case sC => exact getC (w := w) (by assumption)); rintro e w5 ⟨rfl, hB5⟩) | (go_at_call_of 43 (r0); refine (X3.out _ ?sC).mono ?_; (case sC => exact getC (w := w) (by assumption)); rintro e w5 ⟨rfl, hB5⟩)))
  all_goals go_wp2
  all_goals go_ret
  all_goals exact ⟨rfl, getB (w := w) (by assumption)⟩

theorem picks_walk (A : Option Addr) (c : Nat) (l : List S51) (t0 t1 t2 y0 a b : Int) (w : World) (hr : Kd.C k51 w A l.length l) (hc : l.length ≤ c) :
    Calls Try.prog 12 #[.slice A l.length c, .agg #[.int .i64 t0, .int .i64 t1, .int .i64 t2], .agg #[.int .i64 y0, .int .i64 a, .int .i64 b]] w fun e w' => e = .returned (.bool true) ∧ Below w.heap.size w w' := by
  by_cases h : 100 < l.length
  · exact picks_long A c l t0 t1 t2 y0 a b w h
  · exact picks_short A c l t0 t1 t2 y0 a b w hr hc h

end Go.Proofs.Ytgfjagbcdjmgkaa.PPickerPicks
