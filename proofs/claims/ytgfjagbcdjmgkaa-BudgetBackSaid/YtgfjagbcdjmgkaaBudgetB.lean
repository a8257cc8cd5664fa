/- Taking from a budget that nobody uses. -/
import Derived.Test.YtgfjagbcdjmgkaaBudgetA
namespace Go.Proofs.Ytgfjagbcdjmgkaa
set_option linter.unusedVariables false
set_option linter.unusedSimpArgs false
open Go.RowKit

theorem Bud.put {w : World} {b m ck : Nat} {A B X Y : Int} {es : Array MapEntry} (h : Bud w b m A B X Y es ck) (hbm : b ≠ m) (es' : Array MapEntry) (ck' : Nat) : Bud (putMap w m es' ck') b m A B X Y es' ck' :=
  ⟨(putMap_other hbm).trans h.blk, putMap_same h.map⟩
theorem Bud.set {w : World} {b m ck : Nat} {A B X Y : Int} {es : Array MapEntry} (h : Bud w b m A B X Y es ck) (hbm : b ≠ m) (x y : Int) :
    Bud (w.setCell ⟨b, 1, none⟩ (.complex .f64 (floatOfInt .f64 x) (floatOfInt .f64 y))) b m A B x y es ck := by
  refine ⟨?_, ?_⟩
  · show (w.heap.modify b _)[b]? = _
    simp [Array.getElem?_modify, h.blk]
  · show (w.heap.modify b _)[m]? = _
    simp [Array.getElem?_modify, h.map, hbm]
theorem set_below {B0 : Nat} {w0 w : World} {b j : Nat} {v : Value} (h : Below B0 w0 w) (hb : B0 ≤ b) : Below B0 w0 (w.setCell ⟨b, j, none⟩ v) :=
  h.trans ⟨rfl, rfl, rfl, by show _ ≤ (w.heap.modify b _).size; simp, fun k hk => by
    show (w.heap.modify b _)[k]? = _
    rw [Array.getElem?_modify, if_neg (by omega)]⟩
theorem take_fin {w0 w1 : World} {b m : Nat} {A B c d : Int} (hb : Bud w1 b m A B 0 0 #[] 0) (hbm : b ≠ m) (hB : ∀ B0, B0 ≤ w0.heap.size → Below B0 w0 w1) :
    Bud (((putMap (putMap w1 m #[⟨.int .i64 1, .complex .f64 0 0, 0⟩] 1) m #[⟨.int .i64 1, .complex .f64 (floatOfInt .f64 c) (floatOfInt .f64 d), 0⟩] 1)).setCell ⟨b, 1, none⟩ (.complex .f64 (floatOfInt .f64 c) (floatOfInt .f64 d))) b m A B c d #[ent c d] 1
      ∧ ∀ B0, B0 ≤ b → B0 ≤ m → B0 ≤ w0.heap.size → Below B0 w0 (((putMap (putMap w1 m #[⟨.int .i64 1, .complex .f64 0 0, 0⟩] 1) m #[⟨.int .i64 1, .complex .f64 (floatOfInt .f64 c) (floatOfInt .f64 d), 0⟩] 1)).setCell ⟨b, 1, none⟩ (.complex .f64 (floatOfInt .f64 c) (floatOfInt .f64 d))) :=
  ⟨((hb.put hbm _ _).put hbm _ _).set hbm _ _, fun B0 h1 h2 h3 => set_below (putMap_below (putMap_below (hB B0 h3) h2) h2) h1⟩

attribute [local go_sem] run_store_complex

section
variable {b m : Nat} {A B : Int}
set_option maxHeartbeats 16000000 in
theorem take_yes {c d : Int} (w : World) (h : Bud w b m A B 0 0 #[] 0) (hbm : b ≠ m) (hA : In A) (hB : In B) (hc : In c) (hd : In d) (h1 : c ≤ A) (h2 : d ≤ B) :
    Calls Try.prog 25 #[.pointer (some ⟨b, 0, none⟩), .int .i64 1, .complex .f64 (floatOfInt .f64 c) (floatOfInt .f64 d)] w
      fun e w' => e = .returned (.bool true) ∧ Bud w' b m A B c d #[ent c d] 1 ∧ ∀ B0, B0 ≤ b → B0 ≤ m → B0 ≤ w.heap.size → Below B0 w w' := by
  have I0 : In 0 := ⟨by omega, by omega⟩
  have c0 := h.cell0
  have c1 := h.cell1
  have c2 := h.cell2
  have l1 : less A 0 = A := by unfold less; unfold In at hA; rw [if_neg (by omega)]; omega
  have l2 : less B 0 = B := by unfold less; unfold In at hB; rw [if_neg (by omega)]; omega
  have HL := fun W => Lib.hid (swap_w (less_ch hA hB I0 I0 W))
  rw [l1, l2] at HL
  have HH := Lib.hid h
  clear h l1 l2
  go_enter Try.func25, Try.ntmps25
  go_wp2
  go_quiet ((first | (go_at_call 37; exact Calls.quiet_of_same (HL _).out) | (go_at_call 36; exact Calls.quiet_of_same (swap_w (fits_yes hc hd hA hB h1 h2 _)))))
  have hb0 := Lib.hid (show Bud (w.drewN nq) b m A B 0 0 #[] 0 from ⟨HH.out.blk, HH.out.map⟩)
  have hbel := Lib.hid (show ∀ B0, Below B0 w (w.drewN nq) from fun B0 => ⟨rfl, rfl, rfl, Nat.le_refl _, fun _ _ => rfl⟩)
  go_wp2
  clear c0 c1 c2 HL HH
  generalize w.drewN nq = W0 at *
  have c1 := hb0.out.cell1
  have c2 := hb0.out.cell2
  rw [foi_nought] at c1
  have q0 := lookup_empty hb0.out.drew.map 1
  have hcm : ∀ i, (⟨b, i, none⟩ : Addr).block ≠ m := fun i => hbm
  clear hA hB h1 h2 hcm
  have tok1 : True := trivial
  go_region_with (first | (go_at_call 52; have _t := tok1; clear tok1 _t; refine (sumz hc hd _).mono ?_; rintro e w5 ⟨rfl, hB5⟩; have hb5 := Lib.hid (hb0.out.drew.below hB5); have p51 := hb5.out.cell1; rw [foi_nought] at p51; have p52 := hb5.out.cell2; have q5 := lookup_empty hb5.out.map 1) | (go_at_call 52; refine (sumz hc hd _).mono ?_; rintro e w6 ⟨rfl, hB6⟩; have hb6 := Lib.hid (hb5.out.below hB6); have p62 := hb6.out.cell2; have r1 := entry_new hb6.out.map; have r2 := entry_store (v' := .complex .f64 (floatOfInt .f64 c) (floatOfInt .f64 d)) (putMap_same (es' := #[⟨.int .i64 1, .complex .f64 0 0, 0⟩]) (ck' := 1) hb6.out.map); have r3 : (putMap (putMap w6 m #[⟨.int .i64 1, .complex .f64 0 0, 0⟩] 1) m #[⟨.int .i64 1, .complex .f64 (floatOfInt .f64 c) (floatOfInt .f64 d), 0⟩] 1).cell? ⟨b, 1, none⟩ = some (.complex .f64 (floatOfInt .f64 0) (floatOfInt .f64 0)) := (putMap_cell hbm).trans ((putMap_cell hbm).trans hb6.out.cell1); have r4 : (putMap (putMap w6 m #[⟨.int .i64 1, .complex .f64 0 0, 0⟩] 1) m #[⟨.int .i64 1, .complex .f64 (floatOfInt .f64 c) (floatOfInt .f64 d), 0⟩] 1).frozen? ⟨b, 1, none⟩ = false := (putMap_frozen hbm).trans ((putMap_frozen hbm).trans (hb6.out.frozen 1))))
  all_goals go_wp2
  all_goals go_ret
  all_goals (refine ⟨rfl, ?_⟩; have hq : ∀ B0, B0 ≤ w.heap.size → Below B0 w w6 := fun B0 h0 => ((hbel.out B0).drew.trans (hB5.mono (Nat.le_trans h0 (hbel.out B0).size))).trans (hB6.mono (Nat.le_trans h0 (Nat.le_trans (hbel.out B0).size hB5.size))); exact take_fin hb6.out hbm hq)
end

end Go.Proofs.Ytgfjagbcdjmgkaa
