/- Contracts beneath package budget: the reference's Of, and the small functions. -/
import Derived.Test.YtgfjagbcdjmgkaaChargeLaws
import Derived.Maps.OwnOps
import Derived.WideKeyEntry
import Derived.Deep.RegionWith
import Derived.Deep.QuietTactic
import Derived.BigQuiet
namespace Go.Proofs.Ytgfjagbcdjmgkaa
set_option linter.unusedVariables false
set_option linter.unusedSimpArgs false
open Go.RowKit

/-- A number cut to what may be. -/
def capL (n : Int) : Int := if n < 0 then 0 else if 1099511627776 < n then 1099511627776 else n
theorem capped_any (n : Int) (w : World) :
    Calls Try.prog 49 #[.int .i64 n] w fun e w' => e = .returned (.int .i64 (capL n)) ∧ w = w' := by
  unfold capL
  by_cases h : n < 0
  · rw [if_pos h]
    go_enter Try.func49, Try.ntmps49
    go_wp2
    go_ret
    exact ⟨rfl, rfl⟩
  · rw [if_neg h]
    by_cases h2 : 1099511627776 < n
    · rw [if_pos h2]
      go_enter Try.func49, Try.ntmps49
      go_wp2
      go_ret
      exact ⟨rfl, rfl⟩
    · rw [if_neg h2]
      go_enter Try.func49, Try.ntmps49
      go_wp2
      go_ret
      exact ⟨rfl, rfl⟩
theorem capL_in {n : Int} (h : In n) : capL n = n := by unfold capL; unfold In at h; rw [if_neg (by omega), if_neg (by omega)]
theorem capL_out {n : Int} (h : ¬ In n) : capL n ≠ n := by unfold capL; unfold In at h; split <;> (try split) <;> omega

theorem made1_any {x y : Int} (hx : In x) (hy : In y) (w : World) :
    Calls Try.prog 50 #[.int .i64 x, .int .i64 y] w fun e w' => e = .returned (.complex .f64 (floatOfInt .f64 x) (floatOfInt .f64 y)) ∧ w = w' := by
  have e1 := Lib.hid (capL_in hx)
  have e2 := Lib.hid (capL_in hy)
  go_enter Try.func50, Try.ntmps50
  go_wp2_with fail
  refine (capped_any _ _).mono ?_
  rintro e w' ⟨rfl, rfl⟩
  rw [e1.out]
  go_wp2_with fail
  refine (capped_any _ _).mono ?_
  rintro e w' ⟨rfl, rfl⟩
  rw [e2.out]
  go_wp2_with fail
  go_ret
  exact ⟨rfl, rfl⟩

theorem of1_yes {x y : Int} (hx : In x) (hy : In y) (w : World) :
    Calls Try.prog 23 #[.int .i64 x, .int .i64 y] w fun e w' => e = .returned (.tuple #[.complex .f64 (floatOfInt .f64 x) (floatOfInt .f64 y), .bool true]) ∧ w = w' := by
  have e1 := Lib.hid (capL_in hx)
  have e2 := Lib.hid (capL_in hy)
  go_enter Try.func23, Try.ntmps23
  go_wp2_with fail
  refine (capped_any _ _).mono ?_
  rintro e w' ⟨rfl, rfl⟩
  rw [e1.out]
  go_wp2_with fail
  refine (capped_any _ _).mono ?_
  rintro e w' ⟨rfl, rfl⟩
  rw [e2.out]
  go_wp2_with fail
  refine (made1_any hx hy _).mono ?_
  rintro e w' ⟨rfl, rfl⟩
  go_wp2_with fail
  go_ret2
  exact ⟨rfl, rfl⟩

theorem of1_no {x y : Int} (h : ¬ (In x ∧ In y)) (w : World) :
    Calls Try.prog 23 #[.int .i64 x, .int .i64 y] w fun e w' => e = .returned (.tuple #[.complex .f64 0 0, .bool false]) ∧ w = w' := by
  by_cases hx : In x
  · have hy : ¬ In y := fun hy => h ⟨hx, hy⟩
    have e1 := Lib.hid (capL_in hx)
    have hne : (capL y != y) = true := bne_iff_ne.2 (capL_out hy)
    go_enter Try.func23, Try.ntmps23
    go_wp2_with fail
    refine (capped_any _ _).mono ?_
    rintro e w' ⟨rfl, rfl⟩
    rw [e1.out]
    go_wp2_with fail
    refine (capped_any _ _).mono ?_
    rintro e w' ⟨rfl, rfl⟩
    go_wp2_with fail
    go_ret2
    exact ⟨rfl, rfl⟩
  · have hne : (capL x != x) = true := bne_iff_ne.2 (capL_out hx)
    go_enter Try.func23, Try.ntmps23
    go_wp2_with fail
    refine (capped_any _ _).mono ?_
    rintro e w' ⟨rfl, rfl⟩
    go_wp2_with fail
    go_ret2
    exact ⟨rfl, rfl⟩

theorem one_ch {x y : Int} (hx : In x) (hy : In y) (w : World) :
    Calls Try.prog 51 #[.complex .f64 (floatOfInt .f64 x) (floatOfInt .f64 y)] w fun e w' => e = .returned (.complex .f64 (floatOfInt .f64 x) (floatOfInt .f64 y)) ∧ w = w' := by
  go_enter Try.func51, Try.ntmps51
  go_wp2_with fail
  refine (parts_ch hx hy _).mono ?_
  rintro e w' ⟨rfl, rfl⟩
  go_wp2_with fail
  go_ret
  exact ⟨rfl, rfl⟩

theorem sum2_ch {a b c d : Int} (ha : In a) (hb : In b) (hc : In c) (hd : In d) (w : World) :
    Calls Try.prog 52 #[.complex .f64 (floatOfInt .f64 a) (floatOfInt .f64 b), .complex .f64 (floatOfInt .f64 c) (floatOfInt .f64 d)] w
      fun e w' => e = .returned (.complex .f64 (floatOfInt .f64 (plus a c)) (floatOfInt .f64 (plus b d))) ∧ Below w.heap.size w w' := by
  go_enter Try.func52, Try.ntmps52
  go_wp2_with fail
  refine (sum_ch _ _ ha hb hc hd _ (by simp) (by simp)).mono ?_
  rintro e w' ⟨rfl, rfl⟩
  go_wp2_with fail
  go_ret
  exact ⟨rfl, (Below.refl _ _).alloc (Nat.le_refl _) _⟩

theorem sum1_ch (bl c' : Nat) {a b : Int} (ha : In a) (hb : In b) (w : World) (h0 : w.cell? ⟨bl, 0, none⟩ = some (.complex .f64 (floatOfInt .f64 a) (floatOfInt .f64 b))) :
    Calls Try.prog 35 #[.slice (some ⟨bl, 0, none⟩) 1 c'] w fun e w' => e = .returned (.complex .f64 (floatOfInt .f64 a) (floatOfInt .f64 b)) ∧ w = w' := by
  have h := sum_one bl c' _ _ w h0
  obtain ⟨_, e2, e3⟩ := c_whole a b ha.1 ha.2 hb.1 hb.2
  rw [e2, e3] at h; exact h

/-- A budget: its room, what is used, and the map, whole. -/
structure Bud (w : World) (b m : Nat) (A B X Y : Int) (es : Array MapEntry) (ck : Nat) : Prop where
  blk : w.heap[b]? = some (.cells #[.complex .f64 (floatOfInt .f64 A) (floatOfInt .f64 B), .complex .f64 (floatOfInt .f64 X) (floatOfInt .f64 Y), .map (some m)] 75 (0, 0))
  map : w.heap[m]? = some (.map es ck)

theorem new_ch {x y : Int} (hx : In x) (hy : In y) (w : World) :
    Calls Try.prog 24 #[.complex .f64 (floatOfInt .f64 x) (floatOfInt .f64 y)] w
      fun e w' => ∃ b m, e = .returned (.pointer (some ⟨b, 0, none⟩)) ∧ w.heap.size ≤ b ∧ w.heap.size ≤ m ∧ b ≠ m ∧ Bud w' b m x y 0 0 #[] 0 ∧ Below w.heap.size w w' := by
  have hmm := @run_makeMap Try.prog
  go_enter Try.func24, Try.ntmps24
  go_wp2_with fail
  refine (one_ch hx hy _).mono ?_
  rintro e w' ⟨rfl, rfl⟩
  go_wp2_with fail
  refine (sum1_ch _ _ hx hy _ ?_).mono ?_
  · go_cell
  rintro e w' ⟨rfl, rfl⟩
  go_wp2_with fail
  go_ret
  refine ⟨w.heap.size + 1 + 1, w.heap.size + 1, rfl, by omega, by omega, by omega, ⟨?_, ?_⟩, ?_⟩
  · have h := heap_alloc_new ((w.alloc (.cells #[.complex .f64 (floatOfInt .f64 x) (floatOfInt .f64 y)] 32)).alloc (.map #[] 0)) (.cells #[.complex .f64 (floatOfInt .f64 x) (floatOfInt .f64 y), .complex .f64 0 0, .map (some (w.heap.size + 1))] 75)
    rw [foi_nought]
    simpa using h
  · rw [Below.heap_alloc _ _ _ (by simp)]
    have h := heap_alloc_new (w.alloc (.cells #[.complex .f64 (floatOfInt .f64 x) (floatOfInt .f64 y)] 32)) (.map #[] 0)
    simpa using h
  · exact (((Below.refl _ _).alloc (Nat.le_refl _) _).alloc (by simp) _).alloc (by simp; omega) _

section
variable {w : World} {b m ck : Nat} {A B X Y : Int} {es : Array MapEntry}
theorem Bud.cell0 (h : Bud w b m A B X Y es ck) : w.cell? ⟨b, 0, none⟩ = some (.complex .f64 (floatOfInt .f64 A) (floatOfInt .f64 B)) := by unfold World.cell?; rw [h.blk]; rfl
theorem Bud.cell1 (h : Bud w b m A B X Y es ck) : w.cell? ⟨b, 1, none⟩ = some (.complex .f64 (floatOfInt .f64 X) (floatOfInt .f64 Y)) := by unfold World.cell?; rw [h.blk]; rfl
theorem Bud.cell2 (h : Bud w b m A B X Y es ck) : w.cell? ⟨b, 2, none⟩ = some (.map (some m)) := by unfold World.cell?; rw [h.blk]; rfl
theorem Bud.frozen (h : Bud w b m A B X Y es ck) (j : Nat) : w.frozen? ⟨b, j, none⟩ = false := by unfold World.frozen?; rw [h.blk]; simp
theorem Bud.ltb (h : Bud w b m A B X Y es ck) : b < w.heap.size := (Array.getElem?_eq_some_iff.1 h.blk).1
theorem Bud.ltm (h : Bud w b m A B X Y es ck) : m < w.heap.size := (Array.getElem?_eq_some_iff.1 h.map).1
theorem Bud.below {w' : World} (h : Bud w b m A B X Y es ck) (hb : Below w.heap.size w w') : Bud w' b m A B X Y es ck :=
  ⟨(hb.block b h.ltb).trans h.blk, (hb.block m h.ltm).trans h.map⟩
theorem Bud.drew (h : Bud w b m A B X Y es ck) : Bud w.drew b m A B X Y es ck := ⟨h.blk, h.map⟩
end

/-- The entry of the one who uses something. -/
def ent (x y : Int) : MapEntry := { key := .int .i64 1, val := .complex .f64 (floatOfInt .f64 x) (floatOfInt .f64 y), born := 0 }

theorem zero32 (w : World) : (zeroValue 32).run Try.prog w = .ok (.complex .f64 0 0) w := by kernel_rfl

theorem checkKey_int (em : Bool) (n : Nat) (k : IntKind) (x : Int) (w : World) : (Instr.checkKey em (n + 1) 3 (.int k x)).run Try.prog w = .ok () w := by
  simp [Instr.checkKey, run_underlying Try.underlying3]

theorem lookup_empty {w : World} {m ck : Nat} (h : w.heap[m]? = some (.map #[] ck)) (k : Int) : (Instr.lookup 73 (.map (some m)) (.int .i64 k) false).run Try.prog w = .ok (.complex .f64 0 0) w := by
  simp [Instr.lookup, run_underlying Try.underlying73, MapKept.run_getObj_map h, checkKey_int, Instr.findKey, run_underlying Try.underlying3, Instr.findNow, zero32, Result.andThen]
theorem lookup_same {w : World} {m ck : Nat} {x y : Int} (h : w.heap[m]? = some (.map #[ent x y] ck)) : (Instr.lookup 73 (.map (some m)) (.int .i64 1) false).run Try.prog w = .ok (.complex .f64 (floatOfInt .f64 x) (floatOfInt .f64 y)) w := by
  simp [Instr.lookup, run_underlying Try.underlying73, MapKept.run_getObj_map h, checkKey_int, Instr.findKey, run_underlying Try.underlying3, Instr.findNow, Instr.sameNow, ent, zero32, Result.andThen]
theorem lookup_other {w : World} {m ck : Nat} {x y : Int} (h : w.heap[m]? = some (.map #[ent x y] ck)) (k : Int) (hk : k ≠ 1) : (Instr.lookup 73 (.map (some m)) (.int .i64 k) false).run Try.prog w = .ok (.complex .f64 0 0) w := by
  have : (k == 1) = false := beq_eq_false_iff_ne.2 hk
  simp [Instr.lookup, run_underlying Try.underlying73, MapKept.run_getObj_map h, checkKey_int, Instr.findKey, run_underlying Try.underlying3, Instr.findNow, Instr.sameNow, ent, zero32, Result.andThen, this]

theorem swap_w {f : FuncId} {args : Array Value} {w : World} {v : Value} (h : Calls Try.prog f args w fun e w' => e = .returned v ∧ w = w') : Calls Try.prog f args w fun e w' => e = .returned v ∧ w' = w :=
  h.mono fun _ _ ⟨a, b⟩ => ⟨a, b.symm⟩

theorem fits_no {a b c d : Int} (ha : In a) (hb : In b) (hc : In c) (hd : In d) (h : ¬ (a ≤ c ∧ b ≤ d)) (w : World) :
    Calls Try.prog 36 #[.complex .f64 (floatOfInt .f64 a) (floatOfInt .f64 b), .complex .f64 (floatOfInt .f64 c) (floatOfInt .f64 d)] w fun e w' => e = .returned (.bool false) ∧ w = w' := by
  have h1 := fits_ch ha hb hc hd w
  have e : (decide (a ≤ c) && decide (b ≤ d)) = false := by
    by_cases h2 : a ≤ c
    · have h3 : ¬ b ≤ d := fun h3 => h ⟨h2, h3⟩
      rw [decide_eq_false h3, Bool.and_false]
    · rw [decide_eq_false h2, Bool.false_and]
  rw [e] at h1; exact h1

section
variable {b m ck : Nat} {A B X Y : Int} {es : Array MapEntry}

theorem used_any (w : World) (h : Bud w b m A B X Y es ck) :
    Calls Try.prog 26 #[.pointer (some ⟨b, 0, none⟩)] w fun e w' => e = .returned (.complex .f64 (floatOfInt .f64 X) (floatOfInt .f64 Y)) ∧ w = w' := by
  have c1 := h.cell1
  clear h
  go_enter Try.func26, Try.ntmps26
  go_wp2
  go_ret
  exact ⟨rfl, rfl⟩

theorem left_any (w : World) (h : Bud w b m A B X Y es ck) (hA : In A) (hB : In B) (hX : In X) (hY : In Y) :
    Calls Try.prog 27 #[.pointer (some ⟨b, 0, none⟩)] w fun e w' => e = .returned (.complex .f64 (floatOfInt .f64 (less A X)) (floatOfInt .f64 (less B Y))) ∧ Below w.heap.size w w' := by
  have c0 := h.cell0
  have c1 := h.cell1
  clear h
  go_enter Try.func27, Try.ntmps27
  go_wp2
  go_quiet ((go_at_call 37; exact Calls.quiet_of_same (swap_w (less_ch hA hB hX hY _))))
  go_wp2
  go_ret
  exact ⟨rfl, ⟨rfl, rfl, rfl, Nat.le_refl _, fun _ _ => rfl⟩⟩

theorem of_none (w : World) (k : Int) (h : Bud w b m A B X Y #[] ck) :
    Calls Try.prog 29 #[.pointer (some ⟨b, 0, none⟩), .int .i64 k] w fun e w' => e = .returned (.complex .f64 (floatOfInt .f64 0) (floatOfInt .f64 0)) ∧ w = w' := by
  have c2 := h.cell2
  have hl := lookup_empty h.map k
  rw [foi_nought]
  clear h
  go_enter Try.func29, Try.ntmps29
  go_wp2
  go_ret
  exact ⟨rfl, rfl⟩
theorem of_same {x y : Int} (w : World) (h : Bud w b m A B X Y #[ent x y] ck) :
    Calls Try.prog 29 #[.pointer (some ⟨b, 0, none⟩), .int .i64 1] w fun e w' => e = .returned (.complex .f64 (floatOfInt .f64 x) (floatOfInt .f64 y)) ∧ w = w' := by
  have c2 := h.cell2
  have hl := lookup_same h.map
  clear h
  go_enter Try.func29, Try.ntmps29
  go_wp2
  go_ret
  exact ⟨rfl, rfl⟩
theorem of_other {x y : Int} (w : World) (h : Bud w b m A B X Y #[ent x y] ck) :
    Calls Try.prog 29 #[.pointer (some ⟨b, 0, none⟩), .int .i64 2] w fun e w' => e = .returned (.complex .f64 (floatOfInt .f64 0) (floatOfInt .f64 0)) ∧ w = w' := by
  have c2 := h.cell2
  have hl := lookup_other h.map 2 (by omega)
  rw [foi_nought]
  clear h
  go_enter Try.func29, Try.ntmps29
  go_wp2
  go_ret
  exact ⟨rfl, rfl⟩

theorem take_no {c d : Int} (w : World) (h : Bud w b m A B X Y es ck) (hA : In A) (hB : In B) (hX : In X) (hY : In Y) (hc : In c) (hd : In d) (hn : ¬ (c ≤ less A X ∧ d ≤ less B Y)) :
    Calls Try.prog 25 #[.pointer (some ⟨b, 0, none⟩), .int .i64 1, .complex .f64 (floatOfInt .f64 c) (floatOfInt .f64 d)] w fun e w' => e = .returned (.bool false) ∧ Below w.heap.size w w' := by
  have c0 := h.cell0
  have c1 := h.cell1
  have HN := Lib.hid hn
  clear h hn
  go_enter Try.func25, Try.ntmps25
  go_wp2
  go_quiet ((first | (go_at_call 37; exact Calls.quiet_of_same (swap_w (less_ch hA hB hX hY _))) | (go_at_call 36; exact Calls.quiet_of_same (swap_w (fits_no hc hd (hA.less hX) (hB.less hY) HN.out _)))))
  go_wp2
  go_ret
  exact ⟨rfl, ⟨rfl, rfl, rfl, Nat.le_refl _, fun _ _ => rfl⟩⟩

theorem give_other {c d x y : Int} (w : World) (h : Bud w b m A B X Y #[ent x y] ck) (hc : In c) (hd : In d) (hn : ¬ (c ≤ 0 ∧ d ≤ 0)) :
    Calls Try.prog 28 #[.pointer (some ⟨b, 0, none⟩), .int .i64 2, .complex .f64 (floatOfInt .f64 c) (floatOfInt .f64 d)] w fun e w' => e = .returned (.bool false) ∧ w = w' := by
  have c2 := h.cell2
  have hl := lookup_other h.map 2 (by omega)
  have hf := Lib.hid (fits_no hc hd (c := 0) (d := 0) ⟨by omega, by omega⟩ ⟨by omega, by omega⟩ hn w)
  rw [foi_nought] at hf
  clear h hn
  go_enter Try.func28, Try.ntmps28
  go_wp2_with fail
  refine hf.out.mono ?_
  rintro e w' ⟨rfl, rfl⟩
  go_wp2
  go_ret
  exact ⟨rfl, rfl⟩

theorem give_empty {c d : Int} (w : World) (h : Bud w b m A B X Y #[ent 0 0] ck) (hc : In c) (hd : In d) (hn : ¬ (c ≤ 0 ∧ d ≤ 0)) :
    Calls Try.prog 28 #[.pointer (some ⟨b, 0, none⟩), .int .i64 1, .complex .f64 (floatOfInt .f64 c) (floatOfInt .f64 d)] w fun e w' => e = .returned (.bool false) ∧ w = w' := by
  have c2 := h.cell2
  have hl := lookup_same h.map
  have hf := Lib.hid (fits_no hc hd (c := 0) (d := 0) ⟨by omega, by omega⟩ ⟨by omega, by omega⟩ hn w)
  clear h hn
  go_enter Try.func28, Try.ntmps28
  go_wp2_with fail
  refine hf.out.mono ?_
  rintro e w' ⟨rfl, rfl⟩
  go_wp2
  go_ret
  exact ⟨rfl, rfl⟩
end

/-- A map's block, written. -/
def putMap (w : World) (m : Nat) (es : Array MapEntry) (ck : Nat) : World := ChangeMaps.setBlock w m (.map es ck)
theorem putMap_same {w : World} {m ck ck' : Nat} {es es' : Array MapEntry} (h : w.heap[m]? = some (.map es ck)) : (putMap w m es' ck').heap[m]? = some (.map es' ck') := by
  have hlt := (Array.getElem?_eq_some_iff.1 h).1
  show (w.heap.setIfInBounds m _)[m]? = _
  simp [hlt]
theorem putMap_other {w : World} {m i ck' : Nat} {es' : Array MapEntry} (h : i ≠ m) : (putMap w m es' ck').heap[i]? = w.heap[i]? := by
  show (w.heap.setIfInBounds m _)[i]? = _
  rw [Array.getElem?_setIfInBounds_ne (Ne.symm h)]

theorem entry_new {w : World} {m : Nat} (h : w.heap[m]? = some (.map #[] 0)) : (Instr.mapEntry 73 (.map (some m)) (.int .i64 1)).run Try.prog w = .ok (.tuple #[.complex .f64 0 0, .int .i64 0]) (putMap w m #[⟨.int .i64 1, .complex .f64 0 0, 0⟩] 1) := by
  simp [Instr.mapEntry, run_underlying Try.underlying73, MapKept.run_getObj_map h, checkKey_int, Instr.findKey, run_underlying Try.underlying3, Instr.findNow, zero32, MapKept.run_setObj_map _ h, Result.andThen, goInt, putMap, ChangeMaps.setBlock]
theorem entry_old {w : World} {m ck : Nat} {x y : Int} (h : w.heap[m]? = some (.map #[ent x y] ck)) : (Instr.mapEntry 73 (.map (some m)) (.int .i64 1)).run Try.prog w = .ok (.tuple #[.complex .f64 (floatOfInt .f64 x) (floatOfInt .f64 y), .int .i64 0]) (putMap w m #[ent x y] ck) := by
  have hs : Instr.sameBits 10000 (.int .i64 1) (.int .i64 1) = true := by simp [Instr.sameBits]
  simp [Instr.mapEntry, run_underlying Try.underlying73, MapKept.run_getObj_map h, checkKey_int, Instr.findKey, run_underlying Try.underlying3, Instr.findNow, Instr.sameNow, ent, Instr.keyThatStays, hs, MapKept.run_setObj_map _ h, Result.andThen, goInt, putMap, ChangeMaps.setBlock]
theorem entry_store {w : World} {m ck : Nat} {v v' : Value} (h : w.heap[m]? = some (.map #[⟨.int .i64 1, v, 0⟩] ck)) : (Instr.entryStore 73 (.map (some m)) (.int .i64 0) v').run Try.prog w = .ok () (putMap w m #[⟨.int .i64 1, v', 0⟩] ck) := by
  simp [Instr.entryStore, MapKept.run_getObj_map h, asInt, asIntOf, MapKept.run_setObj_map _ h, Result.andThen, putMap, ChangeMaps.setBlock]


theorem putMap_cell {w : World} {m ck : Nat} {es : Array MapEntry} {a : Addr} (h : a.block ≠ m) : (putMap w m es ck).cell? a = w.cell? a := World.cell?_of_block (putMap_other h)
theorem putMap_frozen {w : World} {m ck : Nat} {es : Array MapEntry} {a : Addr} (h : a.block ≠ m) : (putMap w m es ck).frozen? a = w.frozen? a := World.frozen?_of_block (putMap_other h)
theorem putMap_size (w : World) (m : Nat) (es : Array MapEntry) (ck : Nat) : (putMap w m es ck).heap.size = w.heap.size := by
  show (w.heap.setIfInBounds m _).size = _
  simp
theorem putMap_below {B0 : Nat} {w0 w : World} {m ck : Nat} {es : Array MapEntry} (h : Below B0 w0 w) (hm : B0 ≤ m) : Below B0 w0 (putMap w m es ck) :=
  h.trans ⟨rfl, rfl, rfl, by rw [putMap_size]; exact Nat.le_refl _, fun k hk => putMap_other (by omega)⟩

theorem sumz {c d : Int} (hc : In c) (hd : In d) (w : World) :
    Calls Try.prog 52 #[.complex .f64 0 0, .complex .f64 (floatOfInt .f64 c) (floatOfInt .f64 d)] w fun e w' => e = .returned (.complex .f64 (floatOfInt .f64 c) (floatOfInt .f64 d)) ∧ Below w.heap.size w w' := by
  have h := sum2_ch (a := 0) (b := 0) ⟨by omega, by omega⟩ ⟨by omega, by omega⟩ hc hd w
  rw [plus_nought hc.2, plus_nought hd.2, foi_nought] at h
  exact h

theorem run_store_complex {P : Program} {w : World} {a : Addr} (k : FloatKind) (x y : Nat) (md : Mode) : (store a (.complex k x y) md).run P w = stored P w a (.complex k x y) md := run_store P w a _ md rfl

end Go.Proofs.Ytgfjagbcdjmgkaa
