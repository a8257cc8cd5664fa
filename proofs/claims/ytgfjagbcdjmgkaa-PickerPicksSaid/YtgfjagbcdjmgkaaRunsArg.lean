/- What an argument of runs reads as: the list that the walks speak of. -/
import Derived.Test.YtgfjagbcdjmgkaaPicksWalk
import Derived.Test.YtgfjagbcdjmgkaaArgs
import Derived.Deep.Slices
namespace Go.Proofs.Ytgfjagbcdjmgkaa
set_option linter.unusedVariables false
set_option linter.unusedSimpArgs false
open Go.RowKit Go.ChangeShapes Go.WideShapes Go.Proofs.YtgfjagbcdjmgkaaW.PrintWords PPickerPicks

theorem bytes_of_trod {H : Type} {enc : TypeId × Value → H} {W : World} {n : Nat} {c : Value} {y : DataW H × List MemPlace} (h : DataW.trod enc Try.prog W 0 (fun _ => true) true n 25 [c] = some y) :
    ∃ (A : Option Addr) (l : List Int) (cap : Nat), c = .slice A l.length cap ∧ l.length ≤ cap ∧ (Kd.int .u8).C W A l.length l := by
  have hs : ∃ A len cap, c = .slice A len cap := by
    rcases Go.Deep.open_slice Try.underlying25 h with ⟨e, _⟩ | ⟨a, len, cap, _, _, _, _, e, _⟩
    · exact ⟨none, 0, 0, by simpa using e⟩
    · exact ⟨some a, len, cap, by simpa using e⟩
  obtain ⟨A, len, cap, rfl⟩ := hs
  obtain ⟨l, rfl, hr, _, _, hc⟩ := ints_arg (d := y.1) (ps := y.2) Try.underlying25 Try.underlying5 (by kernel_rfl) ⟨n, by simpa [Value.cells] using h⟩
  exact ⟨A, l, cap, rfl, hc, Kd.C_of_reads (enc := Value.int .u8) (d := (0 : Int)) (h1 := fun _ => rfl) hr⟩

theorem run_of_trod {H : Type} {enc : TypeId × Value → H} {W : World} {n : Nat} {cs : List Value} {y : DataW H × List MemPlace} (h : DataW.trod enc Try.prog W 0 (fun _ => true) true n 51 cs = some y) (hl6 : cs.length = 6) :
    ∃ x : S51, k51.K W x cs := by
  obtain ⟨xs, m, _, _, hl, hlen, hf⟩ := DataW.trod_struct Try.underlying51 h
  match cs, hl6 with
  | [c0, c1, c2, c3, c4, c5], _ =>
    match xs, hlen with
    | [y0, y1, y2, y3, y4, y5], _ =>
      have c3c : Try.prog.cellsOf 3 = 1 := by kernel_rfl
      have c25 : Try.prog.cellsOf 25 = 1 := by kernel_rfl
      have c49 : Try.prog.cellsOf 49 = 1 := by kernel_rfl
      have h0 : DataW.trod enc Try.prog W 0 (fun _ => true) true m 3 [c0] = some y0 := by
        have q : DataW.trod enc Try.prog W 0 (fun _ => true) true m 3 (List.take (Try.prog.cellsOf 3) [c0, c1, c2, c3, c4, c5]) = some y0 := hf 0 _ rfl
        rw [c3c] at q
        exact q
      have h1 : DataW.trod enc Try.prog W 0 (fun _ => true) true m 3 [c1] = some y1 := by
        have q : DataW.trod enc Try.prog W 0 (fun _ => true) true m 3 (List.take (Try.prog.cellsOf 3) [c1, c2, c3, c4, c5]) = some y1 := hf 1 _ rfl
        rw [c3c] at q
        exact q
      have h2 : DataW.trod enc Try.prog W 0 (fun _ => true) true m 3 [c2] = some y2 := by
        have q : DataW.trod enc Try.prog W 0 (fun _ => true) true m 3 (List.take (Try.prog.cellsOf 3) [c2, c3, c4, c5]) = some y2 := hf 2 _ rfl
        rw [c3c] at q
        exact q
      have h3 : DataW.trod enc Try.prog W 0 (fun _ => true) true m 25 [c3] = some y3 := by
        have q : DataW.trod enc Try.prog W 0 (fun _ => true) true m 25 (List.take (Try.prog.cellsOf 25) [c3, c4, c5]) = some y3 := hf 3 _ rfl
        rw [c25] at q
        exact q
      have h4 : DataW.trod enc Try.prog W 0 (fun _ => true) true m 25 [c4] = some y4 := by
        have q : DataW.trod enc Try.prog W 0 (fun _ => true) true m 25 (List.take (Try.prog.cellsOf 25) [c4, c5]) = some y4 := hf 4 _ rfl
        rw [c25] at q
        exact q
      have h5 : DataW.trod enc Try.prog W 0 (fun _ => true) true m 49 [c5] = some y5 := by
        have q : DataW.trod enc Try.prog W 0 (fun _ => true) true m 49 (List.take (Try.prog.cellsOf 49) [c5]) = some y5 := hf 5 _ rfl
        rw [c49] at q
        exact q
      obtain ⟨x0, e0, _, _⟩ := DataW.trod_int Try.underlying3 h0
      obtain ⟨x1, e1, _, _⟩ := DataW.trod_int Try.underlying3 h1
      obtain ⟨x2, e2, _, _⟩ := DataW.trod_int Try.underlying3 h2
      obtain ⟨x5, e5, _, _⟩ := DataW.trod_int Try.underlying49 h5
      obtain ⟨A3, l3, k3, e3, hc3, hr3⟩ := bytes_of_trod h3
      obtain ⟨A4, l4, k4, e4, hc4, hr4⟩ := bytes_of_trod h4
      simp at e0 e1 e2 e5
      subst e0 e1 e2 e3 e4 e5
      exact ⟨⟨x0, x1, x2, l3, l4, x5⟩, k51_mk W ⟨x0, x1, x2, l3, l4, x5⟩ hc3 hr3 hc4 hr4⟩

theorem addr_add (a : Addr) (x y : Nat) : (a.add x).add y = a.add (x + y) := by
  unfold Addr.add
  by_cases hx : x = 0
  · subst hx; simp
  · by_cases hy : y = 0
    · subst hy; simp
    · simp [hx, hy, Nat.add_assoc]

theorem runs_arg {H : Type} {enc : TypeId × Value → H} {W : World} {a : Option Addr} {len cap : Nat} {d : DataW H} {ps : List MemPlace}
    (h : DataW.Trod enc Try.prog W 0 (fun _ => true) true 44 (.slice a len cap) d ps) :
    ∃ l : List S51, len = l.length ∧ Kd.C k51 W a l.length l ∧ l.length ≤ cap := by
  obtain ⟨fuel, hf⟩ := h
  have c51 : Try.prog.cellsOf 51 = 6 := by kernel_rfl
  rcases Go.Deep.open_slice Try.underlying44 hf with ⟨hcs, _⟩ | ⟨ad, l, c, m, n, D, Pl, hcs, _, hl, hm, hmm, _, hall⟩
  · simp [Value.cells] at hcs
    obtain ⟨rfl, rfl, rfl⟩ := hcs
    exact ⟨[], rfl, Kd.C_nil _ _, by simp⟩
  · simp [Value.cells] at hcs
    obtain ⟨rfl, rfl, rfl⟩ := hcs
    simp only [if_true] at hmm
    subst hmm
    rw [c51] at hall
    have each : ∀ i, i < len → ∃ x : S51, ∃ cs : List Value, k51.K W x cs ∧ ∀ j u, cs[j]? = some u → W.cell? (ad.add (i * 6 + j)) = some u := by
      intro i hi
      obtain ⟨cs, hcells, ht⟩ := hall i (by omega)
      obtain ⟨_, hlen, hcell⟩ := World.cells?_some hcells
      obtain ⟨x, hx⟩ := run_of_trod ht hlen
      refine ⟨x, cs, hx, fun j u hu => ?_⟩
      have hj : j < 6 := by
        have := (List.getElem?_eq_some_iff.1 hu).1
        omega
      have := hcell j hj
      rw [hu] at this
      rw [← this, addr_add]
    haveI : Inhabited S51 := ⟨z51⟩
    obtain ⟨V, hV⟩ := Go.Deep.choose_lt each
    refine ⟨(List.range len).map V, by simp, ⟨rfl, by simp [maxLen] at hm ⊢; omega, fun hn => ⟨ad, rfl, fun j p hj => ?_⟩⟩, by simpa using hl⟩
    obtain ⟨hj', rfl⟩ := List.getElem?_eq_some_iff.1 hj
    have hj2 : j < len := by simpa using hj'
    obtain ⟨cs, hK, hc⟩ := hV j hj2
    refine ⟨cs, ?_, ?_, ?_⟩
    · exact k51.K_len hK
    · simpa using hK
    · exact hc

theorem pickerPicks_row (A : Option Addr) (c : Nat) (l : List S51) (t0 t1 t2 y0 a b : Int) {w : World} (hr : Kd.C k51 w A l.length l) (hc : l.length ≤ c) (_ : (Lit.int .i64 t0).wf = true) (_ : (Lit.int .i64 t1).wf = true) (_ : (Lit.int .i64 t2).wf = true)
    (_ : (Lit.int .i64 y0).wf = true) (_ : (Lit.int .i64 a).wf = true) (_ : (Lit.int .i64 b).wf = true) (W : World) (e : w = W) :
    Calls Try.prog 12 #[.slice A l.length c, .agg #[.int .i64 t0, .int .i64 t1, .int .i64 t2], .agg #[.int .i64 y0, .int .i64 a, .int .i64 b]] W fun e w' => e = .returned (.bool true) ∧ Below W.heap.size W w' := by
  subst e
  exact picks_walk A c l t0 t1 t2 y0 a b w hr hc
end Go.Proofs.Ytgfjagbcdjmgkaa
