/- What a slice argument reads as: the numbers, or the rows of numbers, that the walks speak of. -/
import Derived.Test.YtgfjagbcdjmgkaaBloomF
import Derived.Test.YtgfjagbcdjmgkaaRows
import Derived.ProofKit
import Derived.OpenShut
import Derived.Deep.Matrix
namespace Go.Proofs.Ytgfjagbcdjmgkaa
set_option linter.unusedVariables false
set_option linter.unusedSimpArgs false
open Go.RowKit Go.ChangeShapes Go.WideShapes Go.Proofs.YtgfjagbcdjmgkaaW.PrintWords

theorem laidOut : laidOutB Try.prog = true := by kernel_rfl

theorem ints_arg {H : Type} {enc : TypeId × Value → H} {W : World} {t e : TypeId} {k : IntKind} {a : Option Addr} {len cap : Nat} {d : DataW H} {ps : List MemPlace}
    (ht : Try.prog.underlying t = some (.slice e)) (he : Try.prog.underlying e = some (.int k)) (hc : Try.prog.cellsOf e = 1)
    (h : DataW.Trod enc Try.prog W 0 (fun _ => true) true t (.slice a len cap) d ps) :
    ∃ l : List Int, len = l.length ∧ ReadsInt W k a l.length l ∧ l.length ≤ maxLen ∧ (∀ x ∈ l, (Lit.int k x).wf = true) ∧ l.length ≤ cap := by
  obtain ⟨fuel, hf⟩ := h
  apply ReadsInt.ofRowC (zs := _)
  rotate_left
  · exact (match a with | none => [] | some ad => (List.range cap).map fun i => match W.cell? (ad.add i) with | some (.int _ x) => x | _ => 0)
  rcases open_ints ht he hc hf with ⟨hcs, _⟩ | ⟨x, l, c, zs, hcs, _, hl, hm, hz, _, hcell, hwz⟩
  · simp [Value.cells] at hcs
    obtain ⟨rfl, rfl, rfl⟩ := hcs
    exact .inl ⟨rfl, rfl, rfl, rfl⟩
  · simp [Value.cells] at hcs
    obtain ⟨rfl, rfl, rfl⟩ := hcs
    simp only [if_true] at hz
    refine .inr ⟨x, rfl, hl, hm, by simp, fun i hi => ?_, fun n hn => ?_⟩
    · have hi' : i < cap := by simpa using hi
      have := hcell i (by omega)
      simp [hi', this]
    · obtain ⟨i, hi, rfl⟩ := List.mem_map.1 hn
      have hi' := List.mem_range.1 hi
      rw [hcell i (by omega)]
      refine hwz _ ?_
      rw [List.getD_eq_getElem?_getD, List.getElem?_eq_getElem (by omega)]
      exact List.getElem_mem _

theorem bytes_of_wf {l : List Int} (h : ∀ x ∈ l, (Lit.int .u8 x).wf = true) : Bytes l := by
  intro x hx
  have := h x hx
  simp [Lit.wf, IntKind.min, IntKind.max, IntKind.bits, IntKind.signed] at this
  omega

theorem rows_arg {H : Type} {enc : TypeId × Value → H} {W : World} {a : Option Addr} {len cap : Nat} {d : DataW H} {ps : List MemPlace}
    (h : DataW.Trod enc Try.prog W 0 (fun _ => true) true 22 (.slice a len cap) d ps) :
    ∃ l : List (List Int), len = l.length ∧ Kd.C (Kd.slice 5 (Kd.int .u8)) W a l.length l ∧ (∀ r ∈ l, Bytes r) ∧ l.length ≤ cap := by
  obtain ⟨fuel, hf⟩ := h
  rcases Go.Deep.open_int_rows Try.underlying22 Try.underlying25 Try.underlying5 (by kernel_rfl) (by kernel_rfl) hf with ⟨hcs, _⟩ | ⟨ad, l, c, A, L, C, Z, hcs, _, hl, hm, _, hall⟩
  · simp [Value.cells] at hcs
    obtain ⟨rfl, rfl, rfl⟩ := hcs
    exact ⟨[], rfl, rows_nil W, fun r hr => by simp at hr, by simp⟩
  · simp [Value.cells] at hcs
    obtain ⟨rfl, rfl, rfl⟩ := hcs
    refine ⟨(List.range len).map fun r => (Z r).take (L r), by simp, rows_mk (by simp [maxLen] at hm ⊢; omega) ?_, ?_, by simpa using hl⟩
    · intro i hi
      have hi' : i < len := by simpa using hi
      obtain ⟨h1, h2, h3, h4, h5, h6, h7⟩ := hall i (by omega)
      have e : ((List.range len).map fun r => (Z r).take (L r))[i] = (Z i).take (L i) := by simp
      have el : ((Z i).take (L i)).length = L i := by simp; omega
      rw [e, el]
      refine ⟨ad, A i, C i, rfl, h1, h2, el, by simp [maxLen] at h3 hm ⊢; omega, fun hn => ?_⟩
      cases ea : A i with
      | none => have := h6 ea; omega
      | some a' =>
        refine ⟨a', rfl, fun j hj => ?_⟩
        rw [(h7 a' ea).2 j (by omega)]
        simp [List.getD, List.getElem?_take, hj]
    · intro r hr
      obtain ⟨i, hi, rfl⟩ := List.mem_map.1 hr
      have hi' := List.mem_range.1 hi
      obtain ⟨_, _, _, _, h5, _, _⟩ := hall i (by omega)
      exact bytes_of_wf fun x hx => h5 x (List.mem_of_mem_take hx)

theorem place_lt {H : Type} {enc : TypeId × Value → H} {W : World} {t : TypeId} {v : Value} {d : DataW H} {ps : List MemPlace} (h : DataW.Trod enc Try.prog W 0 (fun _ => true) true t v d ps) : ∀ x ∈ ps, x.block < W.heap.size := by
  obtain ⟨m, hm⟩ := h; exact DataW.trod_lt m _ _ _ hm

end Go.Proofs.Ytgfjagbcdjmgkaa
