/-
  No cell of these rows narrows 'for every input' (looked for: loops, veiled, ifaces, maps, wideKeys, modest, calm, conditions, laid).
  DERIVED. THE GIVEN ROWS OF THIS SEAT. 11 by the template 'for every input the law returns true; each argument reads behind the call as it read before'; 0 by the template 'total and deterministic' (their statements: YtgfjagbcdjmgkaaTotals.lean).
  GIVEN WITH THE SEED: the statements are not yours to turn. If you find one false, say at which input.
  Laid BY PROGRAM, IN A SANDBOX (cutbox-rows.mjs): the forced cells as the released guide's own fill.sh prints them over the translation a1665df04d331bfa… (all of the seat's roots in one cut). By AI agents, Wed Nov 11 2026. No macro, syntax, notation, axiom, sorry.
-/
import Derived.Test.YtgfjagbcdjmgkaaChecked
import GoSem.Claim
import GoSem.ClaimJoined
import GoSem.ClaimMapViews
import Derived.JoinedTies
import Derived.KernelRfl
namespace Go.Proofs.Ytgfjagbcdjmgkaa
/- THE CELL 'sum', in the pinned program and in every row, IS THE sha256 OF THE DUMP (.gsa) THAT YtgfjagbcdjmgkaaProg.lean LOADS. Nothing in Lean hashes anything: it is a label: what it is worth is what the hold of that sum in a sandbox is worth. -/
noncomputable def Try.pinned : Pinned := { name := "ytgfjagbcdjmgkaa", sum := "a1665df04d331bfaa5a548349c34f31476edaded57171df8ab63c65cc42b90d3", checked := Try.checked }
namespace Rows
def none {H : Type} : Left H := { results := [], args := [] }

/-- 'butterylaw12.BloomBuilds': WHATEVER THE INPUT: true; the input reads as it did. -/
def bloomBuildsSpec : ChangeSpec := { name := "bloomBuilds", fn := fun _ => fun
  | [d1, d2] => { results := [.lit (.bool true)], args := [d1, d2] }
  | _ => none }
def bloomBuildsRow : OpenClaim := { program := "ytgfjagbcdjmgkaa", sum := "a1665df04d331bfaa5a548349c34f31476edaded57171df8ab63c65cc42b90d3", func := "buttery/butterylaw12.BloomBuilds", spec := "bloomBuilds", unfollowed := true, recurses := true, apart := false }
def BloomBuildsSaid : Prop := bloomBuildsRow.holds Try.pinned (OpenSpec.ofChange bloomBuildsSpec)

/-- ITS FALSE NEIGHBOUR: 'it returns false'. Refute it at one input. -/
def bloomBuildsWrong : ChangeSpec := { name := "bloomBuilds", fn := fun _ => fun
  | [d1, d2] => { results := [.lit (.bool false)], args := [d1, d2] }
  | _ => none }
def BloomBuildsWrongFalsely : Prop := bloomBuildsRow.holds Try.pinned (OpenSpec.ofChange bloomBuildsWrong)

/-- 'butterylaw12.BloomTells': WHATEVER THE INPUT: true; the input reads as it did. -/
def bloomTellsSpec : ChangeSpec := { name := "bloomTells", fn := fun _ => fun
  | [d1, d2] => { results := [.lit (.bool true)], args := [d1, d2] }
  | _ => none }
def bloomTellsRow : OpenClaim := { program := "ytgfjagbcdjmgkaa", sum := "a1665df04d331bfaa5a548349c34f31476edaded57171df8ab63c65cc42b90d3", func := "buttery/butterylaw12.BloomTells", spec := "bloomTells", unfollowed := true, recurses := true, apart := false }
def BloomTellsSaid : Prop := bloomTellsRow.holds Try.pinned (OpenSpec.ofChange bloomTellsSpec)

/-- ITS FALSE NEIGHBOUR: 'it returns false'. Refute it at one input. -/
def bloomTellsWrong : ChangeSpec := { name := "bloomTells", fn := fun _ => fun
  | [d1, d2] => { results := [.lit (.bool false)], args := [d1, d2] }
  | _ => none }
def BloomTellsWrongFalsely : Prop := bloomTellsRow.holds Try.pinned (OpenSpec.ofChange bloomTellsWrong)

/-- 'butterylaw12.BloomMore': WHATEVER THE INPUT: true; the input reads as it did. -/
def bloomMoreSpec : ChangeSpec := { name := "bloomMore", fn := fun _ => fun
  | [d1, d2] => { results := [.lit (.bool true)], args := [d1, d2] }
  | _ => none }
def bloomMoreRow : OpenClaim := { program := "ytgfjagbcdjmgkaa", sum := "a1665df04d331bfaa5a548349c34f31476edaded57171df8ab63c65cc42b90d3", func := "buttery/butterylaw12.BloomMore", spec := "bloomMore", unfollowed := true, recurses := true, apart := false }
def BloomMoreSaid : Prop := bloomMoreRow.holds Try.pinned (OpenSpec.ofChange bloomMoreSpec)

/-- ITS FALSE NEIGHBOUR: 'it returns false'. Refute it at one input. -/
def bloomMoreWrong : ChangeSpec := { name := "bloomMore", fn := fun _ => fun
  | [d1, d2] => { results := [.lit (.bool false)], args := [d1, d2] }
  | _ => none }
def BloomMoreWrongFalsely : Prop := bloomMoreRow.holds Try.pinned (OpenSpec.ofChange bloomMoreWrong)

/-- 'butterylaw12.BloomSizes': WHATEVER THE INPUT: true; the input reads as it did. -/
def bloomSizesSpec : ChangeSpec := { name := "bloomSizes", fn := fun _ => fun
  | [d1, d2] => { results := [.lit (.bool true)], args := [d1, d2] }
  | _ => none }
def bloomSizesRow : OpenClaim := { program := "ytgfjagbcdjmgkaa", sum := "a1665df04d331bfaa5a548349c34f31476edaded57171df8ab63c65cc42b90d3", func := "buttery/butterylaw12.BloomSizes", spec := "bloomSizes", unfollowed := true, recurses := true, apart := false }
def BloomSizesSaid : Prop := bloomSizesRow.holds Try.pinned (OpenSpec.ofChange bloomSizesSpec)

/-- ITS FALSE NEIGHBOUR: 'it returns false'. Refute it at one input. -/
def bloomSizesWrong : ChangeSpec := { name := "bloomSizes", fn := fun _ => fun
  | [d1, d2] => { results := [.lit (.bool false)], args := [d1, d2] }
  | _ => none }
def BloomSizesWrongFalsely : Prop := bloomSizesRow.holds Try.pinned (OpenSpec.ofChange bloomSizesWrong)

/-- 'butterylaw15.BudgetBack': WHATEVER THE INPUT: true; the input reads as it did. -/
def budgetBackSpec : ChangeSpec := { name := "budgetBack", fn := fun _ => fun
  | [d1, d2, d3, d4, d5] => { results := [.lit (.bool true)], args := [d1, d2, d3, d4, d5] }
  | _ => none }
def budgetBackRow : OpenClaim := { program := "ytgfjagbcdjmgkaa", sum := "a1665df04d331bfaa5a548349c34f31476edaded57171df8ab63c65cc42b90d3", func := "buttery/butterylaw15.BudgetBack", spec := "budgetBack", apart := false }
def BudgetBackSaid : Prop := budgetBackRow.holds Try.pinned (OpenSpec.ofChange budgetBackSpec)

/-- ITS FALSE NEIGHBOUR: 'it returns false'. Refute it at one input. -/
def budgetBackWrong : ChangeSpec := { name := "budgetBack", fn := fun _ => fun
  | [d1, d2, d3, d4, d5] => { results := [.lit (.bool false)], args := [d1, d2, d3, d4, d5] }
  | _ => none }
def BudgetBackWrongFalsely : Prop := budgetBackRow.holds Try.pinned (OpenSpec.ofChange budgetBackWrong)

/-- 'butterylaw19.PickerRest': WHATEVER THE INPUT: true; the input reads as it did. -/
def pickerRestSpec : ChangeSpec := { name := "pickerRest", fn := fun _ => fun
  | [d1, d2] => { results := [.lit (.bool true)], args := [d1, d2] }
  | _ => none }
def pickerRestRow : OpenClaim := { program := "ytgfjagbcdjmgkaa", sum := "a1665df04d331bfaa5a548349c34f31476edaded57171df8ab63c65cc42b90d3", func := "buttery/butterylaw19.PickerRest", spec := "pickerRest", apart := false }
def PickerRestSaid : Prop := pickerRestRow.holds Try.pinned (OpenSpec.ofChange pickerRestSpec)

/-- ITS FALSE NEIGHBOUR: 'it returns false'. Refute it at one input. -/
def pickerRestWrong : ChangeSpec := { name := "pickerRest", fn := fun _ => fun
  | [d1, d2] => { results := [.lit (.bool false)], args := [d1, d2] }
  | _ => none }
def PickerRestWrongFalsely : Prop := pickerRestRow.holds Try.pinned (OpenSpec.ofChange pickerRestWrong)

/-- 'butterylaw19.PickerKnown': WHATEVER THE INPUT: true; the input reads as it did. -/
def pickerKnownSpec : ChangeSpec := { name := "pickerKnown", fn := fun _ => fun
  | [d] => { results := [.lit (.bool true)], args := [d] }
  | _ => none }
def pickerKnownRow : OpenClaim := { program := "ytgfjagbcdjmgkaa", sum := "a1665df04d331bfaa5a548349c34f31476edaded57171df8ab63c65cc42b90d3", func := "buttery/butterylaw19.PickerKnown", spec := "pickerKnown", apart := false }
def PickerKnownSaid : Prop := pickerKnownRow.holds Try.pinned (OpenSpec.ofChange pickerKnownSpec)

/-- ITS FALSE NEIGHBOUR: 'it returns false'. Refute it at one input. -/
def pickerKnownWrong : ChangeSpec := { name := "pickerKnown", fn := fun _ => fun
  | [d] => { results := [.lit (.bool false)], args := [d] }
  | _ => none }
def PickerKnownWrongFalsely : Prop := pickerKnownRow.holds Try.pinned (OpenSpec.ofChange pickerKnownWrong)

/-- 'butterylaw1.ChargeLaws': WHATEVER THE INPUT: true; the input reads as it did. -/
def chargeLawsSpec : ChangeSpec := { name := "chargeLaws", fn := fun _ => fun
  | [d1, d2, d3, d4] => { results := [.lit (.bool true)], args := [d1, d2, d3, d4] }
  | _ => none }
def chargeLawsRow : OpenClaim := { program := "ytgfjagbcdjmgkaa", sum := "a1665df04d331bfaa5a548349c34f31476edaded57171df8ab63c65cc42b90d3", func := "buttery/butterylaw1.ChargeLaws", spec := "chargeLaws", apart := false }
def ChargeLawsSaid : Prop := chargeLawsRow.holds Try.pinned (OpenSpec.ofChange chargeLawsSpec)

/-- ITS FALSE NEIGHBOUR: 'it returns false'. Refute it at one input. -/
def chargeLawsWrong : ChangeSpec := { name := "chargeLaws", fn := fun _ => fun
  | [d1, d2, d3, d4] => { results := [.lit (.bool false)], args := [d1, d2, d3, d4] }
  | _ => none }
def ChargeLawsWrongFalsely : Prop := chargeLawsRow.holds Try.pinned (OpenSpec.ofChange chargeLawsWrong)

/-- 'butterylaw1.ChargeParts': WHATEVER THE INPUT: true; the input reads as it did. -/
def chargePartsSpec : ChangeSpec := { name := "chargeParts", fn := fun _ => fun
  | [d1, d2, d3, d4, d5] => { results := [.lit (.bool true)], args := [d1, d2, d3, d4, d5] }
  | _ => none }
def chargePartsRow : OpenClaim := { program := "ytgfjagbcdjmgkaa", sum := "a1665df04d331bfaa5a548349c34f31476edaded57171df8ab63c65cc42b90d3", func := "buttery/butterylaw1.ChargeParts", spec := "chargeParts", apart := false }
def ChargePartsSaid : Prop := chargePartsRow.holds Try.pinned (OpenSpec.ofChange chargePartsSpec)

/-- ITS FALSE NEIGHBOUR: 'it returns false'. Refute it at one input. -/
def chargePartsWrong : ChangeSpec := { name := "chargeParts", fn := fun _ => fun
  | [d1, d2, d3, d4, d5] => { results := [.lit (.bool false)], args := [d1, d2, d3, d4, d5] }
  | _ => none }
def ChargePartsWrongFalsely : Prop := chargePartsRow.holds Try.pinned (OpenSpec.ofChange chargePartsWrong)

/-- 'butterylaw19.PickerPicks': WHATEVER THE INPUT: true; the input reads as it did. -/
def pickerPicksSpec : ChangeSpec := { name := "pickerPicks", fn := fun _ => fun
  | [d1, d2, d3] => { results := [.lit (.bool true)], args := [d1, d2, d3] }
  | _ => none }
def pickerPicksRow : OpenClaim := { program := "ytgfjagbcdjmgkaa", sum := "a1665df04d331bfaa5a548349c34f31476edaded57171df8ab63c65cc42b90d3", func := "buttery/butterylaw19.PickerPicks", spec := "pickerPicks", apart := false }
def PickerPicksSaid : Prop := pickerPicksRow.holds Try.pinned (OpenSpec.ofChange pickerPicksSpec)

/-- ITS FALSE NEIGHBOUR: 'it returns false'. Refute it at one input. -/
def pickerPicksWrong : ChangeSpec := { name := "pickerPicks", fn := fun _ => fun
  | [d1, d2, d3] => { results := [.lit (.bool false)], args := [d1, d2, d3] }
  | _ => none }
def PickerPicksWrongFalsely : Prop := pickerPicksRow.holds Try.pinned (OpenSpec.ofChange pickerPicksWrong)

/-- 'butterylaw19.PickerReserves': WHATEVER THE INPUT: true; the input reads as it did. -/
def pickerReservesSpec : ChangeSpec := { name := "pickerReserves", fn := fun _ => fun
  | [d1, d2, d3] => { results := [.lit (.bool true)], args := [d1, d2, d3] }
  | _ => none }
def pickerReservesRow : OpenClaim := { program := "ytgfjagbcdjmgkaa", sum := "a1665df04d331bfaa5a548349c34f31476edaded57171df8ab63c65cc42b90d3", func := "buttery/butterylaw19.PickerReserves", spec := "pickerReserves", apart := false }
def PickerReservesSaid : Prop := pickerReservesRow.holds Try.pinned (OpenSpec.ofChange pickerReservesSpec)

/-- ITS FALSE NEIGHBOUR: 'it returns false'. Refute it at one input. -/
def pickerReservesWrong : ChangeSpec := { name := "pickerReserves", fn := fun _ => fun
  | [d1, d2, d3] => { results := [.lit (.bool false)], args := [d1, d2, d3] }
  | _ => none }
def PickerReservesWrongFalsely : Prop := pickerReservesRow.holds Try.pinned (OpenSpec.ofChange pickerReservesWrong)

/- THE SECOND FORM. 'bulk': how many values and letters a reading holds, each counted each time it is reached (what is shared counts as often as it is met; a slice's spare places count too). A statement '..UptoSaid' is the law's where the arguments, and the package variables that the reading takes, are together of bulk at most 1048576: NARROWER than '..Said'. Prove '..Said' where nothing that the law and all that it calls make is longer than what came in: it says more and counts as full. Else prove '..UptoSaid'. A law counts once. -/
mutual
def uptoBulk {H : Type} : DataW H → Nat
  | .lit (.string bytes) => bytes.length + 1
  | .lit _ => 1
  | .nil => 1
  | .ptr d => uptoBulk d + 1
  | .slice elems spare => uptoBulkAll elems + uptoBulkAll spare + 1
  | .agg parts => uptoBulkAll parts + 1
  | .iface _ d => uptoBulk d + 1
  | .map entries => uptoBulkEntries entries + 1
  | .held _ => 1
def uptoBulkAll {H : Type} : List (DataW H) → Nat
  | [] => 0
  | d :: r => uptoBulk d + uptoBulkAll r
def uptoBulkEntries {H : Type} : List (Lit × DataW H) → Nat
  | [] => 0
  | x :: r => uptoBulkEntry x + uptoBulkEntries r
def uptoBulkEntry {H : Type} : Lit × DataW H → Nat
  | (.string bytes, d) => bytes.length + uptoBulk d + 1
  | (_, d) => uptoBulk d + 1
 end
def uptoSmall : (H : Type) → List (DataW H) → Bool := fun _ ds => decide (uptoBulkAll ds ≤ 1048576)
def OpenSpec.upto (s : _root_.Go.ChangeSpec) : _root_.Go.OpenSpec := { _root_.Go.OpenSpec.ofChange s with cond := some uptoSmall }

/-- 'butterylaw12.BloomBuilds', WHERE WHAT IT READS IS OF BULK AT MOST 1048576: true; the input reads as it did. -/
def bloomBuildsUptoRow : OpenClaim := { program := "ytgfjagbcdjmgkaa", sum := "a1665df04d331bfaa5a548349c34f31476edaded57171df8ab63c65cc42b90d3", func := "buttery/butterylaw12.BloomBuilds", spec := "bloomBuilds", unfollowed := true, recurses := true, apart := false, narrowed := true }
def BloomBuildsUptoSaid : Prop := bloomBuildsUptoRow.holds Try.pinned (OpenSpec.upto bloomBuildsSpec)

/-- 'butterylaw12.BloomTells', WHERE WHAT IT READS IS OF BULK AT MOST 1048576: true; the input reads as it did. -/
def bloomTellsUptoRow : OpenClaim := { program := "ytgfjagbcdjmgkaa", sum := "a1665df04d331bfaa5a548349c34f31476edaded57171df8ab63c65cc42b90d3", func := "buttery/butterylaw12.BloomTells", spec := "bloomTells", unfollowed := true, recurses := true, apart := false, narrowed := true }
def BloomTellsUptoSaid : Prop := bloomTellsUptoRow.holds Try.pinned (OpenSpec.upto bloomTellsSpec)

/-- 'butterylaw12.BloomMore', WHERE WHAT IT READS IS OF BULK AT MOST 1048576: true; the input reads as it did. -/
def bloomMoreUptoRow : OpenClaim := { program := "ytgfjagbcdjmgkaa", sum := "a1665df04d331bfaa5a548349c34f31476edaded57171df8ab63c65cc42b90d3", func := "buttery/butterylaw12.BloomMore", spec := "bloomMore", unfollowed := true, recurses := true, apart := false, narrowed := true }
def BloomMoreUptoSaid : Prop := bloomMoreUptoRow.holds Try.pinned (OpenSpec.upto bloomMoreSpec)

/-- 'butterylaw12.BloomSizes', WHERE WHAT IT READS IS OF BULK AT MOST 1048576: true; the input reads as it did. -/
def bloomSizesUptoRow : OpenClaim := { program := "ytgfjagbcdjmgkaa", sum := "a1665df04d331bfaa5a548349c34f31476edaded57171df8ab63c65cc42b90d3", func := "buttery/butterylaw12.BloomSizes", spec := "bloomSizes", unfollowed := true, recurses := true, apart := false, narrowed := true }
def BloomSizesUptoSaid : Prop := bloomSizesUptoRow.holds Try.pinned (OpenSpec.upto bloomSizesSpec)

/-- 'butterylaw15.BudgetBack', WHERE WHAT IT READS IS OF BULK AT MOST 1048576: true; the input reads as it did. -/
def budgetBackUptoRow : OpenClaim := { program := "ytgfjagbcdjmgkaa", sum := "a1665df04d331bfaa5a548349c34f31476edaded57171df8ab63c65cc42b90d3", func := "buttery/butterylaw15.BudgetBack", spec := "budgetBack", apart := false, narrowed := true }
def BudgetBackUptoSaid : Prop := budgetBackUptoRow.holds Try.pinned (OpenSpec.upto budgetBackSpec)

/-- 'butterylaw19.PickerRest', WHERE WHAT IT READS IS OF BULK AT MOST 1048576: true; the input reads as it did. -/
def pickerRestUptoRow : OpenClaim := { program := "ytgfjagbcdjmgkaa", sum := "a1665df04d331bfaa5a548349c34f31476edaded57171df8ab63c65cc42b90d3", func := "buttery/butterylaw19.PickerRest", spec := "pickerRest", apart := false, narrowed := true }
def PickerRestUptoSaid : Prop := pickerRestUptoRow.holds Try.pinned (OpenSpec.upto pickerRestSpec)

/-- 'butterylaw19.PickerKnown', WHERE WHAT IT READS IS OF BULK AT MOST 1048576: true; the input reads as it did. -/
def pickerKnownUptoRow : OpenClaim := { program := "ytgfjagbcdjmgkaa", sum := "a1665df04d331bfaa5a548349c34f31476edaded57171df8ab63c65cc42b90d3", func := "buttery/butterylaw19.PickerKnown", spec := "pickerKnown", apart := false, narrowed := true }
def PickerKnownUptoSaid : Prop := pickerKnownUptoRow.holds Try.pinned (OpenSpec.upto pickerKnownSpec)

/-- 'butterylaw1.ChargeLaws', WHERE WHAT IT READS IS OF BULK AT MOST 1048576: true; the input reads as it did. -/
def chargeLawsUptoRow : OpenClaim := { program := "ytgfjagbcdjmgkaa", sum := "a1665df04d331bfaa5a548349c34f31476edaded57171df8ab63c65cc42b90d3", func := "buttery/butterylaw1.ChargeLaws", spec := "chargeLaws", apart := false, narrowed := true }
def ChargeLawsUptoSaid : Prop := chargeLawsUptoRow.holds Try.pinned (OpenSpec.upto chargeLawsSpec)

/-- 'butterylaw1.ChargeParts', WHERE WHAT IT READS IS OF BULK AT MOST 1048576: true; the input reads as it did. -/
def chargePartsUptoRow : OpenClaim := { program := "ytgfjagbcdjmgkaa", sum := "a1665df04d331bfaa5a548349c34f31476edaded57171df8ab63c65cc42b90d3", func := "buttery/butterylaw1.ChargeParts", spec := "chargeParts", apart := false, narrowed := true }
def ChargePartsUptoSaid : Prop := chargePartsUptoRow.holds Try.pinned (OpenSpec.upto chargePartsSpec)

/-- 'butterylaw19.PickerPicks', WHERE WHAT IT READS IS OF BULK AT MOST 1048576: true; the input reads as it did. -/
def pickerPicksUptoRow : OpenClaim := { program := "ytgfjagbcdjmgkaa", sum := "a1665df04d331bfaa5a548349c34f31476edaded57171df8ab63c65cc42b90d3", func := "buttery/butterylaw19.PickerPicks", spec := "pickerPicks", apart := false, narrowed := true }
def PickerPicksUptoSaid : Prop := pickerPicksUptoRow.holds Try.pinned (OpenSpec.upto pickerPicksSpec)

/-- 'butterylaw19.PickerReserves', WHERE WHAT IT READS IS OF BULK AT MOST 1048576: true; the input reads as it did. -/
def pickerReservesUptoRow : OpenClaim := { program := "ytgfjagbcdjmgkaa", sum := "a1665df04d331bfaa5a548349c34f31476edaded57171df8ab63c65cc42b90d3", func := "buttery/butterylaw19.PickerReserves", spec := "pickerReserves", apart := false, narrowed := true }
def PickerReservesUptoSaid : Prop := pickerReservesUptoRow.holds Try.pinned (OpenSpec.upto pickerReservesSpec)

end Rows
end Go.Proofs.Ytgfjagbcdjmgkaa
