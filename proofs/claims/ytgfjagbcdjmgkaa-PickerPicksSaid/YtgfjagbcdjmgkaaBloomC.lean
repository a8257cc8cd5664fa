/- The contracts of bloom.May and of the reference's May: which keys a filter lets. -/
import Derived.Test.YtgfjagbcdjmgkaaBloomB
import Derived.Laws.BitsLemmas
namespace Go.Proofs.Ytgfjagbcdjmgkaa
set_option linter.unusedVariables false
set_option linter.unusedSimpArgs false
open Go.RowKit Go.Proofs.YtgfjagbcdjmgkaaW.PrintWords

/-- The last byte of a filter. -/
def lastB (f : List Int) : Int := rd f ((f.length : Int) - 1)
/-- Does a filter let a key? -/
def mayF (f key : List Int) : Bool :=
  if f.length < 2 then true else if 30 < lastB f then true else mayL f (8 * ((f.length : Int) - 1)) (dOf (hashL key)) (lastB f).toNat (hashL key)

/-- A row of bytes. -/
def Bytes (f : List Int) : Prop := ∀ x, x ∈ f → 0 ≤ x ∧ x < 256
theorem Bytes.rd {f : List Int} (h : Bytes f) (i : Int) : 0 ≤ rd f i ∧ rd f i < 256 := by
  unfold YtgfjagbcdjmgkaaW.PrintWords.rd
  rw [List.getD_eq_getElem?_getD]
  cases e : f[i.toNat]? with
  | none => simp
  | some x => simp; exact h x (List.mem_of_getElem? e)

theorem may_any (Af A : Option Addr) (cf c : Nat) (f key : List Int) (w : World) (hf : ReadsInt w .u8 Af f.length f) (hb : Bytes f) (hL : f.length ≤ 1000000) (hr : ReadsInt w .u8 A key.length key) :
    Calls Try.prog 18 #[.slice Af f.length cf, .slice A key.length c] w fun e w' => e = .returned (.bool (mayF f key)) ∧ Below w.heap.size w w' := by
  have hw : ∀ o : Obj, Below w.heap.size w (w.alloc o) := fun o => (Below.refl _ _).alloc (Nat.le_refl _) _
  have hfa : ∀ o : Obj, ReadsInt (w.alloc o) .u8 Af f.length f := fun o => hf.below (hw o)
  have hra : ∀ o : Obj, ReadsInt (w.alloc o) .u8 A key.length key := fun o => hr.below (hw o)
  have HFA := Lib.hid hfa
  have HRA := Lib.hid hra
  have HW := Lib.hid hw
  clear hra hw hr hfa
  by_cases h2 : f.length < 2
  · have e : mayF f key = true := by unfold mayF; rw [if_pos h2]
    rw [e]; clear e
    clear hf
    go_enter Try.func18, Try.ntmps18
    go_wp2
    go_ret
    exact ⟨rfl, HW.out _⟩
  · have HX := hb.rd ((f.length : Int) - 1)
    obtain ⟨ad, rfl, hcell0⟩ := hf.at_ ((f.length : Int) - 1) (by omega) (by omega)
    rw [show ((f.length : Int) - 1).toNat = f.length - 1 by omega] at hcell0
    have hcell := fun o : Obj => pw_cell_below (HW.out o) hcell0
    clear hcell0 hf
    by_cases h3 : 30 < lastB f
    · have e : mayF f key = true := by unfold mayF; rw [if_neg h2, if_pos h3]
      rw [e]; clear e
      unfold lastB at h3
      generalize rd f ((f.length : Int) - 1) = x at *
      go_enter Try.func18, Try.ntmps18
      go_wp2
      go_ret
      exact ⟨rfl, HW.out _⟩
    · obtain ⟨K, hK⟩ : ∃ K : Nat, lastB f = K := ⟨(lastB f).toNat, by unfold lastB; omega⟩
      have e : mayF f key = mayL f (8 * ((f.length : Int) - 1)) (dOf (hashL key)) K (hashL key) := by
        unfold mayF; rw [if_neg h2, if_neg h3, hK]; simp
      rw [e]; clear e
      unfold lastB at hK h3
      rw [hK] at h3 HX
      have hK30 : K ≤ 30 := by omega
      rw [hK] at hcell
      clear hK h3 HX
      go_enter Try.func18, Try.ntmps18
      go_wp2_with fail
      refine (each_may _ _ _ cf _ _ _ _ _ _ (HRA.out _) ?_ (HFA.out _) hL ?_ ?_ (by omega)).mono ?_
      · go_cell
      · omega
      · omega
      rintro e w' ⟨rfl, rfl⟩
      go_wp2
      go_ret
      exact ⟨rfl, HW.out _⟩

theorem and_one {y : Int} (h0 : 0 ≤ y) (h1 : y < 256) : bits .and .u8 y 1 = y % 2 := bits_mask .u8 8 (by decide) wraps_u8 1 (by decide) y h0 h1
theorem hasBit_not {f : List Int} (hb : Bytes f) (p : Int) : (bits .and .u8 (rd f (p / 8) / 2 ^ (p % 8).toNat) 1 == 0) = !hasBit f p := by
  have h := hb.rd (p / 8)
  have hp : (0 : Int) < 2 ^ (p % 8).toNat := Int.pow_pos (by omega)
  have h0 : 0 ≤ rd f (p / 8) / 2 ^ (p % 8).toNat := Int.ediv_nonneg h.1 (by omega)
  have h1 : rd f (p / 8) / 2 ^ (p % 8).toNat < 256 := Int.lt_of_le_of_lt (Int.ediv_le_self _ h.1) h.2
  unfold hasBit
  rw [and_one h0 h1]
  have : rd f (p / 8) / 2 ^ (p % 8).toNat % 2 = 0 ∨ rd f (p / 8) / 2 ^ (p % 8).toNat % 2 = 1 := by omega
  rcases this with e | e <;> rw [e] <;> rfl

set_option maxHeartbeats 800000 in
theorem may9_any (Af A : Option Addr) (cf c : Nat) (f key : List Int) (w : World) (hf : ReadsInt w .u8 Af f.length f) (hb : Bytes f) (hL : f.length ≤ 1000000) (hr : ReadsInt w .u8 A key.length key) :
    Calls Try.prog 21 #[.slice Af f.length cf, .slice A key.length c] w fun e w' => e = .returned (.bool (mayF f key)) ∧ w = w' := by
  have HR := Lib.hid hr
  have HF := Lib.hid hf
  clear hr
  by_cases h2 : f.length < 2
  · have e : mayF f key = true := by unfold mayF; rw [if_pos h2]
    rw [e]; clear e
    clear hf
    go_enter Try.func21, Try.ntmps21
    go_wp2
    go_ret
    exact ⟨rfl, rfl⟩
  · have HX := hb.rd ((f.length : Int) - 1)
    obtain ⟨ad, rfl, hcell⟩ := hf.at_ ((f.length : Int) - 1) (by omega) (by omega)
    rw [show ((f.length : Int) - 1).toNat = f.length - 1 by omega] at hcell
    clear hf
    by_cases h3 : 30 < lastB f
    · have e : mayF f key = true := by unfold mayF; rw [if_neg h2, if_pos h3]
      rw [e]; clear e
      unfold lastB at h3
      generalize rd f ((f.length : Int) - 1) = x at *
      go_enter Try.func21, Try.ntmps21
      go_wp2
      go_ret
      exact ⟨rfl, rfl⟩
    · obtain ⟨K, hK⟩ : ∃ K : Nat, lastB f = K := ⟨(lastB f).toNat, by unfold lastB; omega⟩
      have e : mayF f key = mayL f (8 * ((f.length : Int) - 1)) (dOf (hashL key)) K (hashL key) := by
        unfold mayF; rw [if_neg h2, if_neg h3, hK]; simp
      rw [e]; clear e
      unfold lastB at hK h3
      rw [hK] at h3 HX
      have hK30 : K ≤ 30 := by omega
      rw [hK] at hcell
      clear hK h3 HX
      have HH := hashL_in key
      have HD := dOf_in (hashL key)
      go_enter Try.func21, Try.ntmps21
      go_wp2_with (go_at_call 20; refine (hash9_any _ _ _ _ HR.out).mono ?_; rintro e w' ⟨rfl, rfl⟩)
      go_loop [6, 8] (fun v i => ∃ (k : Nat) (h : Int), k ≤ K ∧ i = .int .i64 k ∧ v = .int .u32 h ∧ 0 ≤ h ∧ h < 4294967296 ∧ Hid (mayL f (8 * ((f.length : Int) - 1)) (dOf (hashL key)) (K - k) h = mayL f (8 * ((f.length : Int) - 1)) (dOf (hashL key)) K (hashL key))) (fun _ i => K - (intOf i).toNat)
      case atStart => exact ⟨0, _, Nat.zero_le _, rfl, rfl, HH.1, HH.2, rfl⟩
      case round =>
        obtain ⟨k, h, hk, rfl, rfl, h0, h1, HE⟩ := hrel
        by_cases hlt : k < K
        · have hm0 : 0 < 8 * ((f.length : Int) - 1) := by omega
          have hp := mod_in (h := h) hm0
          have hs : mayL f (8 * ((f.length : Int) - 1)) (dOf (hashL key)) (K - k) h = (hasBit f (h % (8 * ((f.length : Int) - 1))) && mayL f (8 * ((f.length : Int) - 1)) (dOf (hashL key)) (K - (k + 1)) (stepH (dOf (hashL key)) h)) := by
            have e : K - k = (K - (k + 1)) + 1 := by omega
            rw [e]; rfl
          have hst := stepH_in (dOf (hashL key)) h
          have hE := HE.out
          rw [hs] at hE
          clear hs HE
          obtain ⟨p, hpp⟩ : ∃ p, h % (8 * ((f.length : Int) - 1)) = p := ⟨_, rfl⟩
          rw [hpp] at hp hE
          obtain ⟨ad', e', hcellp⟩ := HF.out.at_ (p / 8) (by omega) (by omega)
          obtain rfl : ad = ad' := by injection e'
          clear e'
          have hbr := hb.rd (p / 8)
          have hnb := hasBit_not hb p
          cases hbit : hasBit f p
          · have hz : Hid (mayL f (8 * ((f.length : Int) - 1)) (dOf (hashL key)) K (hashL key) = false) := by
              rw [hbit] at hE; exact hE.symm
            rw [hbit] at hnb
            have HNB : (bits .and .u8 (rd f (p / 8) / 2 ^ (p % 8).toNat) 1 == 0) = true := hnb
            clear hnb hE hbit
            go_wp2_with fail
            go_ret
            exact ⟨ret_b hz.out.symm, rfl⟩
          · have hz : Hid (mayL f (8 * ((f.length : Int) - 1)) (dOf (hashL key)) (K - (k + 1)) (stepH (dOf (hashL key)) h) = mayL f (8 * ((f.length : Int) - 1)) (dOf (hashL key)) K (hashL key)) := by
              rw [hbit, Bool.true_and] at hE; exact hE
            rw [hbit] at hnb
            have HNB : (bits .and .u8 (rd f (p / 8) / 2 ^ (p % 8).toNat) 1 == 0) = false := hnb
            clear hnb hE hbit
            go_wp2_with fail
            go_round
            case rel => exact ⟨k + 1, stepH (dOf (hashL key)) h, by omega, by go_num, by unfold stepH dOf; rfl, hst.1, hst.2, hz⟩
            case measure => simp [intOf]; omega
        · have hz : Hid (mayL f (8 * ((f.length : Int) - 1)) (dOf (hashL key)) K (hashL key) = true) := by
            have := HE.out; rw [show K - k = 0 by omega] at this; exact this.symm
          go_wp2_with fail
          go_ret
          exact ⟨ret_b hz.out.symm, rfl⟩

end Go.Proofs.Ytgfjagbcdjmgkaa
