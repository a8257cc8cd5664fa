/- Contracts of package bloom's small functions, and of the reference's: a key's hash, and the two closures. -/
import Derived.Test.YtgfjagbcdjmgkaaPBloomBuildsx1
import Derived.WalkLawsBesides
import Derived.Lib.Hide
import Derived.IntWalk
import Derived.Outline
import Derived.Handy
namespace Go.Proofs.Ytgfjagbcdjmgkaa
set_option linter.unusedVariables false
set_option linter.unusedSimpArgs false
open Go.RowKit Go.Proofs.YtgfjagbcdjmgkaaW.PrintWords

theorem ret_i {k : IntKind} {a b : Int} (h : a = b) : Ending.returned (.int k a) = .returned (.int k b) := by rw [h]

theorem ret_b {a b : Bool} (h : a = b) : Ending.returned (.bool a) = .returned (.bool b) := by rw [h]

/-- One byte of a hash. -/
def hashStep (h c : Int) : Int := (bits .xor .u32 h (c % 4294967296) * 16777619) % 4294967296
def hashL (l : List Int) : Int := l.foldl hashStep 2166136261
theorem hashL_snoc (l : List Int) (c : Int) : hashL (l ++ [c]) = hashStep (hashL l) c := by simp [hashL]
theorem hashStep_in (h c : Int) : 0 ≤ hashStep h c ∧ hashStep h c < 4294967296 := by unfold hashStep; omega
theorem hashL_in (l : List Int) : 0 ≤ hashL l ∧ hashL l < 4294967296 := by
  have key : ∀ (l : List Int) (a : Int), 0 ≤ a ∧ a < 4294967296 → 0 ≤ l.foldl hashStep a ∧ l.foldl hashStep a < 4294967296 := by
    intro l
    induction l with
    | nil => intro a h; exact h
    | cons p l ih => intro a _; exact ih _ (hashStep_in a p)
  exact key l _ (by omega)

theorem take_next {α : Type} (l : List α) (k : Nat) (h : k < l.length) : l.take (k + 1) = l.take k ++ [l[k]] := by rw [List.take_succ_eq_append_getElem h]
theorem rd_at (l : List Int) (k : Nat) (h : k < l.length) : rd l (k : Int) = l[k] := by
  unfold rd; simp [h]

theorem hash_any (A : Option Addr) (c : Nat) (l : List Int) (w : World) (hr : ReadsInt w .u8 A l.length l) :
    Calls Try.prog 19 #[.slice A l.length c] w fun e w' => e = .returned (.int .u32 (hashL l)) ∧ w = w' := by
  have hm := hr.2.1
  have HR := Lib.hid hr; clear hr
  go_enter Try.func19, Try.ntmps19
  go_wp2
  go_loop [3, 8] (fun h i => ∃ k : Nat, k ≤ l.length ∧ i = .int .i64 k ∧ h = .int .u32 (hashL (l.take k))) (fun _ i => l.length - (intOf i).toNat)
  case atStart => exact ⟨0, Nat.zero_le _, rfl, rfl⟩
  case round =>
    obtain ⟨k, hk, rfl, rfl⟩ := hrel
    have hb := hashL_in (l.take k)
    by_cases hlt : k < l.length
    · obtain ⟨ad, rfl, hcell⟩ := HR.out.at_ (k : Int) (by omega) (by omega)
      rw [rd_at l k hlt, Int.toNat_natCast] at hcell
      have HX : Hid (hashL (l.take (k + 1)) = hashStep (hashL (l.take k)) l[k]) := by rw [take_next l k hlt]; exact hashL_snoc _ _
      go_wp2
      go_round
      case rel => exact ⟨k + 1, by omega, by go_num, by rw [HX.out]; unfold hashStep; rfl⟩
      case measure => simp [intOf]; omega
    · have e : Hid (hashL (l.take k) = hashL l) := by rw [List.take_of_length_le (by omega)]; rfl
      go_wp2
      go_ret
      exact ⟨ret_i e.out, rfl⟩

theorem hash9_any (A : Option Addr) (c : Nat) (l : List Int) (w : World) (hr : ReadsInt w .u8 A l.length l) :
    Calls Try.prog 20 #[.slice A l.length c] w fun e w' => e = .returned (.int .u32 (hashL l)) ∧ w = w' := by
  have hm := hr.2.1
  have HR := Lib.hid hr; clear hr
  go_enter Try.func20, Try.ntmps20
  go_wp2
  go_loop [3, 4] (fun h i => ∃ k : Nat, k ≤ l.length ∧ i = .int .i64 k ∧ h = .int .u32 (hashL (l.take k))) (fun _ i => l.length - (intOf i).toNat)
  case atStart => exact ⟨0, Nat.zero_le _, rfl, rfl⟩
  case round =>
    obtain ⟨k, hk, rfl, rfl⟩ := hrel
    have hb := hashL_in (l.take k)
    by_cases hlt : k < l.length
    · obtain ⟨ad, rfl, hcell⟩ := HR.out.at_ (k : Int) (by omega) (by omega)
      rw [rd_at l k hlt, Int.toNat_natCast] at hcell
      have HX : Hid (hashL (l.take (k + 1)) = hashStep (hashL (l.take k)) l[k]) := by rw [take_next l k hlt]; exact hashL_snoc _ _
      go_wp2
      go_round
      case rel => exact ⟨k + 1, by omega, by go_num, by rw [HX.out]; unfold hashStep; rfl⟩
      case measure => simp [intOf]; omega
    · have e : Hid (hashL (l.take k) = hashL l) := by rw [List.take_of_length_le (by omega)]; rfl
      go_wp2
      go_ret
      exact ⟨ret_i e.out, rfl⟩

/-- Is a bit of a filter set? -/
def hasBit (f : List Int) (p : Int) : Bool := bits .and .u8 (rd f (p / 8) / 2 ^ (p % 8).toNat) 1 == 1
/-- A filter with one bit more. -/
def setBit (f : List Int) (p : Int) : List Int := f.set (p / 8).toNat (bits .or .u8 (rd f (p / 8)) (2 ^ (p % 8).toNat % 256))

theorem test_bit (p : Int) (box : Nat) (A : Option Addr) (c : Nat) (f : List Int) (w : World) (hb : w.cell? ⟨box, 0, none⟩ = some (.slice A f.length c))
    (h0 : 0 ≤ p) (h1 : p < 8 * f.length) (hL : f.length ≤ 1000000) (hr : ReadsInt w .u8 A f.length f) :
    Calls Try.prog 48 #[.int .i64 p, .pointer (some ⟨box, 0, none⟩)] w fun e w' => e = .returned (.bool (hasBit f p)) ∧ w = w' := by
  obtain ⟨ad, rfl, hcell⟩ := hr.at_ (p / 8) (by omega) (by omega)
  clear hr
  have hs : p % 8 ≤ 8 := by omega
  unfold hasBit
  generalize rd f (p / 8) = x at *
  go_enter Try.func48, Try.ntmps48
  go_wp2
  go_ret
  exact ⟨rfl, rfl⟩

theorem set_bit (p : Int) (box g L c : Nat) (x : Int) (w : World) (hb : w.cell? ⟨box, 0, none⟩ = some (.slice (some ⟨g, 0, none⟩) L c))
    (h0 : 0 ≤ p) (h1 : p < 8 * L) (hL : L ≤ 1000000) (hc : w.cell? ⟨g, (p / 8).toNat, none⟩ = some (.int .u8 x)) (hf : w.frozen? ⟨g, (p / 8).toNat, none⟩ = false) :
    Calls Try.prog 46 #[.int .i64 p, .pointer (some ⟨box, 0, none⟩)] w fun e w' => e = .returned (.bool true) ∧ (w.setCell ⟨g, (p / 8).toNat, none⟩ (.int .u8 (bits .or .u8 x (2 ^ (p % 8).toNat % 256)))).drew = w' := by
  have hb0 : 0 ≤ p / 8 := by omega
  have hb1 : p / 8 < L := by omega
  have hr0 : 0 ≤ p % 8 := by omega
  have hr1 : p % 8 < 8 := by omega
  have hq : IntKind.i64.wrap (p.tdiv 8) = p / 8 := by rw [Int.tdiv_eq_ediv_of_nonneg h0]; exact IntWalk.i64_in _ ⟨by omega, by omega⟩
  have hr : p.tmod 8 = p % 8 := Int.tmod_eq_emod_of_nonneg h0
  go_enter Try.func46, Try.ntmps46
  go_wp2
  go_region
  go_wp2
  go_ret
  exact ⟨rfl, rfl⟩

def dOf (h : Int) : Int := bits .or .u32 (h / 131072) ((h * 32768) % 4294967296)
def stepH (d h : Int) : Int := (h + d) % 4294967296
theorem dOf_in (h : Int) : 0 ≤ dOf h ∧ dOf h < 4294967296 := by
  unfold dOf bits; simp only [IntKind.wrap_u32]; omega
theorem stepH_in (d h : Int) : 0 ≤ stepH d h ∧ stepH d h < 4294967296 := by unfold stepH; omega

/-- Are so many bits set, from one hash on? -/
def mayL (f : List Int) (m d : Int) : Nat → Int → Bool
  | 0, _ => true
  | k + 1, h => hasBit f (h % m) && mayL f m d k (stepH d h)

theorem mod_in {h m : Int} (hm : 0 < m) : 0 ≤ h % m ∧ h % m < m := ⟨Int.emod_nonneg _ (by omega), Int.emod_lt_of_pos _ hm⟩

theorem each_may (A Af : Option Addr) (c cf : Nat) (key f : List Int) (K : Nat) (m : Int) (box : Nat) (w : World) (hr : ReadsInt w .u8 A key.length key)
    (hb : w.cell? ⟨box, 0, none⟩ = some (.slice Af f.length cf)) (hf : ReadsInt w .u8 Af f.length f) (hL : f.length ≤ 1000000) (hm0 : 0 < m) (hm : m ≤ 8 * f.length) (hK : K ≤ 255) :
    Calls Try.prog 45 #[.slice A key.length c, .int .i64 K, .int .i64 m, .func (.func 48) #[] #[.pointer (some ⟨box, 0, none⟩)]] w
      fun e w' => e = .returned (.bool (mayL f m (dOf (hashL key)) K (hashL key))) ∧ w = w' := by
  have HH := hashL_in key
  have HD := dOf_in (hashL key)
  have HF := Lib.hid hf
  have HR := Lib.hid hr
  clear hf hr
  go_enter Try.func45, Try.ntmps45
  go_wp2_with (go_at_call 19; refine (hash_any _ _ _ _ HR.out).mono ?_; rintro e w' ⟨rfl, rfl⟩)
  go_loop [9, 19] (fun v i => ∃ (k : Nat) (h : Int), k ≤ K ∧ i = .int .i64 k ∧ v = .int .u32 h ∧ 0 ≤ h ∧ h < 4294967296 ∧ Hid (mayL f m (dOf (hashL key)) (K - k) h = mayL f m (dOf (hashL key)) K (hashL key))) (fun _ i => K - (intOf i).toNat)
  case atStart => exact ⟨0, _, Nat.zero_le _, rfl, rfl, HH.1, HH.2, rfl⟩
  case round =>
    obtain ⟨k, h, hk, rfl, rfl, h0, h1, HE⟩ := hrel
    by_cases hlt : k < K
    · have hp := mod_in (h := h) hm0
      have hs : Hid (mayL f m (dOf (hashL key)) (K - k) h = (hasBit f (h % m) && mayL f m (dOf (hashL key)) (K - (k + 1)) (stepH (dOf (hashL key)) h))) := by
        have e : K - k = (K - (k + 1)) + 1 := by omega
        rw [e]; rfl
      have hst := stepH_in (dOf (hashL key)) h
      have hpm : h % m < 9223372036854775807 := by omega
      cases hbit : hasBit f (h % m)
      · have hz : Hid (mayL f m (dOf (hashL key)) K (hashL key) = false) := by
          have := HE.out; rw [hs.out, hbit] at this; exact this.symm
        have hbit' := Lib.hid hbit; clear hbit
        go_wp2_with fail
        refine (test_bit _ _ _ _ _ _ hb hp.1 (by omega) hL HF.out).mono ?_
        rintro e w' ⟨rfl, rfl⟩
        rw [hbit'.out]
        go_wp2
        go_ret
        exact ⟨ret_b hz.out.symm, rfl⟩
      · have hz : Hid (mayL f m (dOf (hashL key)) (K - (k + 1)) (stepH (dOf (hashL key)) h) = mayL f m (dOf (hashL key)) K (hashL key)) := by
          have := HE.out; rw [hs.out, hbit, Bool.true_and] at this; exact this
        have hbit' := Lib.hid hbit; clear hbit
        go_wp2_with fail
        refine (test_bit _ _ _ _ _ _ hb hp.1 (by omega) hL HF.out).mono ?_
        rintro e w' ⟨rfl, rfl⟩
        rw [hbit'.out]
        go_wp2
        go_round
        case rel => exact ⟨k + 1, stepH (dOf (hashL key)) h, by omega, by go_num, by unfold stepH dOf; rfl, hst.1, hst.2, hz⟩
        case measure => simp [intOf]; omega
    · have hz : Hid (mayL f m (dOf (hashL key)) K (hashL key) = true) := by
        have := HE.out; rw [show K - k = 0 by omega] at this; exact this.symm
      go_wp2
      go_ret
      exact ⟨ret_b hz.out.symm, rfl⟩

/-- Only one block may have been written; none is new. -/
structure Only (g : Nat) (w w' : World) : Prop where
  os : w'.os = w.os
  tape : w'.tape = w.tape
  output : w'.output = w.output
  size : w'.heap.size = w.heap.size
  block : ∀ k, k ≠ g → w'.heap[k]? = w.heap[k]?
theorem Only.refl (g : Nat) (w : World) : Only g w w := ⟨rfl, rfl, rfl, rfl, fun _ _ => rfl⟩
theorem Only.trans {g : Nat} {a b c : World} (h : Only g a b) (k : Only g b c) : Only g a c :=
  ⟨k.os.trans h.os, k.tape.trans h.tape, k.output.trans h.output, k.size.trans h.size, fun i hi => (k.block i hi).trans (h.block i hi)⟩
theorem Only.set {g : Nat} {a b : World} (h : Only g a b) (j : Nat) (u : Value) : Only g a (b.setCell ⟨g, j, none⟩ u).drew :=
  h.trans ⟨rfl, rfl, rfl, by simp, fun k hk => Below.heap_setCell b ⟨g, j, none⟩ u k hk⟩
theorem Only.cell {g : Nat} {a b : World} (h : Only g a b) {p : Addr} (hp : p.block ≠ g) : b.cell? p = a.cell? p := World.cell?_of_block (h.block _ hp)
theorem Only.below {g B : Nat} {a b : World} (h : Only g a b) (hg : B ≤ g) : Below B a b := ⟨h.os, h.tape, h.output, Nat.le_of_eq h.size.symm, fun k hk => h.block k (by omega)⟩
theorem Only.ints {g : Nat} {a b : World} (h : Only g a b) {k : IntKind} {A : Option Addr} {n : Nat} {xs : List Int} (hr : ReadsInt a k A n xs) (hA : ∀ ad, A = some ad → ad.block ≠ g) : ReadsInt b k A n xs :=
  ⟨hr.1, hr.2.1, fun hn => by
    obtain ⟨ad, e, hc⟩ := hr.2.2 hn
    exact ⟨ad, e, fun j hj => (h.cell (p := ad.add j) (by have := hA ad e; unfold Addr.add; split <;> simpa using this)).trans (hc j hj)⟩⟩

/-- A block of bytes, whole. -/
def Filt (w : World) (g : Nat) (f : List Int) : Prop := w.heap[g]? = some (.cells (nums .u8 f).toArray 5 (0, 0))
theorem Filt.cell {w : World} {g : Nat} {f : List Int} (h : Filt w g f) (j : Nat) (hj : j < f.length) : w.cell? ⟨g, j, none⟩ = some (.int .u8 (f.getD j 0)) := by
  unfold World.cell?; rw [h]; simp [nums, hj]
theorem Filt.frozen {w : World} {g : Nat} {f : List Int} (h : Filt w g f) (j : Nat) : w.frozen? ⟨g, j, none⟩ = false := by
  unfold World.frozen?; rw [h]; simp
theorem Filt.set {w : World} {g : Nat} {f : List Int} (h : Filt w g f) (j : Nat) (x : Int) : Filt (w.setCell ⟨g, j, none⟩ (.int .u8 x)).drew g (f.set j x) := by
  show (w.setCell ⟨g, j, none⟩ (.int .u8 x)).heap[g]? = _
  simp only [World.setCell, Array.getElem?_modify, if_pos rfl]
  unfold Filt at h
  rw [h]
  simp [nums, List.map_set]

def keyBits (m d : Int) : Nat → Int → List Int → List Int
  | 0, _, f => f
  | k + 1, h, f => keyBits m d k (stepH d h) (setBit f (h % m))
theorem setBit_length (f : List Int) (p : Int) : (setBit f p).length = f.length := by simp [setBit]
theorem keyBits_length (m d : Int) (k : Nat) : ∀ (h : Int) (f : List Int), (keyBits m d k h f).length = f.length := by
  induction k with
  | zero => intro h f; rfl
  | succ k ih => intro h f; rw [keyBits, ih, setBit_length]

set_option maxHeartbeats 400000 in
theorem each_build (A : Option Addr) (c cf : Nat) (key f : List Int) (K : Nat) (m : Int) (box g : Nat) (w : World) (hr : ReadsInt w .u8 A key.length key) (hbg : box ≠ g)
    (hb : w.cell? ⟨box, 0, none⟩ = some (.slice (some ⟨g, 0, none⟩) f.length cf)) (hf : Filt w g f) (hL : f.length ≤ 1000000) (hm0 : 0 < m) (hm : m ≤ 8 * f.length) (hK : K ≤ 255) :
    Calls Try.prog 45 #[.slice A key.length c, .int .i64 K, .int .i64 m, .func (.func 46) #[] #[.pointer (some ⟨box, 0, none⟩)]] w
      fun e w' => e = .returned (.bool true) ∧ Filt w' g (keyBits m (dOf (hashL key)) K (hashL key) f) ∧ Only g w w' := by
  have HH := hashL_in key
  have HD := dOf_in (hashL key)
  have HF := Lib.hid hf
  have HR := Lib.hid hr
  have HB := Lib.hid hb
  clear hf hr hb
  go_enter Try.func45, Try.ntmps45
  go_wp2_with (go_at_call 19; refine (hash_any _ _ _ _ HR.out).mono ?_; rintro e w' ⟨rfl, rfl⟩)
  go_loopw [9, 19] (fun v i wr => ∃ (k : Nat) (h : Int) (fk : List Int), k ≤ K ∧ i = .int .i64 k ∧ v = .int .u32 h ∧ 0 ≤ h ∧ h < 4294967296 ∧ fk.length = f.length ∧ Hid (keyBits m (dOf (hashL key)) (K - k) h fk = keyBits m (dOf (hashL key)) K (hashL key) f) ∧ Filt wr g fk ∧ Only g w wr) (fun _ i _ => K - (intOf i).toNat)
  case atStart => exact ⟨0, _, f, Nat.zero_le _, rfl, rfl, HH.1, HH.2, rfl, rfl, HF.out, Only.refl _ _⟩
  case round =>
    obtain ⟨k, h, fk, hk, rfl, rfl, h0, h1, hlen, HE, hfk, honly⟩ := hrel
    have HLEN := Lib.hid hlen
    have hlen' : f.length ≤ fk.length := by omega
    clear hlen
    by_cases hlt : k < K
    · have hp := mod_in (h := h) hm0
      have hz : Hid (keyBits m (dOf (hashL key)) (K - (k + 1)) (stepH (dOf (hashL key)) h) (setBit fk (h % m)) = keyBits m (dOf (hashL key)) K (hashL key) f) := by
        have e : K - k = (K - (k + 1)) + 1 := by omega
        have := HE.out; rw [e] at this; exact this
      have hst := stepH_in (dOf (hashL key)) h
      have hpm : h % m < 9223372036854775807 := by omega
      have hcell := hfk.cell (h % m / 8).toNat (by omega)
      have hfr := hfk.frozen (h % m / 8).toNat
      have hbx := (honly.cell (p := ⟨box, 0, none⟩) hbg).trans HB.out
      go_wp2_with fail
      refine (set_bit (h % m) box g _ cf (rd fk (h % m / 8)) _ hbx hp.1 (by omega) hL hcell hfr).mono ?_
      rintro e w' ⟨rfl, rfl⟩
      clear hcell hfr hbx
      have hfk2 := hfk.set (h % m / 8).toNat (bits .or .u8 (rd fk (h % m / 8)) (2 ^ (h % m % 8).toNat % 256))
      have honly2 := honly.set (h % m / 8).toNat (.int .u8 (bits .or .u8 (rd fk (h % m / 8)) (2 ^ (h % m % 8).toNat % 256)))
      go_wp2
      go_roundw
      case rel => exact ⟨k + 1, stepH (dOf (hashL key)) h, setBit fk (h % m), by omega, by go_num, by unfold stepH dOf; rfl, hst.1, hst.2, by rw [setBit_length]; exact HLEN.out, hz, hfk2, honly2⟩
      case measure => simp [intOf]; omega
    · have hz : Hid (fk = keyBits m (dOf (hashL key)) K (hashL key) f) := by
        have := HE.out; rw [show K - k = 0 by omega] at this; exact this
      go_wp2
      go_ret
      exact ⟨rfl, hz.out ▸ hfk, honly⟩

end Go.Proofs.Ytgfjagbcdjmgkaa
