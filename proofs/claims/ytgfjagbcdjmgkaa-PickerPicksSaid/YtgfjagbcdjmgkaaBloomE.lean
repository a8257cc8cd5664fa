/- What a filter's bits are: no walk. -/
import Derived.Test.YtgfjagbcdjmgkaaBloomD
namespace Go.Proofs.Ytgfjagbcdjmgkaa
set_option linter.unusedVariables false
set_option linter.unusedSimpArgs false
open Go.RowKit Go.Proofs.YtgfjagbcdjmgkaaW.PrintWords Go.Proofs.YtgfjagbcdjmgkaaW.PrintMore

theorem or_nat {a b : Nat} (ha : a < 256) (hb : b < 256) : bits .or .u8 (a : Int) (b : Int) = ((a ||| b : Nat) : Int) := (bits_nat .u8 8 (by decide) wraps_u8 a b ha hb).2

theorem hasBit_nat {f : List Int} (hb : Bytes f) {p : Int} (h0 : 0 ≤ p) : hasBit f p = (rd f (p / 8)).toNat.testBit (p % 8).toNat := by
  have h := hb.rd (p / 8)
  obtain ⟨a, ha⟩ : ∃ a : Nat, rd f (p / 8) = a := ⟨(rd f (p / 8)).toNat, by omega⟩
  unfold hasBit
  rw [ha] at h ⊢
  generalize (p % 8).toNat = j
  have hp : (0 : Int) < 2 ^ j := Int.pow_pos (by omega)
  have e : (a : Int) / 2 ^ j = ((a / 2 ^ j : Nat) : Int) := by simp
  have hle : a / 2 ^ j ≤ a := Nat.div_le_self _ _
  rw [e, Int.toNat_natCast, Nat.testBit_eq_decide_div_mod_eq]
  clear e
  generalize a / 2 ^ j = q at *
  rw [and_one (by omega) (by omega)]
  have : q % 2 = 0 ∨ q % 2 = 1 := by omega
  rcases this with h1 | h1
  · have h2 : (q : Int) % 2 = 0 := by omega
    rw [h1, h2]; rfl
  · have h2 : (q : Int) % 2 = 1 := by omega
    rw [h1, h2]; rfl

theorem setBit_val {f : List Int} (hb : Bytes f) {q : Int} (h0 : 0 ≤ q) : bits .or .u8 (rd f (q / 8)) (2 ^ (q % 8).toNat % 256) = (((rd f (q / 8)).toNat ||| 2 ^ (q % 8).toNat : Nat) : Int) := by
  have h := hb.rd (q / 8)
  obtain ⟨a, ha⟩ : ∃ a : Nat, rd f (q / 8) = a := ⟨(rd f (q / 8)).toNat, by omega⟩
  rw [ha] at h ⊢
  have hj : (q % 8).toNat < 8 := by omega
  generalize (q % 8).toNat = j at *
  have hp : 2 ^ j < 256 := by
    have : 2 ^ j < 2 ^ 8 := Nat.pow_lt_pow_right (by omega) hj
    simpa using this
  have e : (2 : Int) ^ j % 256 = ((2 ^ j : Nat) : Int) := by
    have e1 : (2 : Int) ^ j = ((2 ^ j : Nat) : Int) := by simp
    rw [e1]; generalize 2 ^ j = q at *; omega
  rw [e, or_nat (by omega) hp, Int.toNat_natCast]

theorem or_lt {a b : Nat} (ha : a < 256) (hb : b < 256) : a ||| b < 256 := Nat.or_lt_two_pow (n := 8) ha hb

theorem setBit_bytes {f : List Int} (hb : Bytes f) {q : Int} (h0 : 0 ≤ q) : Bytes (setBit f q) := by
  intro x hx
  unfold setBit at hx
  rcases List.mem_or_eq_of_mem_set hx with h | h
  · exact hb x h
  · rw [h, setBit_val hb h0]
    have h1 := hb.rd (q / 8)
    have hj : (q % 8).toNat < 8 := by omega
    have hp : 2 ^ (q % 8).toNat < 256 := by
      have : 2 ^ (q % 8).toNat < 2 ^ 8 := Nat.pow_lt_pow_right (by omega) hj
      simpa using this
    have := or_lt (a := (rd f (q / 8)).toNat) (b := 2 ^ (q % 8).toNat) (by omega) hp
    omega

theorem hasBit_setBit {f : List Int} (hb : Bytes f) {p q : Int} (hp0 : 0 ≤ p) (hq0 : 0 ≤ q) (hq : q < 8 * f.length) : hasBit (setBit f q) p = (hasBit f p || p == q) := by
  rw [hasBit_nat (setBit_bytes hb hq0) hp0, hasBit_nat hb hp0]
  by_cases hd : p / 8 = q / 8
  · have e : rd (setBit f q) (p / 8) = (((rd f (q / 8)).toNat ||| 2 ^ (q % 8).toNat : Nat) : Int) := by
      rw [hd]
      unfold setBit rd
      rw [List.getD_eq_getElem?_getD, List.getElem?_set_self (by omega), Option.getD_some]
      exact setBit_val hb hq0
    rw [e, Int.toNat_natCast, Nat.testBit_or, Nat.testBit_two_pow, hd]
    congr 1
    by_cases h : p = q
    · subst h; simp
    · have h1 : (q % 8).toNat ≠ (p % 8).toNat := by omega
      simp [h, h1]
  · have e : rd (setBit f q) (p / 8) = rd f (p / 8) := by
      unfold setBit rd
      rw [List.getD_eq_getElem?_getD, List.getElem?_set_ne (by omega), List.getD_eq_getElem?_getD]
    have h : (p == q) = false := beq_eq_false_iff_ne.2 (by rintro rfl; exact hd rfl)
    rw [e, h, Bool.or_false]

/-- Is a place one of a key's? -/
def inKey (m d : Int) : Nat → Int → Int → Bool
  | 0, _, _ => false
  | k + 1, h, p => p == h % m || inKey m d k (stepH d h) p

theorem keyBits_bytes {m d : Int} (hm0 : 0 < m) (k : Nat) : ∀ (h : Int) (f : List Int), Bytes f → Bytes (keyBits m d k h f) := by
  induction k with
  | zero => intro h f hb; exact hb
  | succ k ih => intro h f hb; exact ih _ _ (setBit_bytes hb (mod_in hm0).1)

theorem hasBit_keyBits {m d : Int} (hm0 : 0 < m) {p : Int} (hp0 : 0 ≤ p) (k : Nat) : ∀ (h : Int) (f : List Int), Bytes f → m ≤ 8 * f.length → hasBit (keyBits m d k h f) p = (hasBit f p || inKey m d k h p) := by
  induction k with
  | zero => intro h f hb hm; rw [keyBits, inKey, Bool.or_false]
  | succ k ih =>
    intro h f hb hm
    have hp := mod_in (h := h) hm0
    rw [keyBits, ih _ _ (setBit_bytes hb hp.1) (by rw [setBit_length]; exact hm), hasBit_setBit hb hp0 hp.1 (by omega), inKey, Bool.or_assoc]

theorem keysL_bytes {m : Int} (hm0 : 0 < m) (K : Nat) (keys : List (List Int)) : ∀ f : List Int, Bytes f → Bytes (keysL m K f keys) := by
  induction keys with
  | nil => intro f hb; exact hb
  | cons key l ih => intro f hb; exact ih _ (keyBits_bytes hm0 K _ _ hb)

theorem hasBit_keysL {m : Int} (hm0 : 0 < m) (K : Nat) {p : Int} (hp0 : 0 ≤ p) (keys : List (List Int)) : ∀ f : List Int, Bytes f → m ≤ 8 * f.length →
    hasBit (keysL m K f keys) p = (hasBit f p || keys.any fun key => inKey m (dOf (hashL key)) K (hashL key) p) := by
  induction keys with
  | nil => intro f hb hm; simp [keysL]
  | cons key l ih =>
    intro f hb hm
    show hasBit (keysL m K (keyBits m (dOf (hashL key)) K (hashL key) f) l) p = _
    rw [ih _ (keyBits_bytes hm0 K _ _ hb) (by rw [keyBits_length]; exact hm), hasBit_keyBits hm0 hp0 K _ _ hb hm, List.any_cons, Bool.or_assoc]

theorem mayL_of {f : List Int} {m d : Int} (hm0 : 0 < m) (k : Nat) : ∀ h : Int, (∀ p, 0 ≤ p → inKey m d k h p = true → hasBit f p = true) → mayL f m d k h = true := by
  induction k with
  | zero => intro h _; rfl
  | succ k ih =>
    intro h hall
    rw [mayL, hall (h % m) (mod_in hm0).1 (by rw [inKey]; simp), Bool.true_and]
    exact ih _ fun p hp hk => hall p hp (by rw [inKey, hk, Bool.or_true])

/-- The start: no bit, and the number of bits behind. -/
theorem bytes_start (N K : Nat) (hK : K ≤ 30) : Bytes (List.replicate N 0 ++ [(K : Int)]) := by
  intro x hx
  rcases List.mem_append.1 hx with h | h
  · rw [List.eq_of_mem_replicate h]; omega
  · rw [List.mem_singleton.1 h]; omega

/-- Build's bytes, with the numbers told. -/
theorem build_is (keys : List (List Int)) (bits : Int) (hn : keys.length ≤ 60) :
    ∃ N K : Nat, 8 ≤ N ∧ N ≤ 300 ∧ 1 ≤ K ∧ K ≤ 30 ∧ bN keys.length (bBits bits) = N ∧ bK (bBits bits) = K ∧ buildL keys bits = keysL (8 * N) K (List.replicate N 0) keys ++ [(K : Int)] ∧
      buildL keys bits = keysL (8 * N) K (List.replicate N 0 ++ [(K : Int)]) keys ∧ (buildL keys bits).length = N + 1 ∧ Bytes (buildL keys bits) ∧ lastB (buildL keys bits) = K := by
  have hb0 := bBits_in bits
  have hK0 := bK_in (bBits bits) hb0.1 hb0.2
  have hN0 := bN_in keys.length (bBits bits) hb0.1 hb0.2 hn
  obtain ⟨K, hK⟩ : ∃ K : Nat, bK (bBits bits) = K := ⟨(bK (bBits bits)).toNat, by omega⟩
  obtain ⟨N, hN⟩ : ∃ N : Nat, bN keys.length (bBits bits) = N := ⟨(bN keys.length (bBits bits)).toNat, by omega⟩
  have e1 : buildL keys bits = keysL (8 * N) K (List.replicate N 0 ++ [(K : Int)]) keys := by
    unfold buildL; rw [hK, hN, Int.toNat_natCast, Int.toNat_natCast]
  have e2 : buildL keys bits = keysL (8 * N) K (List.replicate N 0) keys ++ [(K : Int)] := by
    rw [e1]; exact keysL_last (by omega) K keys _ (by simp)
  have hl : (buildL keys bits).length = N + 1 := by rw [e1, keysL_length]; simp
  have hbt : Bytes (buildL keys bits) := by rw [e1]; exact keysL_bytes (by omega) K keys _ (bytes_start N K (by omega))
  have hlast : lastB (buildL keys bits) = K := by
    unfold lastB rd
    rw [hl, e2]
    have : ((N + 1 : Nat) : Int) - 1 = (N : Int) := by omega
    rw [this, Int.toNat_natCast, List.getD_eq_getElem?_getD]
    have hlen : (keysL (8 * (N : Int)) K (List.replicate N 0) keys).length = N := by rw [keysL_length]; simp
    rw [List.getElem?_append_right (by omega), hlen]
    simp
  exact ⟨N, K, by omega, by omega, by omega, by omega, hN, hK, e2, e1, hl, hbt, hlast⟩

theorem hasBit_start (N K : Nat) (p : Int) (h0 : 0 ≤ p) (h : p < 8 * N) : hasBit (List.replicate N 0 ++ [(K : Int)]) p = false := by
  have e : rd (List.replicate N 0 ++ [(K : Int)]) (p / 8) = 0 := by
    unfold rd
    rw [List.getD_eq_getElem?_getD, List.getElem?_append_left (by simp; omega), List.getElem?_replicate, if_pos (by omega)]
    rfl
  unfold hasBit
  rw [e, Int.zero_ediv]
  rfl

/-- Every key of a filter is let. -/
theorem may_build (keys : List (List Int)) (bits : Int) (hn : keys.length ≤ 60) (key : List Int) (hk : key ∈ keys) : mayF (buildL keys bits) key = true := by
  obtain ⟨N, K, hN0, hN, hK0, hK, _, _, _, e1, hl, hbt, hlast⟩ := build_is keys bits hn
  unfold mayF
  rw [if_neg (by omega), hlast, if_neg (by omega), hl]
  have e : 8 * (((N + 1 : Nat) : Int) - 1) = 8 * N := by omega
  rw [e, Int.toNat_natCast]
  refine mayL_of (by omega) K _ fun p hp h => ?_
  rw [e1, hasBit_keysL (by omega) K hp keys _ (bytes_start N K (by omega)) (by simp; omega)]
  have : (keys.any fun key => inKey (8 * N) (dOf (hashL key)) K (hashL key) p) = true := List.any_eq_true.2 ⟨key, hk, h⟩
  rw [this, Bool.or_true]

/-- The bits of one key, again and again, are among those of all. -/
theorem more_bits (keys : List (List Int)) (bits : Int) (hn : keys.length ≤ 60) (h1 : 1 ≤ keys.length) (p : Int) (hp0 : 0 ≤ p) (hp : p < 8 * ((buildL keys bits).length - 1 : Nat))
    (h : hasBit (buildL (List.replicate keys.length (keys.getD 0 [])) bits) p = true) : hasBit (buildL keys bits) p = true := by
  obtain ⟨N, K, hN0, hN, hK0, hK, eN, eK, _, e1, hl, hbt, hlast⟩ := build_is keys bits hn
  obtain ⟨N', K', _, _, _, _, eN', eK', _, e1', hl', hbt', hlast'⟩ := build_is (List.replicate keys.length (keys.getD 0 [])) bits (by simpa using hn)
  have hNN : N' = N := by rw [List.length_replicate] at eN'; omega
  have hKK : K' = K := by omega
  subst hNN hKK
  rw [hl] at hp
  rw [e1', hasBit_keysL (by omega) K' hp0 _ _ (bytes_start N' K' (by omega)) (by simp; omega), hasBit_start N' K' p hp0 (by omega), Bool.false_or] at h
  rw [e1, hasBit_keysL (by omega) K' hp0 keys _ (bytes_start N' K' (by omega)) (by simp; omega), hasBit_start N' K' p hp0 (by omega), Bool.false_or]
  obtain ⟨key, hk, hin⟩ := List.any_eq_true.1 h
  have hk0 : key = keys.getD 0 [] := List.eq_of_mem_replicate hk
  refine List.any_eq_true.2 ⟨key, ?_, hin⟩
  rw [hk0, List.getD_eq_getElem?_getD, List.getElem?_eq_getElem (by omega)]
  exact List.getElem_mem _

/-- Bit by bit: what the one byte has the other has. -/
theorem andNot_nought {a b : Nat} (ha : a < 256) (hb : b < 256) (h : ∀ j, j < 8 → a.testBit j = true → b.testBit j = true) : bits .andNot .u8 (a : Int) (b : Int) = 0 := by
  have key : BitVec.ofInt 8 (a : Int) &&& ~~~(BitVec.ofInt 8 (b : Int)) = 0#8 := by
    apply BitVec.eq_of_getLsbD_eq
    intro i hi
    have h1 := h i hi
    rw [BitVec.ofInt_natCast, BitVec.ofInt_natCast]
    simp only [BitVec.getLsbD_and, BitVec.getLsbD_not, BitVec.getLsbD_ofNat, hi, decide_true, Bool.true_and, BitVec.getLsbD_zero]
    cases ea : a.testBit i
    · simp
    · rw [h1 ea]; simp
  show IntKind.u8.wrap ((BitVec.ofInt IntKind.u8.bits (a : Int) &&& ~~~(BitVec.ofInt IntKind.u8.bits (b : Int))).toNat : Int) = 0
  have : (BitVec.ofInt IntKind.u8.bits (a : Int) &&& ~~~(BitVec.ofInt IntKind.u8.bits (b : Int))) = 0#8 := key
  rw [this]
  decide

theorem more_byte (f g : List Int) (hf : Bytes f) (hg : Bytes g) (i : Nat) (h : ∀ p : Int, 8 * i ≤ p → p < 8 * i + 8 → hasBit g p = true → hasBit f p = true) : bits .andNot .u8 (rd g i) (rd f i) = 0 := by
  have h1 := hf.rd i
  have h2 := hg.rd i
  obtain ⟨a, ha⟩ : ∃ a : Nat, rd g (i : Int) = a := ⟨(rd g i).toNat, by omega⟩
  obtain ⟨b, hb⟩ : ∃ b : Nat, rd f (i : Int) = b := ⟨(rd f i).toNat, by omega⟩
  rw [ha, hb]
  refine andNot_nought (by omega) (by omega) fun j hj hbit => ?_
  have hh := h (8 * i + j) (by omega) (by omega)
  rw [hasBit_nat hf (by omega), hasBit_nat hg (by omega)] at hh
  have e1 : (8 * (i : Int) + j) / 8 = i := by omega
  have e2 : ((8 * (i : Int) + j) % 8).toNat = j := by omega
  rw [e1, e2, ha, hb, Int.toNat_natCast, Int.toNat_natCast] at hh
  exact hh hbit

/-- How many bits are set below a place. -/
def cnt (f : List Int) : Nat → Nat
  | 0 => 0
  | n + 1 => cnt f n + (if hasBit f (n : Int) = true then 1 else 0)
theorem cnt_setBit {f : List Int} (hb : Bytes f) {q : Int} (hq0 : 0 ≤ q) (hq : q < 8 * f.length) (n : Nat) : cnt (setBit f q) n ≤ cnt f n + (if q < n then 1 else 0) := by
  induction n with
  | zero => simp [cnt]
  | succ n ih =>
    unfold cnt
    rw [hasBit_setBit hb (by omega) hq0 hq]
    by_cases h : (n : Int) = q
    · have hn : ¬ (q < (n : Int)) := by omega
      rw [if_neg hn] at ih
      rw [if_pos (show q < ((n + 1 : Nat) : Int) by omega)]
      cases hasBit f (n : Int) <;> simp [h] <;> omega
    · have e : ((n : Int) == q) = false := beq_eq_false_iff_ne.2 h
      rw [e, Bool.or_false]
      by_cases h2 : q < (n : Int)
      · rw [if_pos h2] at ih
        rw [if_pos (show q < ((n + 1 : Nat) : Int) by omega)]; omega
      · rw [if_neg h2] at ih
        rw [if_neg (show ¬ q < ((n + 1 : Nat) : Int) by omega)]; omega
theorem cnt_keyBits {m d : Int} (hm0 : 0 < m) (n k : Nat) : ∀ (h : Int) (f : List Int), Bytes f → m ≤ 8 * f.length → cnt (keyBits m d k h f) n ≤ cnt f n + k := by
  induction k with
  | zero => intro h f _ _; simp [keyBits]
  | succ k ih =>
    intro h f hb hm
    have hp := mod_in (h := h) hm0
    have h1 := ih (stepH d h) (setBit f (h % m)) (setBit_bytes hb hp.1) (by rw [setBit_length]; exact hm)
    have h2 := cnt_setBit hb hp.1 (by omega) n
    rw [keyBits]
    split at h2 <;> omega
theorem cnt_keysL {m : Int} (hm0 : 0 < m) (K n : Nat) (keys : List (List Int)) : ∀ f : List Int, Bytes f → m ≤ 8 * f.length → cnt (keysL m K f keys) n ≤ cnt f n + K * keys.length := by
  induction keys with
  | nil => intro f _ _; simp [keysL]
  | cons key l ih =>
    intro f hb hm
    have h1 := ih _ (keyBits_bytes hm0 K (hashL key) f hb (d := dOf (hashL key))) (by rw [keyBits_length]; exact hm)
    have h2 := cnt_keyBits hm0 n K (hashL key) f hb hm (d := dOf (hashL key))
    show cnt (keysL m K (keyBits m (dOf (hashL key)) K (hashL key) f) l) n ≤ _
    rw [List.length_cons, Nat.mul_succ]
    omega
theorem cnt_start (N K n : Nat) (h : n ≤ 8 * N) : cnt (List.replicate N 0 ++ [(K : Int)]) n = 0 := by
  induction n with
  | zero => rfl
  | succ n ih => unfold cnt; rw [ih (by omega), hasBit_start N K n (by omega) (by omega)]; rfl
/-- A filter has at most so many bits as its keys together. -/
theorem cnt_build (keys : List (List Int)) (bits : Int) (hn : keys.length ≤ 60) (N K : Nat) (hl : (buildL keys bits).length = N + 1) (hK : bK (bBits bits) = K) : cnt (buildL keys bits) (8 * N) ≤ K * keys.length := by
  obtain ⟨N', K', hN0, hN, hK0, hK30, eN, eK, _, e1, hl', hbt, hlast⟩ := build_is keys bits hn
  have hNN : N' = N := by omega
  have hKK : K' = K := by omega
  subst hNN hKK
  have h := cnt_keysL (m := 8 * (N' : Int)) (by omega) K' (8 * N') keys _ (bytes_start N' K' (by omega)) (by simp; omega)
  rw [cnt_start N' K' _ (Nat.le_refl _)] at h
  rw [e1]; omega

end Go.Proofs.Ytgfjagbcdjmgkaa
