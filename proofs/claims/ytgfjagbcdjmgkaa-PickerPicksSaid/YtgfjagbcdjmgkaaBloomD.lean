/- What the printed functions of the reference's Bloom come to: the very bytes that Build makes. Plain law: no walk. -/
import Derived.Test.YtgfjagbcdjmgkaaBloomC
namespace Go.Proofs.Ytgfjagbcdjmgkaa
set_option linter.unusedVariables false
set_option linter.unusedSimpArgs false
open Go.RowKit Go.Proofs.YtgfjagbcdjmgkaaW.PrintWords Go.Proofs.YtgfjagbcdjmgkaaW.PrintMore PBloomBuilds

/-- From some number of rounds on. -/
def Soon {α : Type} (g : Nat → Option α) (r : α) : Prop := ∃ K, ∀ k, K ≤ k → g k = some r
theorem Soon.now {α : Type} {g : Nat → Option α} {r : α} (h : ∀ k, g (k + 1) = some r) : Soon g r :=
  ⟨1, fun k hk => by obtain ⟨m, rfl⟩ : ∃ m, k = m + 1 := ⟨k - 1, by omega⟩; exact h m⟩
theorem Soon.next {α : Type} {g g' : Nat → Option α} {r : α} (h : Soon g' r) (e : ∀ k, g (k + 1) = g' k) : Soon g r := by
  obtain ⟨K, hK⟩ := h
  exact ⟨K + 1, fun k hk => by obtain ⟨m, rfl⟩ : ∃ m, k = m + 1 := ⟨k - 1, by omega⟩; rw [e]; exact hK m (by omega)⟩
theorem Soon.bind {α β : Type} {g : Nat → Option α} {q : Nat → α → Option β} {r : α} {s : β} (h : Soon g r) (h2 : Soon (fun k => q k r) s) : Soon (fun k => (g k).bind (q k)) s := by
  obtain ⟨K, hK⟩ := h
  obtain ⟨L, hL⟩ := h2
  exact ⟨max K L, fun k hk => by show (g k).bind (q k) = _; rw [hK k (by omega)]; exact hL k (by omega)⟩
theorem Soon.same {α : Type} {g g' : Nat → Option α} {r : α} (h : Soon g' r) (e : ∀ k, g k = g' k) : Soon g r := by
  obtain ⟨K, hK⟩ := h
  exact ⟨K, fun k hk => by rw [e]; exact hK k hk⟩

theorem wrap_next {i n : Nat} (h : i < n) (hn : n ≤ 9223372036854775807) : wrap64 ((i : Int) + 1) = ((i + 1 : Nat) : Int) := by unfold wrap64; omega

theorem hash_soon (l : List Int) (hl : l.length ≤ 9223372036854775807) : Soon (fun k => butteryref9_Hash.f k l) (hashL l) := by
  have key : ∀ (r i : Nat), i + r = l.length → Soon (fun k => butteryref9_Hash.l0 k l (hashL (l.take i)) (i : Int)) (hashL l) := by
    intro r
    induction r with
    | zero =>
      intro i hi
      refine Soon.now fun k => ?_
      show butteryref9_Hash.l0 (k + 1) l (hashL (l.take i)) (i : Int) = _
      rw [butteryref9_Hash.l0, if_neg (by omega), List.take_of_length_le (by omega)]
    | succ r ih =>
      intro i hi
      have hlt : i < l.length := by omega
      refine (ih (i + 1) (by omega)).next fun k => ?_
      show butteryref9_Hash.l0 (k + 1) l (hashL (l.take i)) (i : Int) = butteryref9_Hash.l0 k l (hashL (l.take (i + 1))) ((i + 1 : Nat) : Int)
      rw [butteryref9_Hash.l0, if_pos (by omega), if_pos (by omega), wrap_next hlt hl, take_next l i hlt, hashL_snoc, rd_at l i hlt]
      rfl
  exact key l.length 0 (by omega)

theorem setBit_last {f : List Int} {x p : Int} (h0 : 0 ≤ p) (h1 : p < 8 * f.length) : setBit (f ++ [x]) p = setBit f p ++ [x] := by
  unfold setBit
  have e : rd (f ++ [x]) (p / 8) = rd f (p / 8) := by
    unfold rd
    rw [List.getD_eq_getElem?_getD, List.getD_eq_getElem?_getD, List.getElem?_append_left (by omega)]
  rw [e, List.set_append_left _ _ (by omega)]
theorem keyBits_last {m d x : Int} (hm0 : 0 < m) (k : Nat) : ∀ (h : Int) (f : List Int), m ≤ 8 * f.length → keyBits m d k h (f ++ [x]) = keyBits m d k h f ++ [x] := by
  induction k with
  | zero => intro h f _; rfl
  | succ k ih =>
    intro h f hm
    have hp := mod_in (h := h) hm0
    rw [keyBits, keyBits, setBit_last hp.1 (by omega), ih _ _ (by rw [setBit_length]; exact hm)]
theorem keysL_last {m x : Int} (hm0 : 0 < m) (K : Nat) (keys : List (List Int)) : ∀ f : List Int, m ≤ 8 * f.length → keysL m K (f ++ [x]) keys = keysL m K f keys ++ [x] := by
  induction keys with
  | nil => intro f _; rfl
  | cons key l ih =>
    intro f hm
    show keysL m K (keyBits m (dOf (hashL key)) K (hashL key) (f ++ [x])) l = keysL m K (keyBits m (dOf (hashL key)) K (hashL key) f) l ++ [x]
    rw [keyBits_last hm0 K _ _ hm, ih _ (by rw [keyBits_length]; exact hm)]

theorem pow_small {p : Int} (h0 : 0 ≤ p) : shl .u8 1 (IntKind.u64.wrap (Int.tmod p 8)) = 2 ^ (p % 8).toNat % 256 := by
  have e : Int.tmod p 8 = p % 8 := Int.tmod_eq_emod_of_nonneg h0
  have e2 : IntKind.u64.wrap (p % 8) = p % 8 := IntWalk.u64_in _ ⟨by omega, by omega⟩
  rw [e, e2]
  unfold shl
  have e3 : min (p % 8).toNat IntKind.u8.bits = (p % 8).toNat := Nat.min_eq_left (by show (p % 8).toNat ≤ 8; omega)
  rw [e3, IntKind.wrap_u8, Int.one_mul]

theorem l1_soon (x0 : List (List Int)) (K : Nat) (N : Nat) (hN0 : 1 ≤ N) (hN : N ≤ 300) (hK : K ≤ 30) (i : Int) (d : Int) (r : List Int) :
    ∀ (j : Nat) (h : Int) (f : List Int), j ≤ K → f.length = N → 0 ≤ h → h < 4294967296 → Soon (fun k => butteryref9_Bloom.l0 k x0 K (8 * N) (keyBits (8 * N) d j h f) (wrap64 (i + 1))) r →
      Soon (fun k => butteryref9_Bloom.l1 k x0 K (8 * N) f i h d ((K - j : Nat) : Int)) r := by
  intro j
  induction j with
  | zero =>
    intro h f _ hf _ _ hs
    refine hs.next fun k => ?_
    show butteryref9_Bloom.l1 (k + 1) x0 K (8 * N) f i h d ((K - 0 : Nat) : Int) = butteryref9_Bloom.l0 k x0 K (8 * N) f (wrap64 (i + 1))
    rw [butteryref9_Bloom.l1, if_neg (by omega)]
  | succ j ih =>
    intro h f hj hf h0 h1 hs
    have hst := stepH_in d h
    have hm0 : (0 : Int) < 8 * N := by omega
    have hp := mod_in (h := h) hm0
    refine (ih (stepH d h) (setBit f (h % (8 * N))) (by omega) (by rw [setBit_length]; exact hf) hst.1 hst.2 hs).next fun k => ?_
    show butteryref9_Bloom.l1 (k + 1) x0 K (8 * N) f i h d ((K - (j + 1) : Nat) : Int) = butteryref9_Bloom.l1 k x0 K (8 * N) (setBit f (h % (8 * N))) i (stepH d h) d ((K - j : Nat) : Int)
    have em : (8 * (N : Int)) % 4294967296 = 8 * N := by omega
    have et : Int.tmod h (8 * N) = h % (8 * N) := Int.tmod_eq_emod_of_nonneg h0
    rw [butteryref9_Bloom.l1, if_pos (by omega), em, et, if_neg (by omega)]
    have ed : Int.tdiv (h % (8 * N)) 8 = h % (8 * N) / 8 := Int.tdiv_eq_ediv_of_nonneg hp.1
    have e8 : h % (8 * N) / 8 % 4294967296 = h % (8 * N) / 8 := by omega
    have ew : wrap64 (((K - (j + 1) : Nat) : Int) + 1) = ((K - j : Nat) : Int) := by unfold wrap64; omega
    have hu : 0 ≤ IntKind.u64.wrap (Int.tmod (h % (8 * N)) 8) := by
      rw [Int.tmod_eq_emod_of_nonneg hp.1, IntWalk.u64_in _ ⟨by omega, by omega⟩]; omega
    rw [ed, e8, if_pos (by omega), if_pos (by omega), if_pos hu, ew, pow_small hp.1]
    rfl

theorem l0_soon (x0 : List (List Int)) (K N : Nat) (hN0 : 1 ≤ N) (hN : N ≤ 300) (hK0 : 1 ≤ K) (hK : K ≤ 30) (hx : x0.length ≤ 60) (hx2 : ∀ x, x ∈ x0 → x.length ≤ 9223372036854775807) :
    ∀ (q i : Nat) (f : List Int), i + q = x0.length → f.length = N → Soon (fun k => butteryref9_Bloom.l0 k x0 K (8 * N) f (i : Int)) (keysL (8 * N) K f (x0.drop i) ++ [(K : Int)]) := by
  intro q
  induction q with
  | zero =>
    intro i f hi hf
    refine Soon.now fun k => ?_
    show butteryref9_Bloom.l0 (k + 1) x0 K (8 * N) f (i : Int) = _
    rw [butteryref9_Bloom.l0, if_neg (by omega), if_pos (by omega), List.drop_of_length_le (by omega)]
    have : (K : Int) % 256 = K := by omega
    rw [this]; rfl
  | succ q ih =>
    intro i f hi hf
    have hlt : i < x0.length := by omega
    have e1 : rd_L1 x0 (i : Int) = x0[i] := by unfold rd_L1; simp [hlt]
    have hH := hashL_in x0[i]
    have hrest := ih (i + 1) (keyBits (8 * N) (dOf (hashL x0[i])) K (hashL x0[i]) f) (by omega) (by rw [keyBits_length]; exact hf)
    have e2 : keysL (8 * N) K f (x0.drop i) = keysL (8 * N) K (keyBits (8 * N) (dOf (hashL x0[i])) K (hashL x0[i]) f) (x0.drop (i + 1)) := by
      rw [List.drop_eq_getElem_cons hlt]; rfl
    have ew : wrap64 ((i : Int) + 1) = ((i + 1 : Nat) : Int) := wrap_next hlt (by omega)
    have h1 := l1_soon x0 K N hN0 hN hK (i : Int) (dOf (hashL x0[i])) _ K (hashL x0[i]) f (Nat.le_refl _) hf hH.1 hH.2 (by rw [ew]; exact hrest)
    have e3 : K - K = 0 := by omega
    rw [e3] at h1
    rw [e2]
    refine Soon.next ((hash_soon x0[i] (hx2 _ (List.getElem_mem hlt))).bind (q := fun k t => butteryref9_Bloom.l1 k x0 K (8 * N) f i t (Go.bits .or .u32 (t / 131072) ((t * 32768) % 4294967296)) 0) h1) fun k => ?_
    show butteryref9_Bloom.l0 (k + 1) x0 K (8 * N) f (i : Int) = _
    rw [butteryref9_Bloom.l0, if_pos (by omega), if_pos (by omega), e1]

theorem tdiv_pos {a b : Int} (h : 0 ≤ a) : Int.tdiv a b = a / b := Int.tdiv_eq_ediv_of_nonneg h

theorem between_is (x lo hi : Int) (h : lo ≤ hi) : butteryref9_between.f x lo hi = some (mn (mx lo x) hi) := by
  unfold butteryref9_between.f
  by_cases h1 : x < lo
  · have e1 : mx lo x = lo := by unfold mx; rw [if_neg (by omega)]
    have e2 : mn lo hi = lo := by unfold mn; rw [if_neg (by omega)]
    rw [if_pos h1, e1, e2]
  · by_cases h2 : x > hi
    · have e1 : mx lo x = x := by unfold mx; rw [if_pos (by omega)]
      have e2 : mn x hi = hi := by unfold mn; rw [if_pos (by omega)]
      rw [if_neg h1, if_pos h2, e1, e2]
    · have e1 : mx lo x = x := by unfold mx; split <;> omega
      have e2 : mn x hi = x := by unfold mn; rw [if_neg (by omega)]
      rw [if_neg h1, if_neg h2, e1, e2]

theorem j0_at (k : Nat) (keys : List (List Int)) (K N : Nat) (m : Int) (h0 : 64 ≤ m) (h1 : m ≤ 2400) (hmN : (m + 7) / 8 = N) :
    butteryref9_Bloom.j0 (k + 1) keys K m = butteryref9_Bloom.l0 k keys K (8 * N) (List.replicate N 0) 0 := by
  have f1 : wrap64 (m + 7) = m + 7 := by unfold wrap64; omega
  have f2 : Int.tdiv (m + 7) 8 = (m + 7) / 8 := tdiv_pos (by omega)
  have f3 : wrap64 ((m + 7) / 8) = (N : Int) := by rw [hmN]; unfold wrap64; omega
  have f4 : wrap64 ((N : Int) * 8) = 8 * (N : Int) := by unfold wrap64; omega
  have f5 : Int.tdiv (8 * (N : Int)) 8 = N := by rw [tdiv_pos (by omega)]; omega
  have f6 : wrap64 (N : Int) = (N : Int) := by unfold wrap64; omega
  rw [butteryref9_Bloom.j0, f1, f2, f3, f4, f5, f6, Int.toNat_natCast, if_pos (by omega), if_pos (by omega)]

theorem ref_soon (keys : List (List Int)) (bits : Int) (hn : keys.length ≤ 60) (hx2 : ∀ x, x ∈ keys → x.length ≤ 9223372036854775807) : Soon (fun k => butteryref9_Bloom.f k keys bits) (buildL keys bits) := by
  have hb0 := bBits_in bits
  have hK0 := bK_in (bBits bits) hb0.1 hb0.2
  have hN0 := bN_in keys.length (bBits bits) hb0.1 hb0.2 hn
  have eb : butteryref9_between.f bits 1 40 = some (bBits bits) := between_is bits 1 40 (by omega)
  have ew1 : wrap64 (bBits bits * 69) = bBits bits * 69 := by unfold wrap64; omega
  have et1 : Int.tdiv (bBits bits * 69) 100 = bBits bits * 69 / 100 := tdiv_pos (by omega)
  have ew2 : wrap64 (bBits bits * 69 / 100) = bBits bits * 69 / 100 := by unfold wrap64; omega
  have ek : butteryref9_between.f (bBits bits * 69 / 100) 1 30 = some (bK (bBits bits)) := between_is _ 1 30 (by omega)
  obtain ⟨K, hK⟩ : ∃ K : Nat, bK (bBits bits) = K := ⟨(bK (bBits bits)).toNat, by omega⟩
  obtain ⟨N, hN⟩ : ∃ N : Nat, bN keys.length (bBits bits) = N := ⟨(bN keys.length (bBits bits)).toNat, by omega⟩
  have ew3 : wrap64 ((keys.length : Int) * bBits bits) = (keys.length : Int) * bBits bits := by unfold wrap64; omega
  have hr : buildL keys bits = keysL (8 * N) K (List.replicate N 0) keys ++ [(K : Int)] := by
    unfold buildL
    rw [hK, hN, Int.toNat_natCast, Int.toNat_natCast]
    exact keysL_last (by omega) K keys _ (by simp)
  have hl0 := l0_soon keys K N (by omega) (by omega) (by omega) (by omega) hn hx2 keys.length 0 (List.replicate N 0) (by omega) (by simp)
  rw [List.drop_zero] at hl0
  rw [← hr, show ((0 : Nat) : Int) = 0 from rfl] at hl0
  have hj : Soon (fun k => butteryref9_Bloom.j0 k keys K (mx ((keys.length : Int) * bBits bits) 64)) (buildL keys bits) := by
    refine hl0.next fun k => ?_
    have hm : 64 ≤ mx ((keys.length : Int) * bBits bits) 64 ∧ mx ((keys.length : Int) * bBits bits) 64 ≤ 2400 := by unfold mx; split <;> omega
    exact j0_at k keys K N _ hm.1 hm.2 hN
  refine hj.same fun k => ?_
  show butteryref9_Bloom.f k keys bits = _
  unfold butteryref9_Bloom.f
  rw [eb, Option.bind_some, ew1, et1, ew2, ek, Option.bind_some, ew3, hK]
  by_cases hc : (keys.length : Int) * bBits bits < 64
  · rw [if_pos hc]; unfold mx; rw [if_pos hc]
  · rw [if_neg hc]; unfold mx; rw [if_neg hc]

end Go.Proofs.Ytgfjagbcdjmgkaa
