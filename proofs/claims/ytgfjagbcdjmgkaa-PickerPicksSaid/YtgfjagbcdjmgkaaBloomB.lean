/- The contract of bloom.Build: which bytes it makes of which keys. -/
import Derived.Test.YtgfjagbcdjmgkaaBloomA
namespace Go.Proofs.Ytgfjagbcdjmgkaa
set_option linter.unusedVariables false
set_option linter.unusedSimpArgs false
open Go.RowKit Go.Proofs.YtgfjagbcdjmgkaaW.PrintWords Go.Proofs.YtgfjagbcdjmgkaaW.PrintMore
attribute [local go_sem] max2_int min2_int max_two min_two

/-- How many bits for each key; how many of them each key sets; how many bytes. -/
def bBits (bits : Int) : Int := mn (mx 1 bits) 40
def bK (b : Int) : Int := mn (mx 1 (b * 69 / 100)) 30
def bN (n : Nat) (b : Int) : Int := (mx (n * b) 64 + 7) / 8
/-- The bits of keys, one behind the other. -/
def keysL (m : Int) (K : Nat) (f : List Int) (keys : List (List Int)) : List Int := keys.foldl (fun f key => keyBits m (dOf (hashL key)) K (hashL key) f) f
theorem keysL_snoc (m : Int) (K : Nat) (f : List Int) (keys : List (List Int)) (key : List Int) : keysL m K f (keys ++ [key]) = keyBits m (dOf (hashL key)) K (hashL key) (keysL m K f keys) := by simp [keysL]
theorem keysL_length (m : Int) (K : Nat) (keys : List (List Int)) : ∀ f : List Int, (keysL m K f keys).length = f.length := by
  induction keys with
  | nil => intro f; rfl
  | cons k l ih => intro f; show (keysL m K (keyBits m (dOf (hashL k)) K (hashL k) f) l).length = _; rw [ih, keyBits_length]

theorem bBits_in (bits : Int) : 1 ≤ bBits bits ∧ bBits bits ≤ 40 := by unfold bBits mn mx; split <;> split <;> omega
theorem bK_in (b : Int) (h0 : 1 ≤ b) (h : b ≤ 40) : 1 ≤ bK b ∧ bK b ≤ 30 := by unfold bK mn mx; split <;> split <;> omega
theorem bN_in (n : Nat) (b : Int) (h0 : 1 ≤ b) (h : b ≤ 40) (hn : n ≤ 60) : 8 ≤ bN n b ∧ bN n b ≤ 300 ∧ 0 ≤ (n : Int) * b ∧ (n : Int) * b ≤ 2400 := by
  have h1 : 0 ≤ (n : Int) * b := Int.mul_nonneg (by omega) (by omega)
  have h2 : (n : Int) * b ≤ 60 * 40 := Int.mul_le_mul (by omega) (by omega) (by omega) (by omega)
  unfold bN mx
  refine ⟨?_, ?_, h1, by omega⟩ <;> split <;> omega

/-- What Build makes. -/
def buildL (keys : List (List Int)) (bits : Int) : List Int :=
  keysL (8 * bN keys.length (bBits bits)) (bK (bBits bits)).toNat (List.replicate (bN keys.length (bBits bits)).toNat 0 ++ [bK (bBits bits)]) keys

theorem ints_of_C {w : World} {A : Option Addr} {n : Nat} {xs : List Int} (h : (Kd.int .u8).C w A n xs) : ReadsInt w .u8 A n xs := Kd.reads_of_C (enc := Value.int .u8) (d := (0 : Int)) (h1 := fun _ => rfl) h
theorem C_of_ints {w : World} {A : Option Addr} {n : Nat} {xs : List Int} (h : ReadsInt w .u8 A n xs) : (Kd.int .u8).C w A n xs := Kd.C_of_reads (enc := Value.int .u8) (d := (0 : Int)) (h1 := fun _ => rfl) h

theorem info5 : (Try.prog.info? 5).map (fun i => (i.zero, i.size, i.bytes)) = some (some (.int .u8 0), 1, 1) := by kernel_rfl

theorem row_at {w : World} {A : Option Addr} {xs : List (List Int)} (h : Kd.C (Kd.slice 5 (Kd.int .u8)) w A xs.length xs) (i : Nat) (hi : i < xs.length) :
    ∃ ad A0 c0, A = some ad ∧ w.cell? (ad.add i) = some (.slice A0 xs[i].length c0) ∧ xs[i].length ≤ c0 ∧ ReadsInt w .u8 A0 xs[i].length xs[i] := by
  obtain ⟨ad, A0, c0, e, h1, h2, h3⟩ := PBloomBuilds.at_L1 h (i : Int) (by omega) (by omega)
  have e1 : PBloomBuilds.rd_L1 xs (i : Int) = xs[i] := by unfold PBloomBuilds.rd_L1; simp [hi]
  rw [e1] at h1 h2 h3
  rw [Int.toNat_natCast] at h1
  exact ⟨ad, A0, c0, e, h1, h2, ints_of_C h3⟩

set_option maxHeartbeats 1000000 in
theorem build_any (A : Option Addr) (c : Nat) (keys : List (List Int)) (bits : Int) (w : World) (hr : Kd.C (Kd.slice 5 (Kd.int .u8)) w A keys.length keys) (hn : keys.length ≤ 60) :
    Calls Try.prog 16 #[.slice A keys.length c, .int .i64 bits] w
      fun e w' => ∃ g, e = .returned (.slice (some ⟨g, 0, none⟩) (buildL keys bits).length (buildL keys bits).length) ∧ w.heap.size ≤ g ∧ Filt w' g (buildL keys bits) ∧ Below w.heap.size w w' := by
  have HR := Lib.hid hr; clear hr
  obtain ⟨b, hb⟩ : ∃ b, bBits bits = b := ⟨_, rfl⟩
  have hb0 := bBits_in bits
  rw [hb] at hb0
  obtain ⟨K, hK⟩ : ∃ K : Nat, bK b = K := ⟨(bK b).toNat, by have := bK_in b hb0.1 hb0.2; omega⟩
  have hK0 := bK_in b hb0.1 hb0.2
  rw [hK] at hK0
  obtain ⟨N, hN⟩ : ∃ N : Nat, bN keys.length b = N := ⟨(bN keys.length b).toNat, by have := bN_in keys.length b hb0.1 hb0.2 hn; omega⟩
  have hN0 := bN_in keys.length b hb0.1 hb0.2 hn
  rw [hN] at hN0
  have hfin : buildL keys bits = keysL (8 * N) K (List.replicate N 0 ++ [(K : Int)]) keys := by
    unfold buildL; rw [hb, hN, hK]; simp
  rw [hfin]
  obtain ⟨b1, hb1⟩ : ∃ b1, (if 1 < bits then bits else 1) = b1 := ⟨_, rfl⟩
  have hb2 : (if 40 < b1 then 40 else b1) = b := by rw [← hb, ← hb1]; unfold bBits mn mx; rfl
  have hk1 : (if 1 < b * 69 / 100 then b * 69 / 100 else 1) = (K : Int) := by
    rw [← hK]; unfold bK mn mx; split <;> split <;> omega
  obtain ⟨m1, hm1⟩ : ∃ m1, (if (keys.length : Int) * b < 64 then 64 else (keys.length : Int) * b) = m1 := ⟨_, rfl⟩
  have hm0 : 64 ≤ m1 ∧ m1 ≤ 2400 := by rw [← hm1]; split <;> omega
  have hN2 : (m1 + 7) / 8 = (N : Int) := by rw [← hN, ← hm1]; unfold bN mx; rfl
  obtain ⟨Z, hZ⟩ : ∃ Z : Array Value, Z = (nums .u8 (List.replicate (N + 1) 0)).toArray := ⟨_, rfl⟩
  obtain ⟨i0, hi, hz0, hz1, hz2⟩ := info_parts info5
  have hmk : ∀ W : World, (Instr.makeSlice 25 (.int .i64 ((N : Int) + 1)) (.int .i64 ((N : Int) + 1))).run Try.prog W = .ok (.slice (some ⟨W.heap.size, 0, none⟩) (N + 1) (N + 1)) (W.alloc (.cells Z 5)) := by
    intro W
    have h := run_make (P := Try.prog) W 25 5 i0 (.int .u8 0) Try.underlying25 hi hz0 .i64 .i64 ((N : Int) + 1) ((N : Int) + 1) (by omega) (by omega) (by rw [hz2]; omega) (by omega)
    have e1 : ((N : Int) + 1).toNat = N + 1 := by omega
    have e2 : madeCells (Value.cells (.int .u8 0)) (N + 1) = Z := by
      rw [hZ]
      apply Array.ext'
      have : Value.cells (.int .u8 0) = #[.int .u8 0] := rfl
      rw [this, toList_madeCells_one]
      simp [nums]
    rw [e1, hz1, Nat.mul_one, e2] at h
    exact h
  have hZN : Z[N]? = some (.int .u8 0) := by rw [hZ]; simp [nums]
  have hZS : Hid (Z.setIfInBounds N (.int .u8 K) = (nums .u8 (List.replicate N 0 ++ [(K : Int)])).toArray) := by
    show Z.setIfInBounds N (.int .u8 K) = _
    rw [hZ]
    apply Array.ext'
    simp [nums, List.replicate_succ', List.set_append_right]
  have hlen : (keysL (8 * N) K (List.replicate N 0 ++ [(K : Int)]) keys).length = N + 1 := by rw [keysL_length]; simp
  rw [hlen]
  clear hfin hb hK hN hZ hi hz0 hz1 hz2 hlen
  go_enter Try.func16, Try.ntmps16
  go_wp2_with fail
  rw [hN2]
  clear hN2 hm1 hb1 hb2 hk1 hmk
  go_loopw [35] (fun i wr => ∃ (k : Nat), k ≤ keys.length ∧ i = .int .i64 k ∧ Filt wr w.heap.size (keysL (8 * N) K (List.replicate N 0 ++ [(K : Int)]) (keys.take k)) ∧ wr.cell? ⟨w.heap.size + 1, 0, none⟩ = some (.slice (some ⟨w.heap.size, 0, none⟩) (N + 1) (N + 1)) ∧ Below w.heap.size w wr) (fun i _ => keys.length - (intOf i).toNat)
  case atStart =>
    refine ⟨0, Nat.zero_le _, rfl, ?_, ?_, ?_⟩
    · show ((w.alloc _).alloc _).heap[w.heap.size]? = _
      rw [Below.heap_alloc _ _ _ (by simp), heap_alloc_new, hZS.out]
      rfl
    · go_cell
    · exact ((Below.refl _ _).alloc (Nat.le_refl _) _).alloc (by simp) _
  case round =>
    obtain ⟨k, hk, rfl, hfk, hbx, hB⟩ := hrel
    by_cases hlt : k < keys.length
    · obtain ⟨ad, A0, c0, rfl, hcell, hc0, hkey⟩ := row_at HR.out k hlt
      have hcell2 := pw_cell_below hB hcell
      have hkey2 := hkey.below hB
      have hfl : (keysL (8 * N) K (List.replicate N 0 ++ [(K : Int)]) (keys.take k)).length = N + 1 := by rw [keysL_length]; simp
      have HS : Hid (keysL (8 * N) K (List.replicate N 0 ++ [(K : Int)]) (keys.take (k + 1)) = keyBits (8 * N) (dOf (hashL keys[k])) K (hashL keys[k]) (keysL (8 * N) K (List.replicate N 0 ++ [(K : Int)]) (keys.take k))) := by
        rw [take_next keys k hlt]; exact keysL_snoc _ _ _ _ _
      clear hcell hkey
      have HFL := Lib.hid hfl
      have hfl0 : N + 1 ≤ (keysL (8 * N) K (List.replicate N 0 ++ [(K : Int)]) (keys.take k)).length := by omega
      have hfl1 : (keysL (8 * N) K (List.replicate N 0 ++ [(K : Int)]) (keys.take k)).length ≤ N + 1 := by omega
      clear hfl
      have hbx3 : wr.cell? ⟨w.heap.size + 1, 0, none⟩ = some (.slice (some ⟨w.heap.size, 0, none⟩) (keysL (8 * N) K (List.replicate N 0 ++ [(K : Int)]) (keys.take k)).length (N + 1)) := by rw [HFL.out]; exact hbx
      have HC := Lib.hid (each_build A0 c0 (N + 1) keys[k] (keysL (8 * N) K (List.replicate N 0 ++ [(K : Int)]) (keys.take k)) K (8 * N) (w.heap.size + 1) w.heap.size wr hkey2 (by omega) hbx3 hfk (by omega) (by omega) (by omega) (by omega))
      clear hbx3
      go_wp2_with fail
      refine HC.out.mono ?_
      rintro e w' ⟨rfl, hfk2, honly⟩
      have hbx2 := (honly.cell (p := ⟨w.heap.size + 1, 0, none⟩) (by simp)).trans hbx
      have hB2 := hB.trans (honly.below (B := w.heap.size) (Nat.le_refl _))
      clear hfk hbx hB honly hkey2 hcell2
      go_wp2
      go_roundw
      case rel => exact ⟨k + 1, by omega, by go_num, by rw [HS.out]; exact hfk2, hbx2, hB2⟩
      case measure => simp [intOf]; omega
    · have e : Hid (keys.take k = keys) := by show _ = _; exact List.take_of_length_le (by omega)
      have hbx2 := hbx
      go_wp2
      go_ret
      exact ⟨w.heap.size, rfl, Nat.le_refl _, by rw [e.out] at hfk; exact hfk, hB⟩

end Go.Proofs.Ytgfjagbcdjmgkaa
