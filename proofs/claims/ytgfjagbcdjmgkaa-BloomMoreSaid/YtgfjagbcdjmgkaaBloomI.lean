/- The walk of BloomMore: a filter's bits are those of all its keys together. -/
import Derived.Test.YtgfjagbcdjmgkaaBloomH
import Derived.Deep.QuietTactic
import Derived.BigQuiet
namespace Go.Proofs.Ytgfjagbcdjmgkaa
set_option linter.unusedVariables false
set_option linter.unusedSimpArgs false
open Go.RowKit Go.Proofs.YtgfjagbcdjmgkaaW.PrintWords

theorem info25 : (Try.prog.info? 25).map (fun i => (i.zero, i.size, i.bytes)) = some (some (.slice none 0 0), 1, 24) := by kernel_rfl

/-- The cells of a row of one value again and again, as far as it is filled. -/
def fillCells (v : Value) (n k : Nat) : Array Value := (List.replicate k v ++ List.replicate (n - k) (Value.slice none 0 0)).toArray
theorem fillCells_at (v : Value) (n k : Nat) (h : k < n) : (fillCells v n k)[k]? = some (Value.slice none 0 0) := by
  unfold fillCells
  rw [List.getElem?_toArray, List.getElem?_append_right (by simp), List.length_replicate, Nat.sub_self, List.getElem?_replicate, if_pos (by omega)]
theorem fillCells_set (v : Value) (n k : Nat) (h : k < n) : (fillCells v n k).setIfInBounds k v = fillCells v n (k + 1) := by
  unfold fillCells
  apply Array.ext'
  rw [Array.toList_setIfInBounds]
  obtain ⟨m, hm⟩ : ∃ m, n - k = m + 1 := ⟨n - k - 1, by omega⟩
  have hm' : n - (k + 1) = m := by omega
  rw [hm, hm']
  show (List.replicate k v ++ List.replicate (m + 1) (Value.slice none 0 0)).set k v = List.replicate (k + 1) v ++ List.replicate m (Value.slice none 0 0)
  rw [List.set_append_right _ _ (by simp), List.length_replicate, Nat.sub_self, List.replicate_succ, List.set_cons_zero, List.replicate_succ', List.append_assoc]
  rfl
theorem fillCells_get (v : Value) (n i : Nat) (h : i < n) : (fillCells v n n)[i]? = some v := by
  unfold fillCells
  rw [List.getElem?_toArray, List.getElem?_append_left (by simpa using h)]
  simp [h]
theorem fillCells_size (v : Value) (n k : Nat) (h : k ≤ n) : (fillCells v n k).size = n := by unfold fillCells; simp; omega

/-- A block that is known whole. -/
def Blk (w : World) (b : Nat) (cs : Array Value) (t : TypeId) : Prop := w.heap[b]? = some (.cells cs t (0, 0))
theorem Blk.cell {w : World} {b : Nat} {cs : Array Value} {t : TypeId} (h : Blk w b cs t) {j : Nat} {v : Value} (hj : cs[j]? = some v) : w.cell? ⟨b, j, none⟩ = some v := by
  unfold World.cell?; rw [h]; simpa using hj
theorem Blk.frozen {w : World} {b : Nat} {cs : Array Value} {t : TypeId} (h : Blk w b cs t) (j : Nat) : w.frozen? ⟨b, j, none⟩ = false := by
  unfold World.frozen?; rw [h]; simp
theorem Blk.set {w : World} {b : Nat} {cs : Array Value} {t : TypeId} (h : Blk w b cs t) (j : Nat) (v : Value) : Blk (w.setCell ⟨b, j, none⟩ v) b (cs.setIfInBounds j v) t := heap_setCell_same w b j cs t v h
theorem Blk.lt {w : World} {b : Nat} {cs : Array Value} {t : TypeId} (h : Blk w b cs t) : b < w.heap.size := (Array.getElem?_eq_some_iff.1 h).1

theorem more_facts (keys : List (List Int)) (bits : Int) (hn : keys.length ≤ 60) (h1 : 1 ≤ keys.length) :
    (buildL (List.replicate keys.length keys[0]) bits).length = (buildL keys bits).length ∧ 9 ≤ (buildL keys bits).length ∧ (buildL keys bits).length ≤ 301 ∧
      rd (buildL (List.replicate keys.length keys[0]) bits) (((buildL keys bits).length : Int) - 1) = lastB (buildL keys bits) ∧
      ∀ i : Nat, i < (buildL keys bits).length - 1 → Go.bits .andNot .u8 (rd (buildL (List.replicate keys.length keys[0]) bits) i) (rd (buildL keys bits) i) = 0 := by
  obtain ⟨N, K, hN0, hN, hK0, hK, eN, eK, _, _, hFl, hFb, hFlast⟩ := build_is keys bits hn
  obtain ⟨N', K', _, _, _, _, eN', eK', _, _, hGl, hGb, hGlast⟩ := build_is (List.replicate keys.length keys[0]) bits (by simpa using hn)
  have hGL : (buildL (List.replicate keys.length keys[0]) bits).length = (buildL keys bits).length := by
    rw [List.length_replicate] at eN'; omega
  refine ⟨hGL, by omega, by omega, ?_, ?_⟩
  · have : lastB (buildL (List.replicate keys.length keys[0]) bits) = lastB (buildL keys bits) := by omega
    rw [← this]; unfold lastB; rw [hGL]
  · intro i hi
    refine more_byte _ _ hFb hGb i fun p hp0 hp1 h => more_bits keys bits hn h1 p (by omega) (by omega) ?_
    have : keys.getD 0 [] = keys[0] := by rw [List.getD_eq_getElem?_getD, List.getElem?_eq_getElem (by omega)]; rfl
    rw [this]; exact h

theorem build_at (A : Option Addr) (c n : Nat) (keys : List (List Int)) (bits : Int) (w : World) (e : keys.length = n) (hr : Kd.C (Kd.slice 5 (Kd.int .u8)) w A keys.length keys) (hn : keys.length ≤ 60) :
    Calls Try.prog 16 #[.slice A n c, .int .i64 bits] w
      fun e w' => ∃ g, e = .returned (.slice (some ⟨g, 0, none⟩) (buildL keys bits).length (buildL keys bits).length) ∧ w.heap.size ≤ g ∧ Filt w' g (buildL keys bits) ∧ Below w.heap.size w w' := by
  subst e; exact build_any A c keys bits w hr hn

set_option maxHeartbeats 1600000 in
theorem bloomMore_walk (A : Option Addr) (c : Nat) (keys : List (List Int)) (bits : Int) (w : World) (hr : Kd.C (Kd.slice 5 (Kd.int .u8)) w A keys.length keys) (hbt : ∀ r ∈ keys, Bytes r) (hc : keys.length ≤ c) :
    Calls Try.prog 5 #[.slice A keys.length c, .int .i64 bits] w fun e w' => e = .returned (.bool true) ∧ Below w.heap.size w w' := by
  have hm := hr.2.1
  have HR := Lib.hid hr
  clear hr hbt
  cases hbig : bigB keys
  · have hn : keys.length ≤ 60 := by
      unfold bigB at hbig
      rw [Bool.or_eq_false_iff] at hbig
      have := hbig.2
      simp at this; exact this
    have hbig' := Lib.hid hbig
    clear hbig
    by_cases h1 : 1 ≤ keys.length
    · obtain ⟨ad, A0, c0, rfl, hcell0, hc0, hkey0⟩ := row_at HR.out 0 (by omega)
      have hrow0 := Lib.hid hkey0
      obtain ⟨i0, hi, hz0, hzs, hzb⟩ := info_parts info25
      have e0 : ad.add 0 = ad := by unfold Addr.add; cases ad; split <;> simp_all
      rw [e0] at hcell0
      obtain ⟨L, hL⟩ : ∃ L, L = keys[0].length := ⟨_, rfl⟩
      rw [← hL] at hcell0 hc0
      have hmk : ∀ W : World, (Instr.makeSlice 22 (.int .i64 (keys.length : Int)) (.int .i64 (keys.length : Int))).run Try.prog W = .ok (.slice (some ⟨W.heap.size, 0, none⟩) keys.length keys.length) (W.alloc (.cells (fillCells (.slice A0 L c0) keys.length 0) 25)) := by
        intro W
        have h := run_make (P := Try.prog) W 22 25 i0 (.slice none 0 0) Try.underlying22 hi hz0 .i64 .i64 keys.length keys.length (by omega) (by omega) (by rw [hzb]; omega) (by omega)
        have e2 : madeCells (Value.cells (.slice none 0 0)) keys.length = fillCells (.slice A0 L c0) keys.length 0 := by
          apply Array.ext'
          have : Value.cells (.slice none 0 0) = #[.slice none 0 0] := rfl
          rw [this, toList_madeCells_one]
          simp [fillCells]
        rw [Int.toNat_natCast, hzs, Nat.mul_one, e2] at h
        exact h
      have HL := Lib.hid hL
      clear hi hz0 hzs hzb hkey0 hL e0
      go_enter Try.func5, Try.ntmps5
      go_wp2_with fail
      refine (alive12 _).mono ?_
      rintro e w1 ⟨rfl, hB1⟩
      have hz1 := hB1.size
      have hr1 := Lib.hid (Kd.C_below HR.out hB1)
      go_wp2_with fail
      refine (big_any _ _ _ _ hr1.out hc).mono ?_
      rintro e w2 ⟨rfl, hB2⟩
      rw [hbig'.out]
      have hr2 := Lib.hid (Kd.C_below hr1.out hB2)
      have hb2 : Below w.heap.size w w2 := hB1.trans (hB2.mono hz1)
      have hz2 := hb2.size
      clear hr1 hB2 hB1
      go_wp2_with fail
      refine (build_any _ _ _ _ _ hr2.out hn).mono ?_
      rintro e w3 ⟨gf, rfl, hgf, hf, hB3⟩
      have hb3 : Below w.heap.size w w3 := hb2.trans (hB3.mono hz2)
      have hz3 := hb3.size
      clear hr2 hB3
      go_wp2_with fail
      clear hmk
      go_loopw [9] (fun i wr => ∃ (k : Nat), k ≤ keys.length ∧ i = .int .i64 k ∧ Blk wr w3.heap.size (fillCells (.slice A0 L c0) keys.length k) 25 ∧ Below w3.heap.size w3 wr) (fun i _ => keys.length - (intOf i).toNat)
      case atStart => exact ⟨0, Nat.zero_le _, rfl, heap_alloc_new _ _, (Below.refl _ _).alloc (Nat.le_refl _) _⟩
      case round =>
        obtain ⟨k, hk, rfl, hblk, hbr⟩ := hrel
        by_cases hlt : k < keys.length
        · have hcr := pw_cell_below hbr (pw_cell_below hb3 hcell0)
          have hck := hblk.cell (fillCells_at (.slice A0 L c0) keys.length k hlt)
          have hfk := hblk.frozen k
          have hset := hblk.set k (.slice A0 L c0)
          rw [fillCells_set (.slice A0 L c0) keys.length k hlt] at hset
          have hbs := Below.setCell (p := ⟨w3.heap.size, k, none⟩) hbr (Nat.le_refl _) (.slice A0 L c0)
          go_wp2_with fail
          go_roundw
          case rel => exact ⟨k + 1, by omega, by go_num, hset, hbs⟩
          case measure => simp [intOf]; omega
        · have hke : k = keys.length := by omega
          subst hke
          have hrows : Kd.C (Kd.slice 5 (Kd.int .u8)) wr (some ⟨w3.heap.size, 0, none⟩) (List.replicate keys.length keys[0]).length (List.replicate keys.length keys[0]) := by
            refine rows_mk (by simpa using hm) fun i hi => ?_
            have hi' : i < keys.length := by simpa using hi
            have e : (List.replicate keys.length keys[0])[i] = keys[0] := by simp
            rw [e]
            exact ⟨_, A0, c0, rfl, by rw [add_plain, ← HL.out]; exact hblk.cell (fillCells_get _ _ i hi'), by rw [← HL.out]; exact hc0, (hrow0.out.below hb3).below hbr⟩
          have HROWS := Lib.hid hrows
          have hfr := hf.below hbr
          have hb4 : Below w.heap.size w wr := hb3.trans (hbr.mono hz3)
          have hz4 := hb4.size
          clear hrows hf hblk hbr
          obtain ⟨hGL, hF9, hF301, hgl0, hmore⟩ := more_facts keys bits hn h1
          have HMORE := Lib.hid hmore
          have HGL := Lib.hid hGL
          have HG0 := Lib.hid hgl0
          clear hmore hGL hgl0
          go_wp2_with fail
          refine (build_at _ _ _ _ bits _ (by simp) HROWS.out (by simpa using hn)).mono ?_
          rintro e w5 ⟨gg, rfl, hgg, hg, hB5⟩
          rw [HGL.out]
          have hf5 := hfr.below hB5
          have hb5 : Below w.heap.size w w5 := hb4.trans (hB5.mono hz4)
          clear hfr hB5 hb4
          generalize hGG : buildL (List.replicate keys.length keys[0]) bits = G at *
          generalize hFF : buildL keys bits = F at *
          clear hGG hFF
          have hcf := hf5.cell (F.length - 1) (by omega)
          have hcg := hg.cell (F.length - 1) (by rw [HGL.out]; omega)
          have e1 : F.getD (F.length - 1) 0 = lastB F := by unfold lastB rd; congr 1; omega
          have e2 : G.getD (F.length - 1) 0 = lastB F := by rw [← HG0.out]; unfold rd; congr 1; omega
          rw [e1] at hcf
          rw [e2] at hcg
          clear e1 e2
          have hd2 : decide ((F.length : Int) < 2) = false := decide_eq_false (by omega)
          go_wp2_with fail
          go_quiet (fail)
          clear hcf hcg hd2
          go_wp2_with fail
          go_loopw [11] (fun i wr => ∃ (k : Nat), k ≤ F.length - 1 ∧ i = .int .i64 k ∧ Filt wr gf F ∧ Filt wr gg G ∧ Below w.heap.size w wr) (fun i _ => F.length - (intOf i).toNat)
          case atStart => exact ⟨0, Nat.zero_le _, rfl, hf5, hg, ⟨hb5.os, hb5.tape, hb5.output, hb5.size, hb5.block⟩⟩
          case round =>
            clear hf5 hg hb5
            obtain ⟨j, hj, rfl, hfw, hgw, hbw⟩ := hrel
            by_cases hjl : j < F.length - 1
            · have hx := hfw.cell j (by omega)
              have hy := hgw.cell j (by rw [HGL.out]; omega)
              have hxe : F.getD j 0 = rd F j := by unfold rd; rw [Int.toNat_natCast]
              have hye : G.getD j 0 = rd G j := by unfold rd; rw [Int.toNat_natCast]
              rw [hxe] at hx
              rw [hye] at hy
              clear hxe hye
              have hz : (Go.bits .andNot .u8 (rd G j) (rd F j) != 0) = false := by rw [HMORE.out j hjl]; rfl
              have hj0 : (0 : Int) ≤ (j : Int) := by omega
              have hj1 : (j : Int) < (F.length : Int) := by omega
              have hjl' : (j : Int) < (F.length : Int) - 1 := by omega
              go_wp2_with fail
              go_quiet (fail)
              go_wp2_with fail
              go_roundw
              case rel => exact ⟨j + 1, by omega, by go_num, hfw, hgw, ⟨hbw.os, hbw.tape, hbw.output, hbw.size, hbw.block⟩⟩
              case measure => simp [intOf]; omega
            · have hjl' : ¬ ((j : Int) < (F.length : Int) - 1) := by omega
              go_wp2_with fail
              go_ret
              exact ⟨rfl, hbw⟩
    · go_enter Try.func5, Try.ntmps5
      go_wp2_with fail
      refine (alive12 _).mono ?_
      rintro e w1 ⟨rfl, hB1⟩
      have hz1 := hB1.size
      have hr1 := Lib.hid (Kd.C_below HR.out hB1)
      go_wp2_with fail
      refine (big_any _ _ _ _ hr1.out hc).mono ?_
      rintro e w2 ⟨rfl, hB2⟩
      rw [hbig'.out]
      have hb2 : Below w.heap.size w w2 := hB1.trans (hB2.mono hz1)
      go_wp2
      go_ret
      exact ⟨rfl, hb2⟩
  · go_enter Try.func5, Try.ntmps5
    go_wp2_with fail
    refine (alive12 _).mono ?_
    rintro e w1 ⟨rfl, hB1⟩
    have hz1 := hB1.size
    have hr1 := Lib.hid (Kd.C_below HR.out hB1)
    go_wp2_with fail
    refine (big_any _ _ _ _ hr1.out hc).mono ?_
    rintro e w2 ⟨rfl, hB2⟩
    rw [hbig]
    have hb2 : Below w.heap.size w w2 := hB1.trans (hB2.mono hz1)
    go_wp2
    go_ret
    exact ⟨rfl, hb2⟩

theorem bloomMore_row (A : Option Addr) (c : Nat) (keys : List (List Int)) (bits : Int) {w : World} (hr : Kd.C (Kd.slice 5 (Kd.int .u8)) w A keys.length keys) (hbt : ∀ r ∈ keys, Bytes r) (hc : keys.length ≤ c) (_ : (Lit.int .i64 bits).wf = true) (W : World) (e : w = W) :
    Calls Try.prog 5 #[.slice A keys.length c, .int .i64 bits] W fun e w' => e = .returned (.bool true) ∧ Below W.heap.size W w' := by
  subst e; exact bloomMore_walk A c keys bits w hr hbt hc

end Go.Proofs.Ytgfjagbcdjmgkaa
