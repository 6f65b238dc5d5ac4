/-
  The walk of the statement ShaWhole.
-/
import Derived.Test.YtoophccelcbbfaaDoorStr
set_option linter.unusedVariables false
set_option linter.unusedSimpArgs false
namespace Go.Proofs.YtoophccelcbbfaaDoor
open Go.RowKit

theorem Sen.pad_take (b : List UInt8) : (Sen.pad b).take b.length = b := by simp [Sen.pad]
def zeros64 : List UInt8 := List.replicate 64 0
theorem zero33 (w : World) : (zeroValue 33).run Tryd.prog w = .ok (.agg (bvs zeros64).toArray) w := by kernel_rfl
/-- The first j bytes of block k, zeros behind. -/
def bcells (P : List UInt8) (k j : Nat) : List UInt8 := (P.drop (64 * k)).take j ++ List.replicate (64 - j) 0

theorem bcells_length (P : List UInt8) (k j : Nat) (hj : j ≤ 64) (h : 64 * k + 64 ≤ P.length) : (bcells P k j).length = 64 := by simp [bcells]; omega
theorem bcells_all (P : List UInt8) (k : Nat) : bcells P k 64 = (P.drop (64 * k)).take 64 := by simp [bcells]
theorem bcells_set (P : List UInt8) (k j : Nat) (hj : j < 64) (h : 64 * k + 64 ≤ P.length) : (bcells P k j).set j (P.getD (64 * k + j) 0) = bcells P k (j + 1) := by
  have hl : ((P.drop (64 * k)).take j).length = j := by simp; omega
  have e1 : (P.drop (64 * k)).take (j + 1) = (P.drop (64 * k)).take j ++ [P.getD (64 * k + j) 0] := by
    rw [List.take_add_one, List.getElem?_drop, List.getElem?_eq_getElem (by omega), List.getD_eq_getElem?_getD, List.getElem?_eq_getElem (by omega)]
    rfl
  unfold bcells
  rw [List.set_append_right _ _ (by omega), hl, Nat.sub_self, e1, show 64 - j = (64 - (j + 1)) + 1 by omega, List.replicate_succ, List.set_cons_zero, List.append_assoc]
  rfl
/-- A digest's bytes, by the state's words. -/
theorem Sen.sumOf_at (st : List Nat) (i : Nat) (h : i < 4 * st.length) : (Sen.sumOf st).getD i 0 = UInt8.ofNat (st.getD (i / 4) 0 / 2 ^ (24 - 8 * (i % 4))) := by
  induction st generalizing i with
  | nil => simp at h
  | cons x st ih =>
    have e : Sen.sumOf (x :: st) = Sen.bytes4 x ++ Sen.sumOf st := rfl
    rw [e, List.getD_eq_getElem?_getD]
    by_cases h4 : i < 4
    · rw [List.getElem?_append_left (by simpa [Sen.bytes4] using h4)]
      obtain rfl | rfl | rfl | rfl : i = 0 ∨ i = 1 ∨ i = 2 ∨ i = 3 := by omega
      all_goals simp [Sen.bytes4]
    · rw [List.getElem?_append_right (by simp [Sen.bytes4]; omega)]
      have := ih (i - 4) (by simp at h; omega)
      rw [List.getD_eq_getElem?_getD] at this
      rw [show i - (Sen.bytes4 x).length = i - 4 from rfl, this, show (i - 4) % 4 = i % 4 by omega, show i / 4 = (i - 4) / 4 + 1 by omega]
      simp
/-- What holds at the head of the blocks' loop. -/
structure WInv (w wr : World) (S g : Nat) (P : List UInt8) (st : List Nat) : Prop where
  hS : wr.heap[S]? = some (.cells (wvs st).toArray 32 (0, 0))
  hg : wr.heap[g]? = some (.cells (bvs P).toArray 5 (0, 0))
  hB : Below w.heap.size w wr
  lS : w.heap.size ≤ S
  nSg : S ≠ g
theorem WInv.below {w wr w2 : World} {S g : Nat} {P : List UInt8} {st : List Nat} (h : WInv w wr S g P st) (hb : Below wr.heap.size wr w2) : WInv w w2 S g P st :=
  ⟨blk_below h.hS hb (Array.getElem?_eq_some_iff.1 h.hS).1, blk_below h.hg hb (Array.getElem?_eq_some_iff.1 h.hg).1, h.hB.trans (hb.mono h.hB.size), h.lS, h.nSg⟩
theorem WInv.store {w wr : World} {S g : Nat} {P : List UInt8} {st : List Nat} (h : WInv w wr S g P st) (st' : List Nat) : WInv w (wr.setRow S (wvs st').toArray) S g P st' :=
  ⟨setRow_heap _ _ _ _ _ _ h.hS, (setRow_other _ _ _ _ (Ne.symm h.nSg)).trans h.hg, below_setRow h.hB h.lS _, h.lS, h.nSg⟩

set_option maxRecDepth 100000 in
set_option maxHeartbeats 2000000 in
theorem law_whole (A : Option Addr) (c : Nat) (l : List UInt8) (w : World) (hc : l.length ≤ c) (hR : RB w A l) (hT : Tab w) :
    Calls Tryd.prog 5 #[.slice A l.length c] w fun e w' => e = .returned (.bool true) ∧ Below w.heap.size w w' := by
  have hz := zero33
  have hz2 := zero32'
  have HC := Lib.hid hc; have HR := Lib.hid hR; have HT := Lib.hid hT
  clear hc hR hT
  go_enter Tryd.func5, Tryd.ntmps5
  go_wp2_with fail
  refine (works4_c _ HT.out).mono ?_
  rintro e w1 ⟨rfl, hb1⟩
  go_wp2_with fail
  refine (short4_c A c l _ HC.out HR.out.1).mono ?_
  rintro e w2 ⟨rfl, rfl⟩
  obtain ⟨s, hs⟩ : ∃ s, s = l.take 300 := ⟨_, rfl⟩
  have hr1 := (HR.out.below hb1).take 300
  have ht1 := HT.out.below hb1
  rw [← hs] at hr1 ⊢
  have hsl : s.length ≤ 1048576 := by rw [hs]; simp; omega
  have HR1 := Lib.hid hr1; have HT1 := Lib.hid ht1; have HSL := Lib.hid hsl; have HB1 := Lib.hid hb1
  clear hr1 ht1 hsl hs HR HC HT
  go_wp2_with fail
  refine (pad_c A c s _ HSL.out HR1.out).mono ?_
  rintro e w2 ⟨v, rfl, g, rfl, hg2, hge, hb2⟩
  have hpl := Sen.pad_length s
  have hpm := Sen.pad_mod s
  have hpu := Sen.pad_le s
  obtain ⟨N, hN⟩ : ∃ N, N = (Sen.pad s).length := ⟨_, rfl⟩
  obtain ⟨L, hL⟩ : ∃ L, L = s.length := ⟨_, rfl⟩
  have hr2 := HR1.out.below hb2
  have ht2 := HT1.out.below hb2
  have hB2 : Below w.heap.size w w2 := hb1.trans (hb2.mono hb1.size)
  have hsl := fun W => run_slice_to (some ⟨g, 0, none⟩) N N L (by omega) W
  have hcv1 : ∀ n, (convert 22 9 (.slice (some ⟨g, 0, none⟩) L N)).run Tryd.prog (w2.drewN n) = .ok (.string (bstr s)) (w2.drewN n) := fun n => by
    have h := run_str (((rb_of_row hg2 (by have := HSL.out; omega)).take s.length).drewN n) N
    rw [Sen.pad_take, ← hL] at h
    exact h
  have hcv2 : ∀ n, (convert 22 9 (.slice A L c)).run Tryd.prog (w2.drewN n) = .ok (.string (bstr s)) (w2.drewN n) := fun n => by
    have h := run_str (hr2.drewN n) c
    rw [← hL] at h
    exact h
  rw [← hN] at hpl hpm hpu ⊢
  rw [← hL] at hpl hpu ⊢
  have HN := Lib.hid hN; have HL := Lib.hid hL; have HR2 := Lib.hid hr2; have HT2 := Lib.hid ht2; have HG2 := Lib.hid hg2
  clear hN hL hr2 ht2 hg2
  have hNm : N = 64 * (N / 64) := by omega
  have t0 : (N : Int).tmod 64 = 0 := by rw [Int.tmod_eq_emod_of_nonneg (by omega)]; omega
  have t1 : decide ((N : Int) < (L : Int) + 9) = false := by simp; omega
  have t2 : decide ((N : Int) > (L : Int) + 72) = false := by simp; omega
  have t3 : (L : Int) ≤ N := by omega
  have hNs : N ≤ 2097152 := by have := HSL.out; have := HL.out; omega
  have HNM := Lib.hid hNm
  clear hNm hpl hpm hpu
  go_wp2
  go_quiet (fail)
  clear hsl hcv1 hcv2 t1 t2 t3 t0
  go_wp2_with fail
  refine (ref_first_c _).mono ?_
  rintro e w3 ⟨rfl, hb3⟩
  go_wp2_with (with_reducible refine wpList_store_any rfl 32 _ _ rfl _ (wvs Sen.H0) rfl rfl 32 _ (blk_new _ rfl) 8 (by kernel_rfl) (by decide) (by kernel_rfl) (wvs_one _) ?_ rfl)
  rw [setRow_alloc]
  have inv : WInv w1 (w3.alloc (.cells (wvs Sen.H0).toArray 32)) w3.heap.size g (Sen.pad s) Sen.H0 := by
    have h3 : w2.heap.size ≤ w3.heap.size := by have := hb3.size; simpa using this
    have hlg := (Array.getElem?_eq_some_iff.1 HG2.out).1
    have hb3' : Below w2.heap.size w2 w3 := (below_drewN (Below.refl _ _) nq).trans hb3
    exact ⟨blk_new _ rfl, blk_old _ (blk_below HG2.out hb3' hlg), below_alloc (hb2.trans (hb3'.mono hb2.size)) _, Nat.le_trans hb2.size h3, by omega⟩
  obtain ⟨S, hS⟩ : ∃ S, S = w3.heap.size := ⟨_, rfl⟩
  obtain ⟨W, hW⟩ : ∃ W, W = w3.alloc (.cells (wvs Sen.H0).toArray 32) := ⟨_, rfl⟩
  rw [← hS, ← hW] at inv ⊢
  clear hS hW hb3 hge hb2 hB2 HG2 HT2 HR2
  obtain ⟨m, hm⟩ : ∃ m, m = N / 64 := ⟨_, rfl⟩
  have hNm := HNM.out
  rw [← hm] at hNm
  have HM := Lib.hid hm
  have HNm := Lib.hid hNm
  clear hm HNM hNm
  go_loopw [5] (fun vi wr => ∃ k : Nat, k ≤ m ∧ vi = .int .i64 (64 * k : Nat) ∧ WInv w1 wr S g (Sen.pad s) (Sen.blocks k Sen.H0 (Sen.pad s))) (fun i _ => N - (intOf i).toNat)
  case atStart => exact ⟨0, by omega, rfl, inv⟩
  case round =>
    obtain ⟨k, hk, rfl, inv⟩ := hrel
    by_cases hlt : k < m
    · have t0 : decide (((64 * k : Nat) : Int) < (N : Int)) = true := by have := HNm.out; simp; omega
      have t1 : ((64 * k : Nat) : Int) < (N : Int) := by have := HNm.out; omega
      have HKN := Lib.hid (show 64 * k + 64 ≤ N by have := HNm.out; omega)
      go_wp2_with (with_reducible refine wpList_store_any rfl 33 _ _ rfl _ (bvs zeros64) rfl rfl 33 _ (blk_new _ rfl) 64 (by kernel_rfl) (by decide) (by kernel_rfl) (bvs_one _) ?_ rfl)
      rw [setRow_alloc]
      obtain ⟨P, hP⟩ : ∃ P, P = Sen.pad s := ⟨_, rfl⟩
      have hPN : P.length = N := by rw [hP, HN.out]
      rw [← hP] at inv
      have HP := Lib.hid hP
      obtain ⟨st, hst⟩ : ∃ st, st = Sen.blocks k Sen.H0 P := ⟨_, rfl⟩
      have hl8 : st.length = 8 := by rw [hst]; exact Sen.blocks_length _ _ _ (by decide)
      have hlt8 : ∀ x ∈ st, x < 4294967296 := by rw [hst]; exact Sen.blocks_lt _ _ _ Sen.H0_lt
      rw [← hst] at inv
      have HST := Lib.hid hst
      obtain ⟨X, hX⟩ : ∃ X, X = wr.alloc (.cells (bvs zeros64).toArray 33) := ⟨_, rfl⟩
      have hD : X.heap[wr.heap.size]? = some (.cells (bvs zeros64).toArray 33 (0, 0)) := by rw [hX]; exact blk_new _ rfl
      have invX : WInv w1 X S g P st := by rw [hX]; exact inv.below (below_alloc (Below.refl _ _) _)
      have hDS : S < wr.heap.size := (Array.getElem?_eq_some_iff.1 inv.hS).1
      have hDg : g < wr.heap.size := (Array.getElem?_eq_some_iff.1 inv.hg).1
      have hDw : w1.heap.size ≤ wr.heap.size := inv.hB.size
      rw [← hX]
      obtain ⟨D, hDD⟩ : ∃ D, D = wr.heap.size := ⟨_, rfl⟩
      rw [← hDD] at hD hDS hDg hDw ⊢
      have HD := Lib.hid hD; have HPN := Lib.hid hPN; have INVX := Lib.hid invX; have HL8 := Lib.hid hl8
      clear hX hDD inv hD invX hPN hst hP hl8
      have hset := fun cs i v => row_set HD.out cs i v
      have hcell := fun cs j => row_cell HD.out cs j
      have hfro := fun cs j => row_frozen HD.out cs j
      go_loopw [7] (fun vj wx => ∃ j : Nat, j ≤ 64 ∧ vj = .int .i64 j ∧ wx = X.setRow D (bvs (bcells P k j)).toArray) (fun i _ => 64 - (intOf i).toNat)
      case atStart => exact ⟨0, by omega, rfl, (row_same HD.out).symm⟩
      case round =>
        obtain ⟨j, hj, rfl, rfl⟩ := hrel
        by_cases hj64 : j < 64
        · have d64 : decide ((j : Int) < 64) = true := by simp; omega
          have j64 : (j : Int) < 64 := by omega
          obtain ⟨x, hx, ex, cx⟩ := getD_at P (64 * k + j) (by rw [HPN.out]; have := HKN.out; omega)
          have hrd : (X.setRow D (bvs (bcells P k j)).toArray).cell? ⟨g, 64 * k + j, none⟩ = some (.int .u8 (x : Int)) := (cell_of_row _ g _ _ _ _ ((setRow_other X D g _ (by omega)).trans INVX.out.hg)).trans (by simpa using cx)
          have hln : (bvs (bcells P k j)).length = 64 := by rw [bvs_length, bcells_length _ _ _ hj (by rw [HPN.out]; have := HKN.out; omega)]
          have hij : 64 * (k : Int) + (j : Int) < N := by have := HKN.out; omega
          obtain ⟨y, ey⟩ := bvs_some (bcells P k j) j (by rw [bcells_length _ _ _ hj (by rw [HPN.out]; have := HKN.out; omega)]; exact hj64)
          have SET := Lib.hid (show (bvs (bcells P k j)).set j (.int .u8 (x : Int)) = bvs (bcells P k (j + 1)) by rw [bvs_set _ _ (P.getD (64 * k + j) 0) _ (by rw [ex]), bcells_set _ _ _ hj64 (by rw [HPN.out]; have := HKN.out; omega)])
          clear ex cx
          go_wp2
          exact ⟨⟨j + 1, by omega, by go_num, congrArg (fun c => X.setRow D (List.toArray c)) SET.out⟩, by simp [intOf]; omega⟩
        · obtain rfl : j = 64 := by omega
          have d64 : decide (((64 : Nat) : Int) < 64) = false := by decide
          clear hset hcell hfro
          rw [bcells_all]
          have hbl : ((P.drop (64 * k)).take 64).length = 64 := by simp [HPN.out]; have := HKN.out; omega
          obtain ⟨B, hB⟩ : ∃ B, B = (P.drop (64 * k)).take 64 := ⟨_, rfl⟩
          rw [← hB] at hbl ⊢
          have invY : WInv w1 (X.setRow D (bvs B).toArray) S g P st := ⟨(setRow_other X D S _ (by omega)).trans INVX.out.hS, (setRow_other X D g _ (by omega)).trans INVX.out.hg, below_setRow INVX.out.hB (by omega) _, INVX.out.lS, INVX.out.nSg⟩
          have hDY : (X.setRow D (bvs B).toArray).heap[D]? = some (.cells (bvs B).toArray 33 (0, 0)) := setRow_heap _ _ _ _ _ _ HD.out
          obtain ⟨Y, hY⟩ : ∃ Y, Y = X.setRow D (bvs B).toArray := ⟨_, rfl⟩
          rw [← hY] at invY hDY ⊢
          have HB := Lib.hid hB; have HBL := Lib.hid hbl; have INVY := Lib.hid invY; have HDY := Lib.hid hDY
          clear hB hbl invY hDY hY
          have hwl := Lib.hid (show (wvs st).length = 8 by rw [wvs_length]; exact HL8.out)
          have hbvl := Lib.hid (show (bvs B).length = 64 by rw [bvs_length]; exact HBL.out)
          go_wp2_with (first | (with_reducible refine wpList_load_any rfl 32 _ rfl S (wvs st) rfl 32 (0, 0) INVY.out.hS 8 31 Tryd.underlying32 (by kernel_rfl) hwl.out ?_) | (with_reducible refine wpList_load_any rfl 33 _ rfl D (bvs B) rfl 33 (0, 0) HDY.out 64 5 Tryd.underlying33 (by kernel_rfl) hbvl.out ?_) | (go_at_call 24; refine (block_c st HL8.out hlt8 B HBL.out Y (HT1.out.below INVY.out.hB)).mono ?_; rintro e w4 ⟨rfl, hb4⟩; have inv4 := INVY.out.below hb4; have hwl2 := Lib.hid (show (wvs (Sen.block st B)).length = 8 by rw [wvs_length]; exact Sen.block_length _ _ HL8.out)) | (with_reducible refine wpList_store_any rfl 32 _ _ rfl S (wvs (Sen.block st B)) rfl rfl 32 _ inv4.hS 8 (by kernel_rfl) hwl2.out (by simpa using hwl.out) (wvs_one _) ?_ rfl))
          go_roundw
          case rel =>
            refine ⟨k + 1, by omega, ?_, ?_⟩
            · go_num
            · rw [Sen.blocks_snoc, ← HP.out, ← HST.out, ← HB.out]; exact inv4.store _
          case measure => have := HNm.out; simp [intOf]; omega
    · obtain rfl : k = m := by omega
      have hsum : Sen.sum s = Sen.sumOf (Sen.blocks k Sen.H0 (Sen.pad s)) := by unfold Sen.sum; rw [← HN.out, ← HM.out]
      obtain ⟨st, hst⟩ : ∃ st, st = Sen.blocks k Sen.H0 (Sen.pad s) := ⟨_, rfl⟩
      have hl8 : st.length = 8 := by rw [hst]; exact Sen.blocks_length _ _ _ (by decide)
      have hlt8 : ∀ x ∈ st, x < 4294967296 := by rw [hst]; exact Sen.blocks_lt _ _ _ Sen.H0_lt
      rw [← hst] at inv hsum
      have t0 : decide (64 * (k : Int) < (N : Int)) = false := by have := HNm.out; simp; omega
      have HSUM := Lib.hid hsum; have HL8 := Lib.hid hl8; have INV := Lib.hid inv; have HLT8 := Lib.hid hlt8
      clear hst hl8 inv hsum hlt8
      have hz3 := zero24
      go_wp2_with fail
      have hsc := sum_c A c s wr HSL.out (HR1.out.below INV.out.hB) (HT1.out.below INV.out.hB)
      rw [← HL.out] at hsc
      refine hsc.mono ?_
      clear hsc
      rintro e w4 ⟨rfl, hb4⟩
      have hsl := Lib.hid (show (bvs (Sen.sum s)).length = 32 by rw [bvs_length, Sen.sum_length])
      have inv4 := INV.out.below hb4
      go_wp2_with (with_reducible refine wpList_store_any rfl 24 _ _ rfl _ (bvs (Sen.sum s)) rfl rfl 24 _ (blk_new _ rfl) 32 (by kernel_rfl) hsl.out (by kernel_rfl) (bvs_one _) ?_ rfl)
      rw [setRow_alloc]
      have hX : (w4.alloc (.cells (bvs (Sen.sum s)).toArray 24)).heap[w4.heap.size]? = some (.cells (bvs (Sen.sum s)).toArray 24 (0, 0)) := blk_new _ rfl
      have invX : WInv w1 (w4.alloc (.cells (bvs (Sen.sum s)).toArray 24)) S g (Sen.pad s) st := inv4.below (below_alloc (Below.refl _ _) _)
      obtain ⟨X, hXX⟩ : ∃ X, X = w4.alloc (.cells (bvs (Sen.sum s)).toArray 24) := ⟨_, rfl⟩
      obtain ⟨R, hRR⟩ : ∃ R, R = w4.heap.size := ⟨_, rfl⟩
      rw [← hXX] at hX invX ⊢
      rw [← hRR] at hX ⊢
      have HX := Lib.hid hX; have INVX := Lib.hid invX
      clear hXX hRR hX invX inv4 hb4 hz hz2 hz3 t0
      go_loopw [9] (fun vi wx => ∃ i n : Nat, i ≤ 32 ∧ vi = .int .i64 i ∧ wx = X.drewN n) (fun i _ => 32 - (intOf i).toNat)
      case atStart => exact ⟨0, 0, by omega, rfl, rfl⟩
      case round =>
        obtain ⟨i, n, hi, rfl, rfl⟩ := hrel
        by_cases hi32 : i < 32
        · have d32 : decide ((i : Int) < 32) = true := by simp; omega
          have i32 : (i : Int) < 32 := by omega
          obtain ⟨y, hy, ey, cy⟩ := getD_at (Sen.sum s) i (by rw [Sen.sum_length]; exact hi32)
          obtain ⟨x, hx, ex, cx⟩ := getD_atw st (i / 4) (by rw [HL8.out]; omega) HLT8.out
          have c1 : X.cell? ⟨R, i, none⟩ = some (.int .u8 (y : Int)) := (cell_of_row X _ i _ _ _ HX.out).trans (by simpa using cy)
          have c2 : X.cell? ⟨S, i / 4, none⟩ = some (.int .u32 (x : Int)) := (cell_of_row X _ (i / 4) _ _ _ INVX.out.hS).trans (by simpa using cx)
          have hv : (x : Int) / 2 ^ (24 - 8 * (i % 4)) % 256 = (y : Int) := by
            rw [ey, HSUM.out, Sen.sumOf_at _ _ (by rw [HL8.out]; omega), ← ex, UInt8.toNat_ofNat', Int.natCast_emod, Int.natCast_ediv, Int.natCast_pow]
            rfl
          clear ex ey cx cy
          go_wp2
          go_quiet (fail)
          go_wp2
          go_roundw
          case rel => exact ⟨i + 1, n + nq, by omega, by go_num, rfl⟩
          case measure => simp [intOf]; omega
        · obtain rfl : i = 32 := by omega
          have d32 : decide (((32 : Nat) : Int) < 32) = false := by decide
          go_wp2
          go_ret
          exact ⟨rfl, below_drewN (HB1.out.trans (INVX.out.hB.mono HB1.out.size)) n⟩
end Go.Proofs.YtoophccelcbbfaaDoor
