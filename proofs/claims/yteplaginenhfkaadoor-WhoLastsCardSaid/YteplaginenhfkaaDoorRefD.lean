/-
  The reference of layer 4: Sum, Prefix.
-/
import Derived.Test.YteplaginenhfkaaDoorRefB
import Derived.Test.YteplaginenhfkaaDoorRefC
import Derived.Test.YteplaginenhfkaaDoorRefF
set_option linter.unusedVariables false
set_option linter.unusedSimpArgs false
namespace Go.Proofs.YteplaginenhfkaaDoor
open Go.RowKit

theorem RB.setRow {w : World} {A : Option Addr} {l : List UInt8} (h : RB w A l) (g : Nat) (cs : Array Value) (hA : ∀ ad, A = some ad → ad.block ≠ g) : RB (w.setRow g cs) A l :=
  ⟨h.1, fun i hi => by
    obtain ⟨b, off, e, hc⟩ := h.2 i hi
    exact ⟨b, off, e, (cell_other w g cs ⟨b, off + i, none⟩ (show b ≠ g from hA _ e)).trans hc⟩⟩
theorem Own.reads2 {w : World} {base : Nat} {v : Value} {l : List UInt8} (h : Own w base v l) (hl : l.length ≤ 140737488351232) : ∃ A c, v = .slice A l.length c ∧ l.length ≤ c ∧ RB w A l ∧ ∀ ad, A = some ad → base ≤ ad.block := by
  obtain ⟨A, c, e, h1, h2⟩ := h.reads hl
  refine ⟨A, c, e, h1, h2, fun ad had => ?_⟩
  obtain ⟨_, h3⟩ := h
  rcases h3 with ⟨e2, h0⟩ | ⟨g, cap, cur, e2, hg, _⟩
  · rw [e2] at e; injection e with e3; rw [← e3] at had; cases had
  · rw [e2] at e; injection e with e3; rw [← e3] at had; injection had with had; rw [← had]; exact hg
structure RInv (w wr : World) (S R : Nat) (A : Option Addr) (P : List UInt8) (st : List Nat) : Prop where
  hS : wr.heap[S]? = some (.cells (wvs st).toArray 94 (0, 0))
  hR : wr.heap[R]? = some (.cells (bvs zeros32).toArray 75 (0, 0))
  hP : RB wr A P
  hB : Below w.heap.size w wr
  lS : w.heap.size ≤ S
  lR : w.heap.size ≤ R
  nSR : S ≠ R
  hPS : ∀ ad, A = some ad → ad.block ≠ S
theorem RInv.below {w wr w2 : World} {S R : Nat} {A : Option Addr} {P : List UInt8} {st : List Nat} (h : RInv w wr S R A P st) (hb : Below wr.heap.size wr w2) : RInv w w2 S R A P st :=
  ⟨blk_below h.hS hb (Array.getElem?_eq_some_iff.1 h.hS).1, blk_below h.hR hb (Array.getElem?_eq_some_iff.1 h.hR).1, h.hP.below hb, h.hB.trans (hb.mono h.hB.size), h.lS, h.lR, h.nSR, h.hPS⟩
theorem RInv.store {w wr : World} {S R : Nat} {A : Option Addr} {P : List UInt8} {st : List Nat} (h : RInv w wr S R A P st) (st' : List Nat) : RInv w (wr.setRow S (wvs st').toArray) S R A P st' :=
  ⟨setRow_heap _ _ _ _ _ _ h.hS, (setRow_other _ _ _ _ (Ne.symm h.nSR)).trans h.hR, h.hP.setRow _ _ h.hPS, below_setRow h.hB h.lS _, h.lS, h.lR, h.nSR, h.hPS⟩
/-- A block's bytes so far. -/
def bcells (P : List UInt8) (i k : Nat) : List UInt8 := (P.drop i).take k ++ List.replicate (64 - k) 0
theorem bcells_length (P : List UInt8) (i k : Nat) (h : i + 64 ≤ P.length) (hk : k ≤ 64) : (bcells P i k).length = 64 := by simp [bcells]; omega
theorem bcells_set (P : List UInt8) (i k : Nat) (h : i + 64 ≤ P.length) (hk : k < 64) : (bcells P i k).set k (P.getD (i + k) 0) = bcells P i (k + 1) := by
  have e : ((P.drop i).take k).length = k := by simp; omega
  have e2 : (P.drop i).take (k + 1) = (P.drop i).take k ++ [P.getD (i + k) 0] := by
    rw [List.take_succ_eq_append_getElem (by simp; omega)]
    simp [List.getD_eq_getElem?_getD, List.getElem?_eq_getElem (show i + k < P.length by omega)]
  unfold bcells
  rw [List.set_append_right _ _ (by omega), e, Nat.sub_self, e2, show 64 - k = (64 - (k + 1)) + 1 by omega, List.replicate_succ, List.set_cons_zero, List.append_assoc]
  rfl
theorem zero64 (w : World) : (zeroValue 93).run Tryd.prog w = .ok (.agg (bvs (List.replicate 64 0)).toArray) w := by kernel_rfl

/-- The result's bytes: words, and a word from its end. -/
def wtail (x j : Nat) : List UInt8 := (List.range 4).map fun t => if 3 - t < j then UInt8.ofNat (x / 256 ^ (3 - t)) else 0
theorem wtail_set (x j : Nat) (h : j < 4) : (wtail x j).set (3 - j) (UInt8.ofNat (x / 256 ^ j)) = wtail x (j + 1) := by
  obtain rfl | rfl | rfl | rfl : j = 0 ∨ j = 1 ∨ j = 2 ∨ j = 3 := by omega
  all_goals rfl
theorem wtail_zero (x : Nat) : wtail x 0 = [0, 0, 0, 0] := by simp [wtail, List.range, List.range.loop]
theorem wtail_all (x : Nat) : wtail x 4 = Sen.bytes4 x := by simp [wtail, Sen.bytes4, List.range, List.range.loop]
def ecells (st : List Nat) (i j : Nat) : List UInt8 := Sen.sumOf (st.take i) ++ (wtail (st.getD i 0) j ++ List.replicate (28 - 4 * i) 0)
theorem sumOf_take_length (st : List Nat) (hs : st.length = 8) (i : Nat) (hi : i < 8) : (Sen.sumOf (st.take i)).length = 4 * i := by rw [Sen.sumOf_length]; simp [hs]; omega
theorem wtail_length (x j : Nat) : (wtail x j).length = 4 := by simp [wtail]
theorem ecells_length (st : List Nat) (hs : st.length = 8) (i j : Nat) (hi : i < 8) : (ecells st i j).length = 32 := by
  simp [ecells, sumOf_take_length st hs i hi, wtail_length]; omega
theorem ecells_zero (st : List Nat) (i : Nat) (hi : i < 8) : ecells st i 0 = Sen.dcells st i := by
  unfold ecells Sen.dcells
  rw [wtail_zero, show 32 - 4 * i = (28 - 4 * i) + 1 + 1 + 1 + 1 by omega]
  rfl
theorem ecells_all (st : List Nat) (hs : st.length = 8) (i : Nat) (hi : i < 8) : ecells st i 4 = Sen.dcells st (i + 1) := by
  unfold ecells Sen.dcells
  rw [wtail_all, show 32 - 4 * (i + 1) = 28 - 4 * i by omega, List.take_succ_eq_append_getElem (by omega)]
  have e : st.getD i 0 = st[i]'(by omega) := by simp [List.getD_eq_getElem?_getD, List.getElem?_eq_getElem (show i < st.length by omega)]
  unfold Sen.sumOf
  rw [List.flatMap_append, List.append_assoc, e, List.flatMap_singleton]
theorem ecells_set (st : List Nat) (hs : st.length = 8) (i j : Nat) (hi : i < 8) (hj : j < 4) : (ecells st i j).set (4 * i + (3 - j)) (UInt8.ofNat (st.getD i 0 / 256 ^ j)) = ecells st i (j + 1) := by
  unfold ecells
  have e := sumOf_take_length st hs i hi
  rw [List.set_append_right _ _ (by omega), e, Nat.add_sub_cancel_left, List.set_append_left _ _ (by rw [wtail_length]; omega), wtail_set _ _ hj]

set_option maxRecDepth 100000 in
set_option maxHeartbeats 1000000 in
theorem ref_sum_c (A : Option Addr) (c : Nat) (l : List UInt8) (w : World) (hl : l.length ≤ 1048576) (hR : RB w A l) :
    Calls Tryd.prog 49 #[.slice A l.length c] w fun e w' => e = .returned (.agg (bvs (Sen.sum l)).toArray) ∧ Below w.heap.size w w' := by
  have hz := zero24
  have hz2 := zero32'
  have hz3 := zero64
  obtain ⟨z64, hz64⟩ : ∃ z64, z64 = List.replicate 64 (0 : UInt8) := ⟨_, rfl⟩
  rw [← hz64] at hz3
  have hzl : (bvs z64).length = 64 := by rw [hz64]; rfl
  have HZ := Lib.hid hz64; have HZL := Lib.hid hzl
  clear hz64 hzl
  have HR := Lib.hid hR
  have HLl := Lib.hid hl
  clear hR hl
  go_enter Tryd.func49, Tryd.ntmps49
  go_wp2_with (first | (go_at_call 52; refine (ref_first_c _).mono ?_; rintro e w1 ⟨rfl, hb1⟩) | (with_reducible refine wpList_store_any rfl 94 _ _ rfl _ (wvs Sen.H0) rfl rfl 94 _ (blk_new _ rfl) 8 (by kernel_rfl) (by decide) (by kernel_rfl) (wvs_one _) ?_ rfl))
  rw [setRow_alloc]
  have hbw : Below w.heap.size w (w1.alloc (.cells (wvs Sen.H0).toArray 94)) := below_alloc ((below_alloc (Below.refl _ _) _).trans (hb1.mono (by simp))) _
  have hlt : w.heap.size < w1.heap.size := by have := hb1.size; simp at this; omega
  have hr : (w1.alloc (.cells (wvs Sen.H0).toArray 94)).heap[w.heap.size]? = some (.cells (bvs zeros32).toArray 75 (0, 0)) := blk_old _ (blk_below (blk_new _ rfl) hb1 (by simp))
  have hs : (w1.alloc (.cells (wvs Sen.H0).toArray 94)).heap[w1.heap.size]? = some (.cells (wvs Sen.H0).toArray 94 (0, 0)) := blk_new _ rfl
  refine (ref_pad_c A c l _ HLl.out (HR.out.below hbw)).mono ?_
  rintro e w2 ⟨v, rfl, hown, hb2⟩
  obtain ⟨A2, c2, rfl, hc2, hr2, hge⟩ := hown.reads2 (by have := Sen.pad_le l; have := HLl.out; omega)
  have inv : RInv w w2 w1.heap.size w.heap.size A2 (Sen.pad l) Sen.H0 :=
    ⟨blk_below hs hb2 (by simp), blk_below hr hb2 (by simp; omega), hr2, hbw.trans (hb2.mono (by simp; omega)), by omega, Nat.le_refl _, by omega, fun ad h => by have := hge ad h; simp at this; omega⟩
  obtain ⟨S, hS⟩ : ∃ S, S = w1.heap.size := ⟨_, rfl⟩
  rw [← hS] at inv ⊢
  clear hS hbw hlt hr hs hr2 hge hb2 hb1 w1 hz2 hown hc2
  obtain ⟨N, hN⟩ : ∃ N, N = (Sen.pad l).length := ⟨_, rfl⟩
  obtain ⟨m, hm⟩ : ∃ m, m = N / 64 := ⟨_, rfl⟩
  have hNm : 64 * m = N := by rw [hm, hN]; exact Sen.pad_blocks l
  have hNs : N ≤ 2097152 := by have := Sen.pad_le l; have := HLl.out; omega
  rw [← hN]
  have HN := Lib.hid hN; have HM := Lib.hid hm; have HNM := Lib.hid hNm
  clear hN hm hNm
  go_wp2
  go_loopw [5] (fun vi wr => ∃ k : Nat, k ≤ m ∧ vi = .int .i64 (64 * k : Nat) ∧ RInv w wr S w.heap.size A2 (Sen.pad l) (Sen.blocks k Sen.H0 (Sen.pad l))) (fun vi _ => N - (intOf vi).toNat)
  case atStart => exact ⟨0, by omega, rfl, inv⟩
  case round =>
    clear inv
    obtain ⟨k, hk, rfl, inv⟩ := hrel
    by_cases hlt : k < m
    · have hmm := HNM.out
      have t0 : decide (64 * (k : Int) < (N : Int)) = true := by simp; omega
      have t1 : 64 * (k : Int) < (N : Int) := by omega
      clear hmm
      go_wp2_with (with_reducible refine wpList_store_any rfl 93 _ _ rfl _ (bvs z64) rfl rfl 93 _ (blk_new _ rfl) 64 (by kernel_rfl) HZL.out (by rw [List.size_toArray]; exact HZL.out) (bvs_one _) ?_ rfl)
      rw [setRow_alloc]
      obtain ⟨X, hX⟩ : ∃ X, X = wr.alloc (.cells (bvs z64).toArray 93) := ⟨_, rfl⟩
      have hD : X.heap[wr.heap.size]? = some (.cells (bvs (bcells (Sen.pad l) (64 * k) 0)).toArray 93 (0, 0)) := by rw [hX, show bcells (Sen.pad l) (64 * k) 0 = z64 by rw [HZ.out]; simp [bcells]]; exact blk_new _ rfl
      have invX := inv.below (w2 := X) (by rw [hX]; exact below_alloc (Below.refl _ _) _)
      have hBX : Below wr.heap.size wr X := by rw [hX]; exact below_alloc (Below.refl _ _) _
      rw [← hX]
      have hSlt := (Array.getElem?_eq_some_iff.1 inv.hS).1
      have hAlt : ∀ ad, A2 = some ad → ad.block ≠ wr.heap.size := fun ad h => by
        obtain ⟨b, off, e, hlt2, _⟩ := inv.hP.addr (by rw [← HN.out]; omega)
        rw [e] at h; injection h with h; rw [← h]; show b ≠ _; omega
      have HX := Lib.hid hD; have HBX := Lib.hid hBX; have HALT := Lib.hid hAlt; have INV := Lib.hid inv
      clear hX hD hBX hAlt inv
      have hset := fun cs i v => row_set HX.out cs i v
      have hcell := fun cs j => row_cell HX.out cs j
      have hfro := fun cs j => row_frozen HX.out cs j
      go_loopw [7] (fun vi wx => ∃ j : Nat, j ≤ 64 ∧ vi = .int .i64 j ∧ wx = X.setRow wr.heap.size (bvs (bcells (Sen.pad l) (64 * k) j)).toArray) (fun i _ => 64 - (intOf i).toNat)
      case atStart => exact ⟨0, by omega, rfl, (row_same HX.out).symm⟩
      case round =>
        obtain ⟨j, hj, rfl, rfl⟩ := hrel
        have hNm := HNM.out
        by_cases hj64 : j < 64
        · have d64 : decide ((j : Int) < 64) = true := by simp; omega
          have j64 : (j : Int) < 64 := by omega
          have hi : 64 * (k : Int) + (j : Int) < (N : Int) := by omega
          obtain ⟨b, off, rfl, hblt, hcl⟩ := invX.hP.addr (by rw [← HN.out]; omega)
          obtain ⟨y, hy, ey⟩ : ∃ y : Nat, y < 256 ∧ y = ((Sen.pad l).getD (64 * k + j) 0).toNat := ⟨_, UInt8.toNat_lt _, rfl⟩
          have hc : (X.setRow wr.heap.size (bvs (bcells (Sen.pad l) (64 * k) j)).toArray).cell? ⟨b, off + (64 * k + j), none⟩ = some (.int .u8 (y : Int)) := (cell_other _ _ _ _ (show b ≠ _ from HALT.out _ rfl)).trans (by rw [hcl _ (by rw [← HN.out]; omega), ey])
          have hn : (64 * (k : Int) + (j : Int)).toNat = 64 * k + j := by omega
          have hp : 0 ≤ 64 * (k : Int) + (j : Int) := by omega
          obtain ⟨y0, e0⟩ := bvs_some (bcells (Sen.pad l) (64 * k) j) j (by rw [bcells_length _ _ _ (by rw [← HN.out]; omega) hj]; exact hj64)
          have SET := Lib.hid (show (bvs (bcells (Sen.pad l) (64 * k) j)).set j (.int .u8 (y : Int)) = bvs (bcells (Sen.pad l) (64 * k) (j + 1)) by
            rw [bvs_set _ _ ((Sen.pad l).getD (64 * k + j) 0) _ (by rw [ey]), bcells_set _ _ _ (by rw [← HN.out]; omega) hj64])
          clear ey hcl hNm
          go_wp2
          exact ⟨⟨j + 1, by omega, by go_num, congrArg (fun c => X.setRow wr.heap.size (List.toArray c)) SET.out⟩, by simp [intOf]; omega⟩
        · obtain rfl : j = 64 := by omega
          rw [show ((64 : Nat) : Int) = 64 from rfl]
          have e64 : bcells (Sen.pad l) (64 * k) 64 = ((Sen.pad l).drop (64 * k)).take 64 := by simp [bcells]
          rw [e64]
          have h1 := setRow_heap X wr.heap.size _ (bvs (((Sen.pad l).drop (64 * k)).take 64)).toArray _ _ HX.out
          have inv2 := INV.out.below (below_setRow HBX.out (Nat.le_refl _) (bvs (((Sen.pad l).drop (64 * k)).take 64)).toArray)
          obtain ⟨bl, hbl⟩ : ∃ bl, bl = ((Sen.pad l).drop (64 * k)).take 64 := ⟨_, rfl⟩
          obtain ⟨st, hst⟩ : ∃ st, st = Sen.blocks k Sen.H0 (Sen.pad l) := ⟨_, rfl⟩
          obtain ⟨Y, hY⟩ : ∃ Y, Y = X.setRow wr.heap.size (bvs (((Sen.pad l).drop (64 * k)).take 64)).toArray := ⟨_, rfl⟩
          have hbl64 : bl.length = 64 := by rw [hbl]; simp [← HN.out]; omega
          have hst8 : st.length = 8 := by rw [hst]; exact Sen.blocks_length _ _ _ (by decide)
          have hstl : ∀ x ∈ st, x < 4294967296 := by rw [hst]; exact Sen.blocks_lt _ _ _ Sen.H0_lt
          have hnext : Sen.blocks (k + 1) Sen.H0 (Sen.pad l) = Sen.block st bl := by rw [Sen.blocks_snoc, hst, hbl]
          rw [← hst, ← hY] at inv2
          rw [← hY, ← hbl] at h1
          rw [← hY]
          have hst8' : (wvs st).length = 8 := by rw [wvs_length]; exact hst8
          have hbl64' : (bvs bl).length = 64 := by rw [bvs_length]; exact hbl64
          have H1 := Lib.hid h1; have INV2 := Lib.hid inv2; have HBL := Lib.hid hbl64; have HST := Lib.hid hst8; have HSTL := Lib.hid hstl; have HNX := Lib.hid hnext; have HST' := Lib.hid hst8'; have HBL' := Lib.hid hbl64'
          clear h1 inv2 hbl64 hst8 hstl hnext hst8' hbl64' hY hbl hst hset hcell hfro hNm e64 invX
          go_wp2_with (first | (with_reducible refine wpList_load_any rfl 94 _ rfl S (wvs st) rfl 94 (0, 0) INV2.out.hS 8 87 Tryd.underlying94 (by kernel_rfl) HST'.out ?_) | (with_reducible refine wpList_load_any rfl 93 _ rfl wr.heap.size (bvs bl) rfl 93 (0, 0) H1.out 64 5 Tryd.underlying93 (by kernel_rfl) HBL'.out ?_) | (go_at_call 54; refine (ref_block_c st HST.out HSTL.out bl HBL.out _).mono ?_; rintro e w3 ⟨rfl, hb3⟩; have INV3 := Lib.hid (INV2.out.below hb3)) | (with_reducible refine wpList_store_any rfl 94 _ _ rfl _ (wvs (Sen.block st bl)) rfl rfl 94 _ INV3.out.hS 8 (by kernel_rfl) (by rw [wvs_length]; exact Sen.block_length _ _ HST.out) (by simpa using HST'.out) (wvs_one _) ?_ rfl))
          exact ⟨⟨k + 1, by omega, by go_num, by rw [HNX.out]; exact INV3.out.store _⟩, by simp [intOf]; omega⟩
    · obtain rfl : k = m := by omega
      rw [show 64 * k = N from HNM.out]
      have hsb : Sen.sum l = Sen.sumOf (Sen.blocks k Sen.H0 (Sen.pad l)) := by unfold Sen.sum; rw [← HN.out, ← HM.out]
      obtain ⟨st, hst⟩ : ∃ st, st = Sen.blocks k Sen.H0 (Sen.pad l) := ⟨_, rfl⟩
      have hl8 : st.length = 8 := by rw [hst]; exact Sen.blocks_length _ _ _ (by decide)
      have hlt8 : ∀ x ∈ st, x < 4294967296 := by rw [hst]; exact Sen.blocks_lt _ _ _ Sen.H0_lt
      rw [← hst] at inv hsb
      have HSB := Lib.hid hsb; have HL8 := Lib.hid hl8; have HLT8 := Lib.hid hlt8
      have hzl : (bvs zeros32).length = 32 := by decide
      have HZL32 := Lib.hid hzl
      have t0 : decide ((N : Int) < (N : Int)) = false := by simp
      clear hst hsb hl8 hlt8 hzl hlt
      go_wp2_with (with_reducible refine wpList_store_any rfl 75 _ _ rfl _ (bvs zeros32) rfl rfl 75 _ (blk_new _ rfl) 32 (by kernel_rfl) HZL32.out (by rw [List.size_toArray]; exact HZL32.out) (bvs_one _) ?_ rfl)
      rw [setRow_alloc]
      obtain ⟨X, hX⟩ : ∃ X, X = wr.alloc (.cells (bvs zeros32).toArray 75) := ⟨_, rfl⟩
      have hD : X.heap[wr.heap.size]? = some (.cells (bvs (Sen.dcells st 0)).toArray 75 (0, 0)) := by rw [hX, show Sen.dcells st 0 = zeros32 from rfl]; exact blk_new _ rfl
      have invX := inv.below (w2 := X) (by rw [hX]; exact below_alloc (Below.refl _ _) _)
      have hBX : Below wr.heap.size wr X := by rw [hX]; exact below_alloc (Below.refl _ _) _
      have hSlt := (Array.getElem?_eq_some_iff.1 inv.hS).1
      rw [← hX]
      have HX := Lib.hid hD; have HBX := Lib.hid hBX; have INV := Lib.hid inv; have INVX := Lib.hid invX
      clear hX hD hBX inv invX hk t0
      have hset := fun cs i v => row_set HX.out cs i v
      have hcell := fun cs j => row_cell HX.out cs j
      have hfro := fun cs j => row_frozen HX.out cs j
      go_loopw [9] (fun vi wx => ∃ i : Nat, i ≤ 8 ∧ vi = .int .i64 i ∧ wx = X.setRow wr.heap.size (bvs (Sen.dcells st i)).toArray) (fun i _ => 8 - (intOf i).toNat)
      case atStart => exact ⟨0, by omega, rfl, (row_same HX.out).symm⟩
      case round =>
        obtain ⟨i, hi, rfl, rfl⟩ := hrel
        by_cases hi8 : i < 8
        · have d8 : decide ((i : Int) < 8) = true := by simp; omega
          have i8 : (i : Int) < 8 := by omega
          obtain ⟨x, hx, ex, cx⟩ := getD_atw st i (by rw [HL8.out]; exact hi8) HLT8.out
          have hc : (X.setRow wr.heap.size (bvs (Sen.dcells st i)).toArray).cell? ⟨S, i, none⟩ = some (.int .u32 (x : Int)) := (cell_other _ _ _ _ (show S ≠ _ by omega)).trans ((cell_of_row X S i _ _ _ INVX.out.hS).trans (by simpa using cx))
          have EX := Lib.hid ex
          clear ex cx
          go_wp2
          go_loopw [10, 11] (fun vx vk wx => ∃ j y : Nat, ∃ p : Int, j ≤ 4 ∧ p + j = 3 ∧ Hid (y = x / 256 ^ j) ∧ y < 4294967296 ∧ vk = .int .i64 p ∧ vx = .int .u32 y ∧ wx = X.setRow wr.heap.size (bvs (ecells st i j)).toArray) (fun _ k _ => (intOf k + 1).toNat)
          case atStart => exact ⟨0, x, 3, by omega, by omega, Lib.hid (by simp), hx, rfl, rfl, by rw [ecells_zero _ _ hi8]⟩
          case round =>
            obtain ⟨j, y, p, hj, hp, hy, hyb, rfl, rfl, rfl⟩ := hrel
            by_cases hj4 : j < 4
            · obtain ⟨q, hq⟩ : ∃ q : Nat, p = q := ⟨3 - j, by omega⟩
              subst hq
              have t0 : decide ((q : Int) ≥ 0) = true := by simp
              have hln := ecells_length st HL8.out i j hi8
              obtain ⟨z, ez⟩ := bvs_some (ecells st i j) (4 * i + q) (by omega)
              have hq8 : 4 * (i : Int) + (q : Int) < 32 := by omega
              have hq0 : 0 ≤ 4 * (i : Int) + (q : Int) := by omega
              have hqn : (4 * (i : Int) + (q : Int)).toNat = 4 * i + q := by omega
              have SET := Lib.hid (show (bvs (ecells st i j)).set (4 * i + q) (.int .u8 ((y : Int) % 256)) = bvs (ecells st i (j + 1)) by
                rw [bvs_set _ _ (UInt8.ofNat y) _ (by rw [UInt8.toNat_ofNat']; omega), hy.out, EX.out, show q = 3 - j by omega, ecells_set _ HL8.out _ _ hi8 hj4])
              clear hln
              go_wp2
              exact ⟨⟨j + 1, y / 256, (q : Int) - 1, by omega, by omega, Lib.hid (by rw [hy.out, Nat.div_div_eq_div_mul, Nat.pow_succ]), by omega, rfl, congrArg (Value.int .u32) (by omega), congrArg (fun c => X.setRow wr.heap.size (List.toArray c)) SET.out⟩, by simp [intOf]⟩
            · obtain rfl : j = 4 := by omega
              obtain rfl : p = -1 := by omega
              rw [ecells_all _ HL8.out _ hi8]
              go_wp2
              exact ⟨⟨i + 1, by omega, by go_num, rfl⟩, by simp [intOf]; omega⟩
        · obtain rfl : i = 8 := by omega
          rw [show ((8 : Nat) : Int) = 8 from rfl]
          have hfin : Sen.dcells st 8 = Sen.sum l := by rw [HSB.out, Sen.dcells_all st HL8.out]
          rw [hfin]
          clear hfin hset hcell hfro
          have inv2 := INV.out.below (below_setRow HBX.out (Nat.le_refl _) (bvs (Sen.sum l)).toArray)
          have h1 := setRow_heap X wr.heap.size _ (bvs (Sen.sum l)).toArray _ _ HX.out
          have hsl : (bvs (Sen.sum l)).length = 32 := by rw [bvs_length, Sen.sum_length]
          have H1 := Lib.hid h1; have H2 := Lib.hid inv2; have HSL := Lib.hid hsl
          clear h1 inv2 hsl
          go_wp2_with (first | (with_reducible refine wpList_load_any rfl 75 _ rfl wr.heap.size (bvs (Sen.sum l)) rfl 75 (0, 0) H1.out 32 5 Tryd.underlying75 (by kernel_rfl) HSL.out ?_) | (with_reducible refine wpList_store_any rfl 75 _ _ rfl w.heap.size (bvs (Sen.sum l)) rfl rfl 75 _ H2.out.hR 32 (by kernel_rfl) HSL.out (by kernel_rfl) (bvs_one _) ?_ rfl))
          refine bodyPost_ret (v := .agg (bvs (Sen.sum l)).toArray) ?_ rfl ?_
          · exact results_array rfl _ _ w.heap.size _ _ (0, 0) 32 5 rfl (setRow_heap _ _ _ _ _ _ H2.out.hR) Tryd.underlying75 (by kernel_rfl) HSL.out
          · exact ⟨rfl, below_setRow H2.out.hB (Nat.le_refl _) _⟩
end Go.Proofs.YteplaginenhfkaaDoor
