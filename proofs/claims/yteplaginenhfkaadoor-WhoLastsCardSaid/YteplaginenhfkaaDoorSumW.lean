/-
  sha: the walk of Sum.
-/
import Derived.Test.YteplaginenhfkaaDoorSum
import Derived.Test.YteplaginenhfkaaDoorPure2
set_option linter.unusedVariables false
set_option linter.unusedSimpArgs false
namespace Go.Proofs.YteplaginenhfkaaDoor
open Go.RowKit

def zeros32 : List UInt8 := List.replicate 32 0
theorem zero24 (w : World) : (zeroValue 75).run Tryd.prog w = .ok (.agg (bvs zeros32).toArray) w := by kernel_rfl
theorem zero32' (w : World) : (zeroValue 94).run Tryd.prog w = .ok (.agg (wvs (List.replicate 8 0)).toArray) w := by kernel_rfl

/-- What holds of Sum's blocks: the state, the bytes, the result. -/
structure SumInv (w wr : World) (S g R : Nat) (P : List UInt8) (st : List Nat) : Prop where
  hS : wr.heap[S]? = some (.cells (wvs st).toArray 94 (0, 0))
  hg : wr.heap[g]? = some (.cells (bvs P).toArray 5 (0, 0))
  hR : wr.heap[R]? = some (.cells (bvs zeros32).toArray 75 (0, 0))
  hB : Below w.heap.size w wr
  lS : w.heap.size ≤ S
  lR : w.heap.size ≤ R
  nSg : S ≠ g
  nSR : S ≠ R
  hT : Tab w
theorem SumInv.below {w wr w2 : World} {S g R : Nat} {P : List UInt8} {st : List Nat} (h : SumInv w wr S g R P st) (hb : Below wr.heap.size wr w2) : SumInv w w2 S g R P st :=
  ⟨blk_below h.hS hb (Array.getElem?_eq_some_iff.1 h.hS).1, blk_below h.hg hb (Array.getElem?_eq_some_iff.1 h.hg).1, blk_below h.hR hb (Array.getElem?_eq_some_iff.1 h.hR).1,
    h.hB.trans (hb.mono h.hB.size), h.lS, h.lR, h.nSg, h.nSR, h.hT⟩
theorem SumInv.store {w wr : World} {S g R : Nat} {P : List UInt8} {st : List Nat} (h : SumInv w wr S g R P st) (st' : List Nat) : SumInv w (wr.setRow S (wvs st').toArray) S g R P st' :=
  ⟨setRow_heap _ _ _ _ _ _ h.hS, (setRow_other _ _ _ _ (Ne.symm h.nSg)).trans h.hg, (setRow_other _ _ _ _ (Ne.symm h.nSR)).trans h.hR, below_setRow h.hB h.lS _, h.lS, h.lR, h.nSg, h.nSR, h.hT⟩
theorem SumInv.drewN {w wr : World} {S g R : Nat} {P : List UInt8} {st : List Nat} (h : SumInv w wr S g R P st) (n : Nat) : SumInv w (wr.drewN n) S g R P st :=
  ⟨h.hS, h.hg, h.hR, below_drewN h.hB n, h.lS, h.lR, h.nSg, h.nSR, h.hT⟩
theorem SumInv.tab {w wr : World} {S g R : Nat} {P : List UInt8} {st : List Nat} (h : SumInv w wr S g R P st) : Tab wr := h.hT.below h.hB
theorem run_load_blk (w : World) (ty : TypeId) (g : Nat) (vs : List Value) (t : TypeId) (fr : Nat × Nat) (hg : w.heap[g]? = some (.cells vs.toArray t fr)) (n e : Nat) (hu : Tryd.prog.underlying ty = some (.array n e)) (hi : (Tryd.prog.info? ty).map (·.size) = some n) (hl : vs.length = n) :
    (loadVar ty ⟨g, 0, none⟩).run Tryd.prog w = .ok (.agg vs.toArray) w :=
  run_load_array w ty e n _ vs hu hi hl (fun j v hj => by rw [add_plain, Nat.zero_add, cell_of_row w g j _ _ _ hg]; simpa using hj)
set_option maxRecDepth 100000 in
/-- Where the rest of the bytes begins. -/
theorem run_slice_from64 (g off L : Nat) (hL : 64 ≤ L) (W : World) : ∃ off', (64 < L → off' = off + 64) ∧ ∀ W, (Instr.slice 24 (.slice (some ⟨g, off, none⟩) L L) (some (.int .i64 64)) none none).run Tryd.prog W = .ok (.slice (some ⟨g, off', none⟩) (L - 64) (L - 64)) W := by
  refine ⟨if L = 64 then off else off + 64, fun h => if_neg (by omega), fun W => ?_⟩
  have h1 := run_bound .i64 64 L .sliceB hL W
  have hsz := run_size 5 1 rfl W
  unfold Instr.slice Instr.sliceBounds
  simp only [Sem.run_bind, run_underlying Tryd.underlying24 W, Result.andThen_ok, Sem.run_pure, Option.isSome_none, Bool.false_eq_true, if_false, show ((64 : Nat) : Int) = (64 : Int) from rfl] at h1 ⊢
  simp only [h1, hsz, Result.andThen_ok, Nat.mul_one, Option.map_some, add_plain]
  split <;> rfl
set_option maxRecDepth 100000 in
theorem run_slice_to64 (g off L c : Nat) (hL : 64 ≤ c) (W : World) : (Instr.slice 24 (.slice (some ⟨g, off, none⟩) L c) none (some (.int .i64 64)) none).run Tryd.prog W = .ok (.slice (some ⟨g, off, none⟩) 64 c) W := by
  have h1 := run_bound .i64 64 c .sliceAcap hL W
  have hsz := run_size 5 1 rfl W
  unfold Instr.slice Instr.sliceBounds
  simp only [Sem.run_bind, run_underlying Tryd.underlying24 W, Result.andThen_ok, Sem.run_pure, if_true, show ((64 : Nat) : Int) = (64 : Int) from rfl] at h1 ⊢
  simp only [h1, hsz, Result.andThen_ok, Nat.mul_one, Nat.sub_zero, Option.map_some, add_plain, Nat.add_zero, Nat.zero_mul]
  split <;> rfl

set_option maxRecDepth 100000 in
set_option maxHeartbeats 1000000 in
theorem sum_c (A : Option Addr) (c : Nat) (l : List UInt8) (w : World) (hl : l.length ≤ 1048576) (hR : RB w A l) (hT : Tab w) :
    Calls Tryd.prog 51 #[.slice A l.length c] w fun e w' => e = .returned (.agg (bvs (Sen.sum l)).toArray) ∧ Below w.heap.size w w' := by
  have hz := zero24
  have hz2 := zero32'
  have HR := Lib.hid hR
  have HT := Lib.hid hT
  have HLl := Lib.hid hl
  clear hR hT hl
  go_enter Tryd.func51, Tryd.ntmps51
  go_wp2_with (first | (go_at_call 55; refine (first_c _).mono ?_; rintro e w1 ⟨rfl, hb1⟩) | (with_reducible refine wpList_store_any rfl 94 _ _ rfl _ (wvs Sen.H0) rfl rfl 94 _ (blk_new _ rfl) 8 (by kernel_rfl) (by decide) (by kernel_rfl) (wvs_one _) ?_ rfl))
  rw [setRow_alloc]
  have hbw : Below w.heap.size w (w1.alloc (.cells (wvs Sen.H0).toArray 94)) := below_alloc ((below_alloc (Below.refl _ _) _).trans (hb1.mono (by simp))) _
  have hlt : w.heap.size < w1.heap.size := by have := hb1.size; simp at this; omega
  have hr : (w1.alloc (.cells (wvs Sen.H0).toArray 94)).heap[w.heap.size]? = some (.cells (bvs zeros32).toArray 75 (0, 0)) := blk_old _ (blk_below (blk_new _ rfl) hb1 (by simp))
  have hs : (w1.alloc (.cells (wvs Sen.H0).toArray 94)).heap[w1.heap.size]? = some (.cells (wvs Sen.H0).toArray 94 (0, 0)) := blk_new _ rfl
  refine (pad_c A c l _ HLl.out (HR.out.below hbw)).mono ?_
  rintro e w2 ⟨v, rfl, g, rfl, hg2, hge, hb2⟩
  have inv : SumInv w w2 w1.heap.size g w.heap.size (Sen.pad l) Sen.H0 :=
    ⟨blk_below hs hb2 (by simp), hg2, blk_below hr hb2 (by simp; omega), hbw.trans (hb2.mono (by simp; omega)), by omega, Nat.le_refl _, by simp at hge; omega, by omega, HT.out⟩
  obtain ⟨S, hS⟩ : ∃ S, S = w1.heap.size := ⟨_, rfl⟩
  rw [← hS] at inv ⊢
  clear hS hbw hlt hr hs hg2 hge hb2 hb1 w1 HT hz2
  obtain ⟨N, hN⟩ : ∃ N, N = (Sen.pad l).length := ⟨_, rfl⟩
  obtain ⟨m, hm⟩ : ∃ m, m = N / 64 := ⟨_, rfl⟩
  have hNm : 64 * m = N := by rw [hm, hN]; exact Sen.pad_blocks l
  have hNs : N ≤ 2097152 := by have := Sen.pad_le l; have := HLl.out; omega
  rw [← hN]
  have HN := Lib.hid hN; have HM := Lib.hid hm
  clear hN hm
  go_wp2
  go_loopw [4] (fun va wr => ∃ k off L : Nat, k ≤ m ∧ L + 64 * k = N ∧ va = .slice (some ⟨g, off, none⟩) L L ∧ (k < m → off = 64 * k) ∧ SumInv w wr S g w.heap.size (Sen.pad l) (Sen.blocks k Sen.H0 (Sen.pad l))) (fun va _ => match va with | .slice _ L _ => L | _ => 0)
  case atStart => exact ⟨0, 0, N, by omega, by omega, rfl, fun _ => rfl, inv⟩
  case round =>
    obtain ⟨k, off, L, hk, hL, rfl, hoff, inv⟩ := hrel
    by_cases hlt : k < m
    · have hL64 : 64 ≤ L := by omega
      obtain rfl := hoff hlt
      have t0 : decide ((0 : Int) < L) = true := by simp; omega
      have t1 : (0 : Int) < L := by omega
      obtain ⟨off', ho', hfrom⟩ := run_slice_from64 g (64 * k) L hL64 wr
      have hto := fun W => run_slice_to64 g (64 * k) L L hL64 W
      have hap : ∀ W, (Instr.arrayAt 93 (.slice (some ⟨g, 64 * k, none⟩) 64 L)).run Tryd.prog W = .ok (.pointer (some ⟨g, 64 * k, none⟩)) W := fun W => run_arrayAt W _ _ 64 _ _ _ Tryd.underlying93 (Nat.le_refl _)
      go_wp2
      have hst : (wvs (Sen.blocks k Sen.H0 (Sen.pad l))).length = 8 := by rw [wvs_length]; exact Sen.blocks_length _ _ _ (by decide)
      have hbk : ((bvs (Sen.pad l)).drop (64 * k)).take 64 = bvs (((Sen.pad l).drop (64 * k)).take 64) := by simp [bvs, List.map_drop, List.map_take]
      have hbl : (((Sen.pad l).drop (64 * k)).take 64).length = 64 := by simp [← HN.out]; omega
      have ld1 := run_load_blk (wr.drewN 1) 94 S _ _ _ inv.hS 8 87 Tryd.underlying94 (by kernel_rfl) hst
      have ld2 := run_load_part (wr.drewN 1) 93 5 64 g (64 * k) _ _ _ inv.hg Tryd.underlying93 (by kernel_rfl) (by rw [bvs_length, ← HN.out]; omega)
      rw [hbk] at ld2
      have LD1 := Lib.hid ld1; have LD2 := Lib.hid ld2; have HST := Lib.hid hst; have HBL := Lib.hid hbl
      clear ld1 ld2 hst hbk hbl
      refine region_tail 5 (by kernel_rfl) rfl ?_
      simp only [List.take_succ_cons, List.take_zero, List.drop_succ_cons, List.drop_zero]
      refine wpStill_load_run rfl _ _ rfl _ rfl _ LD1.out ?_
      iterate 3 (refine wpStill_step (fun K hK => ?_); go_simp; (try go_bits); refine hK _ ?_; clear hK K)
      refine wpStill_load_run rfl _ _ rfl _ rfl _ LD2.out ?_
      refine wpStill_nil ?_
      go_wp2_with (first | (go_at_call 57; refine (block_c _ (Sen.blocks_length _ _ _ (by decide)) (Sen.blocks_lt _ _ _ Sen.H0_lt) _ HBL.out _ (inv.tab.drewN 1)).mono ?_; rintro e w3 ⟨rfl, hb3⟩; have inv3 := (inv.drewN 1).below hb3) | (with_reducible refine wpList_store_any rfl 94 _ _ rfl _ (wvs (Sen.block (Sen.blocks k Sen.H0 (Sen.pad l)) (((Sen.pad l).drop (64 * k)).take 64))) rfl rfl 94 _ inv3.hS 8 (by kernel_rfl) (by rw [wvs_length]; exact Sen.block_length _ _ (Sen.blocks_length _ _ _ (by decide))) (by simpa using HST.out) (wvs_one _) ?_ rfl))
      exact ⟨⟨k + 1, off', L - 64, by omega, by omega, rfl, fun h => by have := ho' (by omega); omega, by rw [Sen.blocks_snoc]; exact inv3.store _⟩, by show L - 64 < L; omega⟩
    · obtain rfl : k = m := by omega
      obtain rfl : L = 0 := by omega
      have t0 : decide ((0 : Int) < ((0 : Nat) : Int)) = false := by decide
      have hsb : Sen.sum l = Sen.sumOf (Sen.blocks k Sen.H0 (Sen.pad l)) := by unfold Sen.sum; rw [← HN.out, ← HM.out]
      obtain ⟨st, hst⟩ : ∃ st, st = Sen.blocks k Sen.H0 (Sen.pad l) := ⟨_, rfl⟩
      have hl8 : st.length = 8 := by rw [hst]; exact Sen.blocks_length _ _ _ (by decide)
      have hlt8 : ∀ x ∈ st, x < 4294967296 := by rw [hst]; exact Sen.blocks_lt _ _ _ Sen.H0_lt
      rw [← hst] at inv hsb
      have HSB := Lib.hid hsb; have HL8 := Lib.hid hl8
      clear hst hsb hl8
      go_wp2_with (with_reducible refine wpList_load_any rfl 94 _ rfl S (wvs st) rfl 94 (0, 0) (blk_old _ inv.hS) 8 87 Tryd.underlying94 (by kernel_rfl) (by rw [wvs_length]; exact HL8.out) ?_)
      obtain ⟨X, hX⟩ : ∃ X, X = wr.alloc (.cells (bvs zeros32).toArray 75) := ⟨_, rfl⟩
      have hD : X.heap[wr.heap.size]? = some (.cells (bvs zeros32).toArray 75 (0, 0)) := by rw [hX]; exact blk_new _ rfl
      have hRX : X.heap[w.heap.size]? = some (.cells (bvs zeros32).toArray 75 (0, 0)) := by rw [hX]; exact blk_old _ inv.hR
      have hBX : Below w.heap.size w X := by rw [hX]; exact below_alloc inv.hB _
      have hlD : w.heap.size < wr.heap.size := (Array.getElem?_eq_some_iff.1 inv.hR).1
      rw [← hX]
      obtain ⟨D, hDD⟩ : ∃ D, D = wr.heap.size := ⟨_, rfl⟩
      rw [← hDD] at hD hlD ⊢
      have HD := Lib.hid hD; have HRX := Lib.hid hRX; have HBX := Lib.hid hBX
      clear hX hDD inv hD hRX hBX hoff hL hlt t0 hz
      have hset := fun cs i v => row_set HD.out cs i v
      have hcell := fun cs j => row_cell HD.out cs j
      have hfro := fun cs j => row_frozen HD.out cs j
      go_loopw [23] (fun vi wx => ∃ j : Nat, j ≤ 8 ∧ vi = .int .i64 j ∧ wx = X.setRow D (bvs (Sen.dcells st j)).toArray) (fun i _ => 8 - (intOf i).toNat)
      case atStart => exact ⟨0, by omega, rfl, (row_same HD.out).symm⟩
      case round =>
        obtain ⟨j, hj, rfl, rfl⟩ := hrel
        by_cases hj8 : j < 8
        · have d8 : decide ((j : Int) < 8) = true := by simp; omega
          obtain ⟨x, hx, ex, cx⟩ := getD_atw st j (by rw [HL8.out]; exact hj8) hlt8
          have hix := fun w => run_index_num 94 87 8 .u32 (wvs st).toArray j (.int .u32 (x : Int)) Tryd.underlying94 rfl Tryd.underlying87 hj8 (by simpa using cx) w
          have hln := Sen.dcells_length st HL8.out j hj
          obtain ⟨y0, e0⟩ := bvs_some (Sen.dcells st j) (4 * j) (by omega)
          obtain ⟨y1, e1⟩ := bvs_some (Sen.dcells st j) (4 * j + 1) (by omega)
          obtain ⟨y2, e2⟩ := bvs_some (Sen.dcells st j) (4 * j + 2) (by omega)
          obtain ⟨y3, e3⟩ := bvs_some (Sen.dcells st j) (4 * j + 3) (by omega)
          have b0 : 4 * (j : Int) < 32 := by omega
          have b1 : 4 * (j : Int) + 1 < 32 := by omega
          have b2 : 4 * (j : Int) + 2 < 32 := by omega
          have b3 : 4 * (j : Int) + 3 < 32 := by omega
          have EX := Lib.hid ex
          clear ex cx hln
          have SET := Lib.hid (show ((((bvs (Sen.dcells st j)).set (4 * j) (.int .u8 ((x : Int) / 16777216))).set (4 * j + 1) (.int .u8 ((x : Int) / 65536 % 256))).set (4 * j + 2) (.int .u8 ((x : Int) / 256 % 256))).set (4 * j + 3) (.int .u8 ((x : Int) % 256)) = bvs (Sen.dcells st (j + 1)) by
            rw [bvs_set _ _ (UInt8.ofNat (x / 16777216)) _ (by rw [UInt8.toNat_ofNat']; omega), bvs_set _ _ (UInt8.ofNat (x / 65536)) _ (by rw [UInt8.toNat_ofNat']; omega), bvs_set _ _ (UInt8.ofNat (x / 256)) _ (by rw [UInt8.toNat_ofNat']; omega),
              bvs_set _ _ (UInt8.ofNat x) _ (by rw [UInt8.toNat_ofNat']; omega), EX.out, Sen.dcells_next st HL8.out j hj8])
          go_wp2
          exact ⟨⟨j + 1, by omega, by go_num, congrArg (fun c => X.setRow D (List.toArray c)) SET.out⟩, by simp [intOf]; omega⟩
        · obtain rfl : j = 8 := by omega
          have d8 : decide (((8 : Nat) : Int) < 8) = false := by decide
          have hfin : Sen.dcells st 8 = Sen.sum l := by rw [HSB.out, Sen.dcells_all st HL8.out]
          rw [hfin]
          clear hfin hset hcell hfro
          have h1 := setRow_heap X D _ (bvs (Sen.sum l)).toArray _ _ HD.out
          have h2 := (setRow_other X D w.heap.size (bvs (Sen.sum l)).toArray (by omega)).trans HRX.out
          have h3 := below_setRow HBX.out (show w.heap.size ≤ D by omega) (bvs (Sen.sum l)).toArray
          have hsl : (bvs (Sen.sum l)).length = 32 := by rw [bvs_length, Sen.sum_length]
          have H1 := Lib.hid h1; have H2 := Lib.hid h2; have H3 := Lib.hid h3; have HSL := Lib.hid hsl
          clear h1 h2 h3 hsl
          go_wp2_with (first | (with_reducible refine wpList_load_any rfl 75 _ rfl D (bvs (Sen.sum l)) rfl 75 (0, 0) H1.out 32 5 Tryd.underlying75 (by kernel_rfl) HSL.out ?_) | (with_reducible refine wpList_store_any rfl 75 _ _ rfl w.heap.size (bvs (Sen.sum l)) rfl rfl 75 _ H2.out 32 (by kernel_rfl) HSL.out (by kernel_rfl) (bvs_one _) ?_ rfl))
          refine bodyPost_ret (v := .agg (bvs (Sen.sum l)).toArray) ?_ rfl ?_
          · exact results_array rfl _ _ w.heap.size _ _ (0, 0) 32 5 rfl (setRow_heap _ _ _ _ _ _ H2.out) Tryd.underlying75 (by kernel_rfl) HSL.out
          · exact ⟨rfl, below_setRow H3.out (Nat.le_refl _) _⟩
end Go.Proofs.YteplaginenhfkaaDoor
