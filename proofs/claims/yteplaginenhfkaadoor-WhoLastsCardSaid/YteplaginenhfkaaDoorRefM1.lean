/-
  The reference of layer 5: full.
-/
import Derived.Test.YteplaginenhfkaaDoorRefD
import Derived.Test.YteplaginenhfkaaDoorMac1
set_option linter.unusedVariables false
set_option linter.unusedSimpArgs false
namespace Go.Proofs.YteplaginenhfkaaDoor
open Go.RowKit

def fcells (key : List UInt8) (x : UInt8) (i : Nat) : List UInt8 := (Sen.full key x).take i ++ List.replicate (64 - i) 0
theorem fcells_length (key : List UInt8) (x : UInt8) (i : Nat) (hi : i ≤ 64) : (fcells key x i).length = 64 := by simp [fcells, Sen.full_length]; omega
theorem fcells_zero (key : List UInt8) (x : UInt8) : fcells key x 0 = List.replicate 64 0 := by simp [fcells]
theorem fcells_all (key : List UInt8) (x : UInt8) : fcells key x 64 = Sen.full key x := by
  unfold fcells
  rw [List.take_of_length_le (Nat.le_of_eq (Sen.full_length key x))]
  simp
theorem fcells_set (key : List UInt8) (x : UInt8) (i : Nat) (hi : i < 64) : (fcells key x i).set i ((Sen.full key x).getD i 0) = fcells key x (i + 1) := by
  have hl := Sen.full_length key x
  have e : ((Sen.full key x).take i).length = i := by simp [hl]; omega
  have e2 : (Sen.full key x).take (i + 1) = (Sen.full key x).take i ++ [(Sen.full key x).getD i 0] := by
    rw [List.take_succ_eq_append_getElem (by omega), List.getD_eq_getElem?_getD, List.getElem?_eq_getElem (by omega)]; rfl
  unfold fcells
  rw [List.set_append_right _ _ (by omega), e, Nat.sub_self, e2, show 64 - i = (64 - (i + 1)) + 1 by omega, List.replicate_succ, List.set_cons_zero, List.append_assoc]
  rfl
theorem full_at_in (key : List UInt8) (x : UInt8) (i : Nat) (hi : i < (Sen.keyOf key).length) : (Sen.full key x).getD i 0 = (Sen.keyOf key).getD i 0 ^^^ x := by
  unfold Sen.full
  rw [List.getD_eq_getElem?_getD, List.getElem?_map, List.getElem?_append_left hi, List.getD_eq_getElem?_getD, List.getElem?_eq_getElem hi]
  rfl
theorem full_at_out (key : List UInt8) (x : UInt8) (i : Nat) (h64 : i < 64) (hi : ¬ i < (Sen.keyOf key).length) : (Sen.full key x).getD i 0 = x := by
  unfold Sen.full
  rw [List.getD_eq_getElem?_getD, List.getElem?_map, List.getElem?_append_right (by omega), List.getElem?_replicate, if_pos (by omega)]
  simp
set_option maxRecDepth 100000 in
set_option maxHeartbeats 1000000 in
theorem full_c (A : Option Addr) (c : Nat) (key : List UInt8) (z : Int) (x : UInt8) (hz : z = ((x.toNat : Nat) : Int)) (w : World) (hl : key.length ≤ 1048576) (hR : RB w A key) :
    Calls Tryd.prog 50 #[.slice A key.length c, .int .u8 z] w (OwnPost w (Sen.full key x)) := by
  obtain ⟨n, hn⟩ : ∃ n, n = key.length := ⟨_, rfl⟩
  have hn1 : n ≤ 1048576 := by omega
  have hz3 := zero24
  have hmk := fun W => run_make_bytes 64 (by decide) 64 rfl W
  obtain ⟨z64, hz64⟩ : ∃ z64, z64 = List.replicate 64 (0 : UInt8) := ⟨_, rfl⟩
  rw [← hz64] at hmk
  have HZ := Lib.hid hz64; have HX := Lib.hid hz; have HN := Lib.hid hn; have HR := Lib.hid hR
  rw [← hn]
  clear hz64 hz hn hl hR
  have hsb := fun g W => run_sliceAt_all 75 5 32 Tryd.underlying75 rfl g 0 W
  by_cases h64 : 64 < n
  · have t0 : decide ((n : Int) > 64) = true := by simp; omega
    have hk := Lib.hid (show Sen.keyOf key = Sen.sum key by unfold Sen.keyOf; rw [if_pos (by rw [← HN.out]; exact h64)])
    have HSL := Lib.hid (show (bvs (Sen.sum key)).length = 32 by rw [bvs_length, Sen.sum_length])
    have HKN := Lib.hid (show 32 = (Sen.sum key).length from (Sen.sum_length key).symm)
    go_enter Tryd.func50, Tryd.ntmps50
    go_wp2_with fail
    have hsm := ref_sum_c A c key w (by rw [← HN.out]; exact hn1) HR.out
    rw [← HN.out] at hsm
    refine hsm.mono ?_
    clear hsm
    rintro e w1 ⟨rfl, hb1⟩
    obtain ⟨W, hW⟩ : ∃ W, W = w1.alloc (.cells (bvs (Sen.sum key)).toArray 75) := ⟨_, rfl⟩
    have hrk : RB W (some ⟨w1.heap.size, 0, none⟩) (Sen.sum key) := by rw [hW]; exact rb_of_row (blk_new _ rfl) (by rw [Sen.sum_length]; decide)
    have hbw : Below w.heap.size w W := by rw [hW]; exact below_alloc hb1 _
    have HRK := Lib.hid hrk; have HBW := Lib.hid hbw; have HW := Lib.hid hW
    clear hrk hbw hW hb1
    go_wp2_with (with_reducible refine wpList_store_any rfl 75 _ _ rfl _ (bvs (Sen.sum key)) rfl rfl 75 _ (blk_new _ rfl) 32 (by kernel_rfl) HSL.out (by kernel_rfl) (bvs_one _) ?_ rfl; rw [setRow_alloc, ← HW.out])
    obtain ⟨X, hX⟩ : ∃ X, X = W.alloc (.cells (bvs z64).toArray 5) := ⟨_, rfl⟩
    have hD : X.heap[W.heap.size]? = some (.cells (bvs (fcells key x 0)).toArray 5 (0, 0)) := by rw [hX, fcells_zero, ← HZ.out]; exact blk_new _ rfl
    have hBX : Below W.heap.size W X := by rw [hX]; exact below_alloc (Below.refl _ _) _
    rw [← hX]
    have G := Lib.hid hD; have HBX := Lib.hid hBX
    clear hX hD hBX
    have hset := fun cs i v => row_set G.out cs i v
    have hcell := fun cs j => row_cell G.out cs j
    have hfro := fun cs j => row_frozen G.out cs j
    go_loopw [7] (fun vi wx => ∃ i : Nat, i ≤ 64 ∧ vi = .int .i64 i ∧ wx = X.setRow W.heap.size (bvs (fcells key x i)).toArray) (fun i _ => 64 - (intOf i).toNat)
    case atStart => exact ⟨0, by omega, rfl, (row_same G.out).symm⟩
    case round =>
      obtain ⟨i, hi, rfl, rfl⟩ := hrel
      by_cases hlt : i < 64
      · have d64 : decide ((i : Int) < 64) = true := by simp; omega
        have i64 : (i : Int) < 64 := by omega
        obtain ⟨y0, e0⟩ := bvs_some (fcells key x i) i (by rw [fcells_length key x i hi]; exact hlt)
        have hlen : ((bvs (fcells key x i)).set i (.int .u8 z)).length = 64 := by rw [List.length_set, bvs_length, fcells_length key x i hi]
        have e1 : ((bvs (fcells key x i)).set i (.int .u8 z))[i]? = some (.int .u8 z) := by rw [List.getElem?_set_self (by rw [bvs_length, fcells_length key x i hi]; exact hlt)]
        by_cases hki : i < 32
        · have dk : decide ((i : Int) < 32) = true := by simp; omega
          have ik : (i : Int) < 32 := by omega
          obtain ⟨b, off, haddr, hblt, hcl⟩ := HRK.out.addr (by rw [← HKN.out]; omega)
          simp only [Option.some.injEq, Addr.mk.injEq, and_true] at haddr
          obtain ⟨rfl, rfl⟩ := haddr
          simp only [Nat.zero_add] at hcl
          have hb' : w1.heap.size ≠ W.heap.size := by omega
          have hkc := fun cs => (cell_other X W.heap.size cs ⟨w1.heap.size, i, none⟩ hb').trans ((HBX.out.cell (p := ⟨w1.heap.size, i, none⟩) hblt).trans (hcl i (by rw [← HKN.out]; exact hki)))
          obtain ⟨y, hy, ey⟩ : ∃ y : Nat, y < 256 ∧ y = ((Sen.sum key).getD i 0).toNat := ⟨_, UInt8.toNat_lt _, rfl⟩
          rw [← ey] at hkc
          have SET := Lib.hid (show (bvs (fcells key x i)).set i (.int .u8 (bits .xor .u8 (y : Int) z)) = bvs (fcells key x (i + 1)) by
            rw [bvs_set _ _ ((Sen.full key x).getD i 0) _ (by rw [HX.out, ey, xor_byte, full_at_in key x i (by rw [hk.out, ← HKN.out]; exact hki), hk.out]), fcells_set key x i hlt])
          clear ey hcl hlen
          go_wp2
          exact ⟨⟨i + 1, by omega, by go_num, congrArg (fun c => X.setRow W.heap.size (List.toArray c)) SET.out⟩, by simp [intOf]; omega⟩
        · have dk : decide ((i : Int) < 32) = false := by simp; omega
          have SET := Lib.hid (show (bvs (fcells key x i)).set i (.int .u8 z) = bvs (fcells key x (i + 1)) by
            rw [bvs_set _ _ ((Sen.full key x).getD i 0) _ (by rw [HX.out, full_at_out key x i hlt (by rw [hk.out, ← HKN.out]; exact hki)]), fcells_set key x i hlt])
          clear hlen
          go_wp2
          exact ⟨⟨i + 1, by omega, by go_num, congrArg (fun c => X.setRow W.heap.size (List.toArray c)) SET.out⟩, by simp [intOf]; omega⟩
      · obtain rfl : i = 64 := by omega
        rw [show ((64 : Nat) : Int) = 64 from rfl, fcells_all]
        clear hset hcell hfro
        go_wp2
        go_ret
        have h1 := setRow_heap X W.heap.size _ (bvs (Sen.full key x)).toArray _ _ G.out
        have h2 := Own.of_row (base := w.heap.size) h1 HBW.out.size (by rw [Sen.full_length]; decide)
        rw [Sen.full_length] at h2
        exact ⟨_, rfl, h2, HBW.out.trans ((below_setRow HBX.out (Nat.le_refl _) _).mono HBW.out.size)⟩
  · have t0 : decide ((n : Int) > 64) = false := by simp; omega
    have hk := Lib.hid (show Sen.keyOf key = key by unfold Sen.keyOf; rw [if_neg (by rw [← HN.out]; exact h64)])
    have HKN := HN
    obtain ⟨W, hW⟩ : ∃ W, W = w := ⟨_, rfl⟩
    have HRK := HR
    have HBW := Lib.hid (Below.refl w.heap.size w)
    subst hW
    go_enter Tryd.func50, Tryd.ntmps50
    go_wp2
    obtain ⟨X, hX⟩ : ∃ X, X = W.alloc (.cells (bvs z64).toArray 5) := ⟨_, rfl⟩
    have hD : X.heap[W.heap.size]? = some (.cells (bvs (fcells key x 0)).toArray 5 (0, 0)) := by rw [hX, fcells_zero, ← HZ.out]; exact blk_new _ rfl
    have hBX : Below W.heap.size W X := by rw [hX]; exact below_alloc (Below.refl _ _) _
    rw [← hX]
    have G := Lib.hid hD; have HBX := Lib.hid hBX
    clear hX hD hBX
    have hset := fun cs i v => row_set G.out cs i v
    have hcell := fun cs j => row_cell G.out cs j
    have hfro := fun cs j => row_frozen G.out cs j
    go_loopw [7] (fun vi wx => ∃ i : Nat, i ≤ 64 ∧ vi = .int .i64 i ∧ wx = X.setRow W.heap.size (bvs (fcells key x i)).toArray) (fun i _ => 64 - (intOf i).toNat)
    case atStart => exact ⟨0, by omega, rfl, (row_same G.out).symm⟩
    case round =>
      obtain ⟨i, hi, rfl, rfl⟩ := hrel
      by_cases hlt : i < 64
      · have d64 : decide ((i : Int) < 64) = true := by simp; omega
        have i64 : (i : Int) < 64 := by omega
        obtain ⟨y0, e0⟩ := bvs_some (fcells key x i) i (by rw [fcells_length key x i hi]; exact hlt)
        have hlen : ((bvs (fcells key x i)).set i (.int .u8 z)).length = 64 := by rw [List.length_set, bvs_length, fcells_length key x i hi]
        have e1 : ((bvs (fcells key x i)).set i (.int .u8 z))[i]? = some (.int .u8 z) := by rw [List.getElem?_set_self (by rw [bvs_length, fcells_length key x i hi]; exact hlt)]
        by_cases hki : i < n
        · have dk : decide ((i : Int) < (n : Int)) = true := by simp; omega
          have ik : (i : Int) < (n : Int) := by omega
          obtain ⟨b, off, rfl, hblt, hcl⟩ := HRK.out.addr (by rw [← HKN.out]; omega)
          have hb' : b ≠ W.heap.size := by omega
          have hkc := fun cs => (cell_other X W.heap.size cs ⟨b, off + i, none⟩ hb').trans ((HBX.out.cell (p := ⟨b, off + i, none⟩) hblt).trans (hcl i (by rw [← HKN.out]; exact hki)))
          obtain ⟨y, hy, ey⟩ : ∃ y : Nat, y < 256 ∧ y = ((key).getD i 0).toNat := ⟨_, UInt8.toNat_lt _, rfl⟩
          rw [← ey] at hkc
          have SET := Lib.hid (show (bvs (fcells key x i)).set i (.int .u8 (bits .xor .u8 (y : Int) z)) = bvs (fcells key x (i + 1)) by
            rw [bvs_set _ _ ((Sen.full key x).getD i 0) _ (by rw [HX.out, ey, xor_byte, full_at_in key x i (by rw [hk.out, ← HKN.out]; exact hki), hk.out]), fcells_set key x i hlt])
          clear ey hcl hlen
          go_wp2
          exact ⟨⟨i + 1, by omega, by go_num, congrArg (fun c => X.setRow W.heap.size (List.toArray c)) SET.out⟩, by simp [intOf]; omega⟩
        · have dk : decide ((i : Int) < (n : Int)) = false := by simp; omega
          have SET := Lib.hid (show (bvs (fcells key x i)).set i (.int .u8 z) = bvs (fcells key x (i + 1)) by
            rw [bvs_set _ _ ((Sen.full key x).getD i 0) _ (by rw [HX.out, full_at_out key x i hlt (by rw [hk.out, ← HKN.out]; exact hki)]), fcells_set key x i hlt])
          clear hlen
          go_wp2
          exact ⟨⟨i + 1, by omega, by go_num, congrArg (fun c => X.setRow W.heap.size (List.toArray c)) SET.out⟩, by simp [intOf]; omega⟩
      · obtain rfl : i = 64 := by omega
        rw [show ((64 : Nat) : Int) = 64 from rfl, fcells_all]
        clear hset hcell hfro
        go_wp2
        go_ret
        have h1 := setRow_heap X W.heap.size _ (bvs (Sen.full key x)).toArray _ _ G.out
        have h2 := Own.of_row (base := W.heap.size) h1 HBW.out.size (by rw [Sen.full_length]; decide)
        rw [Sen.full_length] at h2
        exact ⟨_, rfl, h2, HBW.out.trans ((below_setRow HBX.out (Nat.le_refl _) _).mono HBW.out.size)⟩
end Go.Proofs.YteplaginenhfkaaDoor
