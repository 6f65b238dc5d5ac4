/-
  The walk of the statement StoreBounds.
-/
import Derived.Test.YtinomleiihbfiaaDoorSto14
set_option linter.unusedVariables false
set_option linter.unusedSimpArgs false
namespace Go.Proofs.YtinomleiihbfiaaDoor
open Go.RowKit

theorem put_bad (s : Sen.Sto) (n : Int) (b : List UInt8) (h : n < 0 ∨ 1048576 < n) : putS s n b = (s, 2) := by
  unfold putS
  rw [if_pos h]
theorem put_long (s : Sen.Sto) (n : Nat) (hn : n ≤ 1048576) (b : List UInt8) (h : (s.size : Int) - 32 < (b.length : Int)) : putS s (n : Int) b = (s, 3) := by
  unfold putS
  rw [if_neg (by omega), if_pos h]
set_option maxRecDepth 100000 in
set_option maxHeartbeats 4000000 in
theorem law_store_bounds (x y : Int) (w : World) (hT : Tab w) :
    Calls Tryd.prog 6 #[.int .i64 x, .int .i64 y] w fun e w' => e = .returned (.bool true) ∧ Below w.heap.size w w' := by
  have HW := Lib.hid (works_c w hT)
  have HT := Lib.hid hT
  clear hT
  go_enter Tryd.func6, Tryd.ntmps6
  go_wp2_with fail
  refine HW.out.mono ?_
  rintro e w1 ⟨rfl, hb1⟩
  have HB1 := Lib.hid hb1
  clear hb1
  go_wp2_with fail
  refine (among_c x 4033 (by decide) (by decide) w1).mono ?_
  rintro e w1' ⟨r, hr, rfl, rfl⟩
  go_wp2_with fail
  refine (among_c y 1048577 (by decide) (by decide) w1).mono ?_
  rintro e w1' ⟨k, hk, rfl, rfl⟩
  have hz := fun W => make_c (64 + r) (by omega) (by omega) W
  rw [show ((64 + r : Nat) : Int) = 64 + (r : Int) by omega] at hz
  have HZ := Lib.hid hz
  obtain ⟨s, hs⟩ : ∃ s, s = newS (64 + r) := ⟨_, rfl⟩
  have hsz : s.size = r + 64 := by rw [hs]; show 64 + r = r + 64; omega
  have hon : On s := by rw [hs]; exact on_new (64 + r) (by omega) (by omega)
  have hwr : s.written = 0 := by rw [hs]; rfl
  have HS := Lib.hid hs; have HSZ := Lib.hid hsz; have HON := Lib.hid hon; have HWR := Lib.hid hwr
  clear hz hs hsz hon hwr
  go_wp2_with fail
  refine (HZ.out w1).mono ?_
  rintro e w3 ⟨p, g, rfl, hp, hg, hst, hb3⟩
  rw [← HS.out] at hst
  have hp' := Nat.le_trans HB1.out.size hp
  have hg' := Nat.le_trans HB1.out.size hg
  have HP := Lib.hid hp'; have HG := Lib.hid hg'; have ST3 := Lib.hid hst; have HB3 := Lib.hid (HB1.out.trans (hb3.mono HB1.out.size))
  clear hp hg hp' hg' hst hb3
  have hro := fun W (h : StA W p g s) => room_c p g s W h
  rw [show ((s.size : Nat) : Int) - 32 = (r : Int) + 32 by rw [HSZ.out]; omega] at hro
  have HRO := Lib.hid hro
  clear hro
  have e1 : 64 + (r : Int) - 32 = (r : Int) + 32 := by omega
  have hmk := fun W => run_make_bytes (r + 32) (by omega) ((r : Int) + 32) (by omega) W
  obtain ⟨Z, hZ⟩ : ∃ Z, Z = List.replicate (r + 32) (0 : UInt8) := ⟨_, rfl⟩
  rw [← hZ] at hmk
  have HZL := Lib.hid (show Z.length = r + 32 by rw [hZ, List.length_replicate])
  clear hZ
  have hlt := ST3.out.lt
  have hBX3 : Below w3.heap.size w3 ((w3.alloc (.cells (bvs Z).toArray 5)).alloc (.cells #[.int .u8 0] 5)) := below_alloc (below_alloc (Below.refl _ _) _) _
  have hRZ : RB ((w3.alloc (.cells (bvs Z).toArray 5)).alloc (.cells #[.int .u8 0] 5)) (some ⟨w3.heap.size, 0, none⟩) Z := rb_of_row (blk_old _ (blk_new _ rfl)) (by rw [HZL.out]; omega)
  have hR0 : RB ((w3.alloc (.cells (bvs Z).toArray 5)).alloc (.cells #[.int .u8 0] 5)) (some ⟨w3.heap.size + 1, 0, none⟩) [0] := rb_of_row (l := [0]) (blk_new _ (by simp)) (by decide)
  have HBX := Lib.hid (HB3.out.trans (hBX3.mono HB3.out.size)); have STX := Lib.hid (ST3.out.below hBX3); have RZ := Lib.hid hRZ; have RR0 := Lib.hid hR0
  have NZ := Lib.hid (show ∀ ad, some (⟨w3.heap.size, 0, none⟩ : Addr) = some ad → ad.block ≠ p ∧ ad.block ≠ g from fun ad had => by injection had with had; subst had; exact ⟨by show w3.heap.size ≠ p; omega, by show w3.heap.size ≠ g; omega⟩)
  clear hBX3 hRZ hR0 hlt
  go_wp2_with (first | (go_at_call 17; refine (HRO.out _ ST3.out).mono ?_; rintro e w' ⟨rfl, rfl⟩) | (at_builtin; refine app_full (.tmp 42) (.tmp 43) Z [0] rfl rfl _ _ (r + 32) 1 _ rfl rfl HZL.out.symm rfl (by decide) RZ.out RR0.out (by omega) ?_; intro v4 w4 ho4 hb4; have HO4 := Lib.hid ho4; have HBB4 := Lib.hid hb4; clear ho4 hb4))
  have ho4 := HO4.out
  have hb4 := HBB4.out
  clear hmk HO4 HBB4
  obtain ⟨A4, c4, rfl, hc4, hr4, _⟩ := ho4.reads2' (by rw [List.length_append, HZL.out]; simp; omega)
  have HB4 := Lib.hid (HBX.out.trans (hb4.mono HBX.out.size)); have ST4 := Lib.hid (STX.out.below hb4); have RZ4 := Lib.hid (RZ.out.below hb4); have R4 := Lib.hid hr4
  clear ho4 hb4 hc4 hr4
  obtain ⟨Y, hY⟩ : ∃ Y, Y = Z ++ [(0 : UInt8)] := ⟨_, rfl⟩
  have hYl : Y.length = r + 33 := by rw [hY, List.length_append, HZL.out]; rfl
  rw [← hY] at R4 ⊢
  have e4 := put_long s k (by omega) Y (by rw [HSZ.out, hYl]; omega)
  obtain ⟨s5, e5, o5, z5, wr5, h5, _⟩ := put_on s HON.out k (by omega) Z (by rw [HSZ.out, HZL.out]; omega)
  have q5 := get_holds s5 o5.gone k (by omega) Z h5
  have hw5 : ((s5.written : Nat) : Int) = 64 + (r : Int) := by rw [wr5, HWR.out, HZL.out]; omega
  have E4 := Lib.hid e4; have E5 := Lib.hid e5; have Q5 := Lib.hid q5; have HW5 := Lib.hid hw5; have HYL := Lib.hid hYl
  clear hY hYl e4 e5 o5 z5 wr5 h5 q5 hw5
  go_wp2_with fail
  have hpc := put_c p g s k A4 c4 Y w4 ST4.out (HT.out.below HB4.out) R4.out (by rw [HYL.out]; omega) (by rw [HWR.out]; decide)
  rw [E4.out] at hpc
  refine hpc.mono ?_
  clear hpc
  rintro e w5 ⟨rfl, hst, hon⟩
  have ST5 := Lib.hid (show StA w5 p g s from hst); have HB5 := Lib.hid (Only.below HB4.out hon HP.out HG.out HB4.out.size); have RZ5 := Lib.hid (RZ4.out.only hon NZ.out)
  clear hst hon
  go_wp2_with fail
  have hpc := put_c p g s k (some ⟨w3.heap.size, 0, none⟩) (r + 32) Z w5 ST5.out (HT.out.below HB5.out) RZ5.out (by rw [HZL.out]; omega) (by rw [HWR.out]; decide)
  rw [E5.out, HZL.out] at hpc
  refine hpc.mono ?_
  clear hpc
  rintro e w6 ⟨rfl, hst, hon⟩
  have ST6 := Lib.hid (show StA w6 p g s5 from hst); have HB6 := Lib.hid (Only.below HB5.out hon HP.out HG.out HB5.out.size)
  clear hst hon
  go_wp2_with fail
  have hgc := get_c p g s5 (k : Int) w6 ST6.out (HT.out.below HB6.out)
  rw [Q5.out] at hgc
  refine hgc.mono ?_
  clear hgc
  rintro e w7 ⟨hb, A7, c7, rfl, _, _⟩
  have ST7 := Lib.hid (ST6.out.below hb); have HB7 := Lib.hid (HB6.out.trans (hb.mono HB6.out.size))
  clear hb
  have hzl := HZL.out
  go_wp2_with fail
  have hwc := writes_c p g s5 w7 ST7.out
  rw [HW5.out] at hwc
  refine hwc.mono ?_
  clear hwc
  rintro e w7' ⟨rfl, rfl⟩
  go_wp2_with fail
  have hpc := put_c p g s5 1048577 none 0 [] w7 ST7.out (HT.out.below HB7.out) (RB.nil _ _) (by decide) (by have := HW5.out; omega)
  rw [put_bad s5 1048577 [] (Or.inr (by decide))] at hpc
  refine hpc.mono ?_
  clear hpc
  rintro e w8 ⟨rfl, hst, hon⟩
  have ST8 := Lib.hid (show StA w8 p g s5 from hst); have HB8 := Lib.hid (Only.below HB7.out hon HP.out HG.out HB7.out.size)
  clear hst hon
  go_wp2_with fail
  have hpc := put_c p g s5 (-1) none 0 [] w8 ST8.out (HT.out.below HB8.out) (RB.nil _ _) (by decide) (by have := HW5.out; omega)
  rw [put_bad s5 (-1) [] (Or.inl (by decide))] at hpc
  refine hpc.mono ?_
  clear hpc
  rintro e w9 ⟨rfl, hst, hon⟩
  have HB9 := Lib.hid (Only.below HB8.out hon HP.out HG.out HB8.out.size)
  clear hst hon
  go_wp2
  go_ret
  exact ⟨rfl, HB9.out⟩
end Go.Proofs.YtinomleiihbfiaaDoor
