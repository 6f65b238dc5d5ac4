/-
  The walk of the statement ShaParts.
-/
import Derived.Test.YtoophccelcbbfaaDoorCut
import Derived.Test.YtoophccelcbbfaaDoorEq
set_option linter.unusedVariables false
set_option linter.unusedSimpArgs false
namespace Go.Proofs.YtoophccelcbbfaaDoor
open Go.RowKit

/-- What holds at the head of the cuts' loop. -/
structure PInv (w wr : World) (B : Nat) (b : List UInt8) (v : Value) (k done : Nat) : Prop where
  ex : ∃ vs ls, OwnL wr B v vs ∧ Lies w vs ls ∧ ls.length = k ∧ ls.flatten = b.take done
  hB : Below w.heap.size w wr

set_option maxHeartbeats 2000000 in
theorem law_parts (A : Option Addr) (c : Nat) (l : List UInt8) (A' : Option Addr) (c' : Nat) (zs : List Int) (w : World) (hc : l.length ≤ c) (hR : RB w A l) (hI : RI w A' zs) (hzl : zs.length ≤ 140737488355328) (hT : Tab w) :
    Calls Tryd.prog 7 #[.slice A l.length c, .slice A' zs.length c'] w fun e w' => e = .returned (.bool true) ∧ Below w.heap.size w w' := by
  have HC := Lib.hid hc; have HR := Lib.hid hR; have HT := Lib.hid hT; have HI := Lib.hid hI
  clear hc hR hT hI
  obtain ⟨Z, hZ⟩ : ∃ Z, Z = zs.length := ⟨_, rfl⟩
  rw [← hZ] at hzl ⊢
  have HZ := Lib.hid hZ
  clear hZ
  go_enter Tryd.func7, Tryd.ntmps7
  go_wp2_with fail
  refine (works4_c _ HT.out).mono ?_
  rintro e w1 ⟨rfl, hb1⟩
  go_wp2_with fail
  refine (short4_c A c l _ HC.out HR.out.1).mono ?_
  rintro e w2 ⟨rfl, rfl⟩
  obtain ⟨s, hs⟩ : ∃ s, s = l.take 300 := ⟨_, rfl⟩
  have hr1 := (HR.out.below hb1).take 300
  rw [← hs] at hr1 ⊢
  have hsc : s.length ≤ c := by have := HC.out; rw [hs]; simp; omega
  have hsl : s.length ≤ 300 := by rw [hs]; simp; omega
  have HI1 := Lib.hid (HI.out.below hb1)
  obtain ⟨L, hL⟩ : ∃ L, L = s.length := ⟨_, rfl⟩
  rw [← hL] at hsl hsc ⊢
  have HR1 := Lib.hid hr1; have HT1 := Lib.hid (HT.out.below hb1); have HSL := Lib.hid hsl; have HB1 := Lib.hid hb1; have HL := Lib.hid hL; have HSC := Lib.hid hsc
  clear hr1 hsl hs HR HT HC HI hb1 hL hsc
  go_wp2
  go_loopw [5, 6, 7] (fun vl vd vi wr => ∃ k done : Nat, k ≤ 20 ∧ k ≤ Z ∧ done ≤ L ∧ vi = .int .i64 k ∧ vd = .int .i64 done ∧ PInv w1 wr w1.heap.size s vl k done) (fun _ _ i _ => 20 - (intOf i).toNat)
  case atStart => exact ⟨0, 0, by omega, by omega, by omega, rfl, rfl, ⟨[], [], OwnL.new _ _ (Nat.le_refl _), Lies.nil _, rfl, by simp⟩, below_alloc (Below.refl _ _) _⟩
  case round =>
    obtain ⟨k, done, hk, hkZ, hd, rfl, rfl, inv⟩ := hrel
    by_cases hlt : k < Z ∧ k < 20
    · obtain ⟨h1, h2⟩ := hlt
      have d1 : decide ((k : Int) < (Z : Int)) = true := by simp; omega
      have d2 : decide ((k : Int) < 20) = true := by simp; omega
      have d3 : (k : Int) < (Z : Int) := by omega
      obtain ⟨bb, off, rfl, hcell⟩ := (HI1.out.below inv.hB) k (by have := HZ.out; omega)
      have hsz := HSL.out
      go_wp2_with fail
      have hac := among_c (zs.getD k 0) (L - done + 1) (by omega) (by omega) wr
      rw [show ((L - done + 1 : Nat) : Int) = (L : Int) - done + 1 by omega] at hac
      refine hac.mono ?_
      clear hac
      rintro e w3 ⟨r, hr, rfl, rfl⟩
      have hsc := HSC.out
      have hsl := fun W => run_slice_lh A L c done (done + r) (by omega) (by omega) W
      rw [show done + r - done = r by omega, show ((done + r : Nat) : Int) = (done : Int) + (r : Int) by omega] at hsl
      obtain ⟨cc, hcc⟩ : ∃ cc, cc = c - done := ⟨_, rfl⟩
      obtain ⟨AA, hAA⟩ : ∃ AA, AA = cutA A c done := ⟨_, rfl⟩
      rw [← hcc, ← hAA] at hsl
      have hcut := HR1.out.cut c done r (by have := HL.out; omega) (by have := HL.out; omega)
      rw [← hAA] at hcut
      obtain ⟨⟨vs, ls, hown, hlies, hlen, hflat⟩, hB⟩ := inv
      have HCUT := Lib.hid hcut; have HOWN := Lib.hid hown; have HLIES := Lib.hid hlies; have HFLAT := Lib.hid hflat; have HLEN := Lib.hid hlen
      have hvl : vs.length ≤ 1048576 := by rw [hlies.1]; omega
      have HVL := Lib.hid hvl
      clear hcc hAA hcut hown hlies hflat hlen hvl
      go_wp2_with (at_builtin; refine wpList_append_row rfl _ _ rfl w1.heap.size _ vs (.slice AA r cc) rfl rfl rfl ?_ ?_ ?_ ?_; exact HOWN.out; exact hB.size; exact HVL.out; intro v1 w4 ho1 hg1)
      refine ⟨⟨k + 1, done + r, by omega, by omega, by omega, by go_num, by go_num, ⟨_, ls ++ [(s.drop done).take r], ho1, ?_, by simp [HLEN.out], ?_⟩, ?_⟩, by simp [intOf]; omega⟩
      · have e : ((s.drop done).take r).length = r := by simp; have := HL.out; omega
        have := HLIES.out.snoc AA cc _ HCUT.out
        rwa [e] at this
      · rw [List.flatten_append, HFLAT.out, List.take_add]; simp
      · exact ownL_below (below_alloc hB _) (HOWN.out.below (below_alloc (Below.refl _ _) _)) hg1 (Nat.le_refl _) (by have := hB.size; simp; omega)
    · have hsc := HSC.out
      have hsl := fun W => run_slice_l A L c done hd W
      obtain ⟨cc, hcc⟩ : ∃ cc, cc = c - done := ⟨_, rfl⟩
      obtain ⟨r, hrr⟩ : ∃ r, r = L - done := ⟨_, rfl⟩
      obtain ⟨AA, hAA⟩ : ∃ AA, AA = cutA A c done := ⟨_, rfl⟩
      rw [← hcc, ← hAA, ← hrr] at hsl
      have hcut := HR1.out.drop c done (by have := HL.out; omega) (by have := HL.out; omega)
      rw [← hAA] at hcut
      obtain ⟨⟨vs, ls, hown, hlies, hlen, hflat⟩, hB⟩ := inv
      have HCUT := Lib.hid hcut; have HOWN := Lib.hid hown; have HLIES := Lib.hid hlies; have HFLAT := Lib.hid hflat; have HLEN := Lib.hid hlen
      have hvl : vs.length ≤ 1048576 := by rw [hlies.1]; omega
      have HVL := Lib.hid hvl
      have HRR := Lib.hid hrr
      clear hcc hAA hcut hown hlies hflat hlen hvl hrr
      have h20 : k < Z → 20 ≤ (k : Int) := by omega
      go_wp2_with (at_builtin; refine wpList_append_row rfl _ _ rfl w1.heap.size _ vs (.slice AA r cc) rfl rfl rfl ?_ ?_ ?_ ?_; exact HOWN.out; exact hB.size; exact HVL.out; intro v1 w4 ho1 hg1)
      all_goals
        have hB4 : Below w1.heap.size w1 w4 := ownL_below (below_alloc hB _) (HOWN.out.below (below_alloc (Below.refl _ _) _)) hg1 (Nat.le_refl _) (by have := hB.size; simp; omega)
        have hl4 := HLIES.out.snoc AA cc _ HCUT.out
        rw [show (s.drop done).length = r by have := HL.out; have := HRR.out; simp; omega] at hl4
        have hf4 : (ls ++ [s.drop done]).flatten = s := by rw [List.flatten_append, HFLAT.out]; simp
        have hn4 : (ls ++ [s.drop done]).length ≤ 1048576 := by simp; have := HLEN.out; omega
        obtain ⟨l4, e4⟩ : ∃ l4, l4 = ls ++ [s.drop done] := ⟨_, rfl⟩
        rw [← e4] at hl4 hf4 hn4
        obtain ⟨A2, c2, rfl, hrs⟩ := ho1.reads (hl4.below hB4)
        have hpc := parts_c A2 c2 l4 w4 (by rw [hf4, ← HL.out]; have := HSL.out; omega) hn4 hrs (HT1.out.below hB4)
        rw [hf4] at hpc
        refine hpc.mono ?_
        clear hpc hl4 hf4 hn4 e4 ho1 hg1 hrs
        rintro e w5 ⟨rfl, hb5⟩
        have hB5 : Below w1.heap.size w1 w5 := hB4.trans (hb5.mono hB4.size)
        have HB5 := Lib.hid hB5
        clear hB5 hB4 hb5 hsl
        go_wp2_with fail
        have hsm := sum_c A c s w5 (by rw [← HL.out]; have := HSL.out; omega) (HR1.out.below HB5.out) (HT1.out.below HB5.out)
        rw [← HL.out] at hsm
        refine hsm.mono ?_
        clear hsm
        rintro e w6 ⟨rfl, hb6⟩
        have heq := eq_sum (Sen.sum s) (Sen.sum_length s)
        go_wp2
        go_ret
        exact ⟨rfl, HB1.out.trans ((HB5.out.trans (hb6.mono HB5.out.size)).mono HB1.out.size)⟩
end Go.Proofs.YtoophccelcbbfaaDoor
