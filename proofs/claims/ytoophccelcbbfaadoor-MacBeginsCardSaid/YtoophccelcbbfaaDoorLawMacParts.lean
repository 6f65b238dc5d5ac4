/-
  The walk of the statement MacParts.
-/
import Derived.Test.YtoophccelcbbfaaDoorLaw5
import Derived.Test.YtoophccelcbbfaaDoorParts
import Derived.Test.YtoophccelcbbfaaDoorCut
set_option linter.unusedVariables false
set_option linter.unusedSimpArgs false
namespace Go.Proofs.YtoophccelcbbfaaDoor
open Go.RowKit

/-- Slices of bytes that came in, each with its room. -/
def RBc (w : World) (A : Option Addr) (ls : List (List UInt8)) : Prop :=
  ∀ i, (h : i < ls.length) → ∃ b off A' c, A = some ⟨b, off, none⟩ ∧ w.cell? ⟨b, off + i, none⟩ = some (.slice A' (ls[i]'h).length c) ∧ (ls[i]'h).length ≤ c ∧ RB w A' (ls[i]'h)
structure MInv (w wr : World) (ls : List (List UInt8)) (v : Value) (k : Nat) : Prop where
  ex : ∃ vs, OwnL wr w.heap.size v vs ∧ Lies w vs ((ls.take k).map (·.take 300))
  hB : Below w.heap.size w wr
theorem short_flat (ls : List (List UInt8)) : (ls.map (·.take 300)).flatten.length ≤ 300 * ls.length := by
  induction ls with
  | nil => simp
  | cons l ls ih => simp only [List.map_cons, List.flatten_cons, List.length_append, List.length_cons]; have : (l.take 300).length ≤ 300 := by rw [List.length_take]; omega
                    omega
set_option maxHeartbeats 2000000 in
theorem law_mac_parts (A : Option Addr) (c : Nat) (l : List UInt8) (B : Option Addr) (d : Nat) (ls : List (List UInt8)) (w : World) (hc : l.length ≤ c) (hR : RB w A l) (hZ63 : ls.length ≤ 140737488355328) (hS : RBc w B ls) (hT : Tab w) :
    Calls Tryd.prog 10 #[.slice A l.length c, .slice B ls.length d] w fun e w' => e = .returned (.bool true) ∧ Below w.heap.size w w' := by
  have HC := Lib.hid hc; have HR := Lib.hid hR; have HS := Lib.hid hS; have HT := Lib.hid hT
  clear hc hR hS hT
  obtain ⟨Z, hZ⟩ : ∃ Z, Z = ls.length := ⟨_, rfl⟩
  rw [← hZ] at hZ63 ⊢
  have HZ := Lib.hid hZ
  clear hZ
  go_enter Tryd.func10, Tryd.ntmps10
  go_wp2_with fail
  refine (short5_c A c l _ HC.out HR.out.1).mono ?_
  rintro e w2 ⟨rfl, rfl⟩
  obtain ⟨s, hs⟩ : ∃ s, s = l.take 300 := ⟨_, rfl⟩
  have hr1 := HR.out.take 300
  have hsl : (l.take 300).length ≤ 300 := by simp; omega
  rw [← hs] at hr1 hsl ⊢
  obtain ⟨K, hK⟩ : ∃ K, K = s.length := ⟨_, rfl⟩
  rw [← hK] at hsl ⊢
  have R1 := Lib.hid hr1; have HSL := Lib.hid hsl; have HK := Lib.hid hK
  clear hr1 hsl hs HR HC hK
  go_wp2
  go_loopw [5, 6] (fun vl vi wr => ∃ k : Nat, k ≤ 20 ∧ k ≤ Z ∧ vi = .int .i64 k ∧ MInv w wr ls vl k) (fun _ i _ => 20 - (intOf i).toNat)
  case atStart => exact ⟨0, by omega, by omega, rfl, ⟨[], OwnL.new _ _ (Nat.le_refl _), Lies.nil _⟩, below_alloc (Below.refl _ _) _⟩
  case round =>
    obtain ⟨k, hk, hkZ, rfl, inv⟩ := hrel
    by_cases hlt : k < Z ∧ k < 20
    · obtain ⟨h1, h2⟩ := hlt
      have d1 : decide ((k : Int) < (Z : Int)) = true := by simp; omega
      have d2 : decide ((k : Int) < 20) = true := by simp; omega
      have d3 : (k : Int) < (Z : Int) := by omega
      obtain ⟨b, off, A', c', rfl, hc0, hcap, hr⟩ := HS.out k (by rw [← HZ.out]; exact h1)
      obtain ⟨y, hy⟩ : ∃ y, y = ls[k]'(by rw [← HZ.out]; exact h1) := ⟨_, rfl⟩
      rw [← hy] at hc0 hcap hr
      have hblt : b < w.heap.size := World.block_lt_of_cell? w _ hc0
      have hcell := (inv.hB.cell (p := ⟨b, off + k, none⟩) hblt).trans hc0
      obtain ⟨⟨vs, hown, hlies⟩, hB⟩ := inv
      have hnext : (ls.take (k + 1)).map (·.take 300) = (ls.take k).map (·.take 300) ++ [y.take 300] := by
        rw [List.take_succ_eq_append_getElem (by rw [← HZ.out]; exact h1), List.map_append, hy]; rfl
      have hvl : vs.length ≤ 1048576 := by rw [hlies.1, List.length_map, List.length_take]; omega
      have HOWN := Lib.hid hown; have HLIES := Lib.hid hlies; have HNX := Lib.hid hnext; have HB := Lib.hid hB; have HVL := Lib.hid hvl; have HCAP := Lib.hid hcap; have HRY := Lib.hid hr
      clear hy hown hlies hB hnext hvl hcap hr hc0
      go_wp2_with fail
      refine (short5_c A' c' y _ HCAP.out HRY.out.1).mono ?_
      rintro e w3 ⟨rfl, rfl⟩
      obtain ⟨y3, hy3⟩ : ∃ y3, y3 = y.take 300 := ⟨_, rfl⟩
      have hr3 := HRY.out.take 300
      rw [← hy3] at hr3 ⊢
      have hnx := HNX.out
      rw [← hy3] at hnx
      obtain ⟨L3, hL3⟩ : ∃ L3, L3 = y3.length := ⟨_, rfl⟩
      rw [← hL3]
      have HR3 := Lib.hid hr3; have HNX3 := Lib.hid hnx; have HL3 := Lib.hid hL3
      clear hr3 hnx hy3 hL3
      go_wp2_with (at_builtin; refine wpList_append_row rfl _ _ rfl w.heap.size _ vs (.slice A' L3 c') rfl rfl rfl ?_ ?_ ?_ ?_; exact HOWN.out; exact HB.out.size; exact HVL.out; intro v1 w4 ho1 hg1)
      refine ⟨⟨k + 1, by omega, by omega, by go_num, ⟨⟨_, ho1, ?_⟩, ?_⟩⟩, by simp [intOf]; omega⟩
      · rw [HNX3.out, HL3.out]
        exact HLIES.out.snoc A' c' y3 HR3.out
      · exact ownL_below (below_alloc HB.out _) (HOWN.out.below (below_alloc (Below.refl _ _) _)) hg1 (Nat.le_refl _) (by have := HB.out.size; simp; omega)
    · obtain ⟨⟨vs, hown, hlies⟩, hB⟩ := inv
      obtain ⟨ms, hms⟩ : ∃ ms, ms = (ls.take k).map (·.take 300) := ⟨_, rfl⟩
      rw [← hms] at hlies
      have hml : ms.length ≤ 20 := by rw [hms, List.length_map, List.length_take]; omega
      have hmf : ms.flatten.length ≤ 6000 := by
        have h := short_flat (ls.take k)
        have h2 : (ls.take k).length ≤ 20 := by rw [List.length_take]; omega
        rw [hms]; omega
      obtain ⟨A2, c2, rfl, hrs⟩ := hown.reads (hlies.below hB)
      obtain ⟨M, hM⟩ : ∃ M, M = ms.length := ⟨_, rfl⟩
      rw [← hM]
      have HM := Lib.hid hM; have HRS := Lib.hid hrs; have HB := Lib.hid hB; have HML := Lib.hid hml; have HMF := Lib.hid hmf
      have h20 : k < Z → 20 ≤ (k : Int) := by omega
      clear hM hrs hB hms hown hlies hml hmf
      have hq := eq_sum (Sen.hmac s (Sen.partsOf ms)) (Sen.hmac_length _ _)
      go_wp2_with fail
      all_goals
        have hs1 := mac_parts_c A A2 c c2 s ms wr (by rw [← HK.out]; have := HSL.out; omega) (by have := HML.out; have := HMF.out; omega) (R1.out.below HB.out) HRS.out (HT.out.below HB.out)
        rw [← HK.out, ← HM.out] at hs1
        refine hs1.mono ?_
        clear hs1
        rintro e w4 ⟨rfl, hb4⟩
        have HB4 := Lib.hid (HB.out.trans (hb4.mono HB.out.size)); have HRS4 := Lib.hid (HRS.out.below hb4)
        clear hb4
        go_wp2_with fail
        have hs1 := ref_mac_parts_c A A2 c c2 s ms w4 (by rw [← HK.out]; have := HSL.out; omega) (by have := HML.out; have := HMF.out; omega) (R1.out.below HB4.out) HRS4.out
        rw [← HK.out, ← HM.out] at hs1
        refine hs1.mono ?_
        clear hs1
        rintro e w5 ⟨rfl, hb5⟩
        have HB5 := Lib.hid (HB4.out.trans (hb5.mono HB4.out.size))
        clear hb5
        go_wp2_with fail
        refine (works5_c _ (HT.out.below HB5.out)).mono ?_
        rintro e w6 ⟨rfl, hb6⟩
        go_wp2
        go_ret
        exact ⟨rfl, HB5.out.trans (hb6.mono HB5.out.size)⟩
end Go.Proofs.YtoophccelcbbfaaDoor
