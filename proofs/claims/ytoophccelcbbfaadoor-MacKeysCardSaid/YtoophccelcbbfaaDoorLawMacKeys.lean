/-
  The walk of the statement MacKeys.
-/
import Derived.Test.YtoophccelcbbfaaDoorLaw5
import Derived.Test.YtoophccelcbbfaaDoorParts
import Derived.Test.YtoophccelcbbfaaDoorZeros
set_option linter.unusedVariables false
set_option linter.unusedSimpArgs false
namespace Go.Proofs.YtoophccelcbbfaaDoor
open Go.RowKit

theorem Sen.hmac_zeros (k b : List UInt8) (z : Nat) (h : k.length + z ≤ 64) : Sen.hmac (k ++ List.replicate z 0) b = Sen.hmac k b := by
  have e : ∀ x, Sen.full (k ++ List.replicate z 0) x = Sen.full k x := fun x => by
    unfold Sen.full Sen.keyOf
    rw [if_neg (by rw [List.length_append, List.length_replicate]; omega), if_neg (by omega), List.append_assoc, List.replicate_append_replicate, List.length_append, List.length_replicate]
    congr 4
    omega
  unfold Sen.hmac
  rw [e, e]
theorem rbs1 {w : World} {g : Nat} {t : TypeId} {fr : Nat × Nat} {A1 : Option Addr} {n1 c1 : Nat} {l1 : List UInt8} (h : w.heap[g]? = some (.cells #[.slice A1 n1 c1] t fr)) (h1 : n1 = l1.length) (r1 : RB w A1 l1) : RBs w (some ⟨g, 0, none⟩) [l1] := by
  subst h1
  intro i hi
  obtain rfl : i = 0 := by simpa using hi
  exact ⟨g, 0, A1, c1, rfl, by rw [cell_of_row w g _ _ _ _ h]; rfl, r1⟩
set_option maxHeartbeats 1000000 in
theorem law_mac_keys (A : Option Addr) (c : Nat) (l : List UInt8) (z : Int) (B : Option Addr) (d : Nat) (m : List UInt8) (w : World) (hc : l.length ≤ c) (hR : RB w A l) (hd : m.length ≤ d) (hS : RB w B m) (hT : Tab w) :
    Calls Tryd.prog 11 #[.slice A l.length c, .int .i64 z, .slice B m.length d] w fun e w' => e = .returned (.bool true) ∧ Below w.heap.size w w' := by
  have HC := Lib.hid hc; have HR := Lib.hid hR; have HD := Lib.hid hd; have HS := Lib.hid hS; have HT := Lib.hid hT
  clear hc hR hd hS hT
  go_enter Tryd.func11, Tryd.ntmps11
  go_wp2_with fail
  refine (works5_c _ HT.out).mono ?_
  rintro e w1 ⟨rfl, hb1⟩
  have HB1 := Lib.hid hb1
  clear hb1
  go_wp2_with fail
  refine (short5_c A c l _ HC.out HR.out.1).mono ?_
  rintro e w2 ⟨rfl, rfl⟩
  obtain ⟨s, hs⟩ : ∃ s, s = l.take 300 := ⟨_, rfl⟩
  have hr1 := (HR.out.below HB1.out).take 300
  have hsl : (l.take 300).length ≤ 300 := by simp; omega
  have hsc : (l.take 300).length ≤ c := by have := HC.out; simp; omega
  rw [← hs] at hr1 hsl hsc ⊢
  have R1 := Lib.hid hr1; have HSL := Lib.hid hsl; have HSC := Lib.hid hsc
  clear hr1 hsl hsc hs HR HC
  go_wp2_with fail
  refine (short5_c B d m _ HD.out HS.out.1).mono ?_
  rintro e w2 ⟨rfl, rfl⟩
  obtain ⟨t, ht⟩ : ∃ t, t = m.take 300 := ⟨_, rfl⟩
  have hr2 := (HS.out.below HB1.out).take 300
  have htl : (m.take 300).length ≤ 300 := by simp; omega
  rw [← ht] at hr2 htl ⊢
  have R2 := Lib.hid hr2; have HTL := Lib.hid htl
  clear hr2 htl ht HS HD
  obtain ⟨L, hL⟩ : ∃ L, L = s.length := ⟨_, rfl⟩
  obtain ⟨T, hTl⟩ : ∃ T, T = t.length := ⟨_, rfl⟩
  obtain ⟨k, hk⟩ : ∃ k, k = s.take 64 := ⟨_, rfl⟩
  obtain ⟨M, hM⟩ : ∃ M, M = k.length := ⟨_, rfl⟩
  have hML : M = min 64 L := by rw [hM, hk, List.length_take, hL]
  have rk := R1.out.take 64
  rw [← hk] at rk
  rw [← hL, ← hTl]
  have hLc : L ≤ c := by rw [hL]; exact HSC.out
  have hL300 : L ≤ 300 := by rw [hL]; exact HSL.out
  have hT300 : T ≤ 300 := by rw [hTl]; exact HTL.out
  have HLL := Lib.hid hL; have HTT := Lib.hid hTl; have HMM := Lib.hid hM; have RK := Lib.hid rk
  clear hL hTl hM hk rk
  have hM64 : M ≤ 64 := by omega
  have hMc : M ≤ c := by omega
  have hsl : ∀ W, (Instr.slice 22 (.slice A L c) none (some (.int .i64 (M : Int))) none).run Tryd.prog W = .ok (.slice A M c) W := fun W => run_slice_to A L c M hMc W
  have hac : ∀ W, Calls Tryd.prog 27 #[.int .i64 z, .int .i64 (65 - (M : Int))] W (AmongPost (65 - M) W) := fun W => by
    have := among_c z (65 - M) (by omega) (by omega) W
    rwa [show ((65 - M : Nat) : Int) = 65 - (M : Int) by omega] at this
  have HAC := Lib.hid hac
  clear hac
  have hq1 := eq_sum (Sen.hmac k t) (Sen.hmac_length _ _)
  have hq2 := eq_sum (Sen.hmac k (Sen.partsOf [t])) (Sen.hmac_length _ _)
  have hcase : (L ≤ 64 ∧ M = L) ∨ (64 < L ∧ M = 64) := by omega
  clear hML
  rcases hcase with ⟨h1, rfl⟩ | ⟨h1, rfl⟩
  all_goals
    go_wp2_with fail
    have hby := bytes_c A c k w1 (by rw [← HMM.out]; omega) RK.out
    rw [← HMM.out] at hby
    refine hby.mono ?_
    clear hby
    rintro e w2 ⟨v, rfl, ho2, hb2⟩
    have HO2 := Lib.hid ho2; have HB2 := Lib.hid (HB1.out.trans (hb2.mono HB1.out.size)); have HD2 := Lib.hid hb2
    clear ho2 hb2
    go_wp2_with fail
    refine (HAC.out w2).mono ?_
    rintro e w3 ⟨r, hr, rfl, rfl⟩
    go_wp2_with (at_builtin; refine app_zeros (.tmp 21) (.tmp 26) w1.heap.size k r rfl rfl v _ rfl rfl rfl HO2.out HD2.out.size (by rw [← HMM.out]; omega) ?_; intro v3 w3 ho3 hb3)
    have hmore : ∀ b, Sen.hmac (k ++ List.replicate r 0) b = Sen.hmac k b := fun b => Sen.hmac_zeros k b r (by rw [← HMM.out]; omega)
    have hml : (k ++ List.replicate r 0).length ≤ 1000 := by rw [List.length_append, List.length_replicate, ← HMM.out]; omega
    obtain ⟨A3, c3, rfl, hc3, hr3⟩ := ho3.reads (by omega)
    obtain ⟨mo, hmo⟩ : ∃ mo, mo = k ++ List.replicate r 0 := ⟨_, rfl⟩
    rw [← hmo] at hmore hml hr3 ⊢
    have HMO := Lib.hid hmore; have HML := Lib.hid hml; have R3 := Lib.hid hr3
    have HD3 := Lib.hid (HD2.out.trans hb3); have HB3 := Lib.hid (HB2.out.trans (hb3.mono HB1.out.size))
    have RK3 := Lib.hid (RK.out.below (HD2.out.trans hb3)); have RT3 := Lib.hid (R2.out.below (HD2.out.trans hb3))
    clear hmore hml hr3 hc3 hb3 ho3 hmo
    go_wp2_with fail
    have hs1 := mac_sum_c A B c d k t w3 (by rw [← HMM.out]; omega) (by rw [← HTT.out]; omega) RK3.out RT3.out (HT.out.below HB3.out)
    rw [← HMM.out, ← HTT.out] at hs1
    refine hs1.mono ?_
    clear hs1
    rintro e w4 ⟨rfl, hb4⟩
    have HB4 := Lib.hid (HB3.out.trans (hb4.mono HB3.out.size)); have R4 := Lib.hid (R3.out.below hb4); have RK4 := Lib.hid (RK3.out.below hb4); have RT4 := Lib.hid (RT3.out.below hb4)
    clear hb4
    go_wp2_with fail
    have hs1 := mac_sum_c A3 B c3 d mo t w4 (by have := HML.out; omega) (by rw [← HTT.out]; omega) R4.out RT4.out (HT.out.below HB4.out)
    rw [← HTT.out, HMO.out] at hs1
    refine hs1.mono ?_
    clear hs1
    rintro e w5 ⟨rfl, hb5⟩
    have HB5 := Lib.hid (HB4.out.trans (hb5.mono HB4.out.size)); have R5 := Lib.hid (R4.out.below hb5); have RK5 := Lib.hid (RK4.out.below hb5); have RT5 := Lib.hid (RT4.out.below hb5)
    clear hb5
    go_wp2_with fail
    have hx5 : Below w5.heap.size w5 (w5.alloc (.cells #[.slice B T d] 22)) := below_alloc (Below.refl _ _) _
    have hrs := rbs1 (l1 := t) (blk_new (w := w5) (.cells #[.slice B T d] 22) rfl) HTT.out (RT5.out.below hx5)
    have hs1 := mac_parts_c A (some ⟨w5.heap.size, 0, none⟩) c 1 k [t] (w5.alloc (.cells #[.slice B T d] 22)) (by rw [← HMM.out]; omega) (by simp; rw [← HTT.out]; omega) (RK5.out.below hx5) hrs (HT.out.below (below_alloc HB5.out _))
    rw [← HMM.out] at hs1
    refine hs1.mono ?_
    clear hs1 hrs hx5
    rintro e w6 ⟨rfl, hb6⟩
    have hb6' : Below w5.heap.size w5 w6 := (below_alloc (Below.refl _ _) _).trans (hb6.mono (by simp))
    have HB6 := Lib.hid (HB5.out.trans (hb6'.mono HB5.out.size)); have R6 := Lib.hid (R5.out.below hb6'); have RT6 := Lib.hid (RT5.out.below hb6')
    clear hb6 hb6'
    go_wp2_with fail
    have hx6 : Below w6.heap.size w6 (w6.alloc (.cells #[.slice B T d] 22)) := below_alloc (Below.refl _ _) _
    have hrs := rbs1 (l1 := t) (blk_new (w := w6) (.cells #[.slice B T d] 22) rfl) HTT.out (RT6.out.below hx6)
    have hs1 := mac_parts_c A3 (some ⟨w6.heap.size, 0, none⟩) c3 1 mo [t] (w6.alloc (.cells #[.slice B T d] 22)) (by have := HML.out; omega) (by simp; rw [← HTT.out]; omega) (R6.out.below hx6) hrs (HT.out.below (below_alloc HB6.out _))
    rw [HMO.out] at hs1
    refine hs1.mono ?_
    clear hs1 hrs hx6
    rintro e w7 ⟨rfl, hb7⟩
    go_wp2
    go_ret
    exact ⟨rfl, (below_alloc HB6.out _).trans (hb7.mono (by have := HB6.out.size; simp; omega))⟩
end Go.Proofs.YtoophccelcbbfaaDoor
