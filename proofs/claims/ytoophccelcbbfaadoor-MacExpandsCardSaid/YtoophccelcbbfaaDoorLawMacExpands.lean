/-
  The walk of the statement MacExpands.
-/
import Derived.Test.YtoophccelcbbfaaDoorLaw5
import Derived.Test.YtoophccelcbbfaaDoorDer
set_option linter.unusedVariables false
set_option linter.unusedSimpArgs false
namespace Go.Proofs.YtoophccelcbbfaaDoor
open Go.RowKit

theorem same_n (A B : Option Addr) (c d n m : Nat) (a b : List UInt8) (hn : n = a.length) (hm : m = b.length) (w : World) (hA : RB w A a) (hB : RB w B b) :
    Calls Tryd.prog 18 #[.slice A n c, .slice B m d] w fun e w' => e = .returned (.bool (decide (a = b))) ∧ w = w' := by
  subst hn hm
  exact same_c A B c d a b w hA hB
def MidR (n : Nat) (l : List UInt8) (v1 v2 : Value) (w1 w' : World) : Prop := ∃ A c, v1 = .slice A n c ∧ v2 = .int .i64 0 ∧ RB w' A l ∧ Below w1.heap.size w1 w'
def ErrR (e : Int) (v1 v2 : Value) (w1 w' : World) : Prop := v1 = .slice none 0 0 ∧ v2 = .int .i64 e ∧ w1 = w'
theorem extract_key (A : Option Addr) (salt b : List UInt8) : (32 : Nat) = (Sen.extract salt b).length := (Sen.hmac_length _ _).symm
theorem short_str (s : ByteArray) : ∃ u : ByteArray, u.size ≤ 100 ∧
    ((s.size ≤ 100 ∧ ∀ W, (Instr.slice 9 (.string s) none (some (.int .i64 (s.size : Int))) none).run Tryd.prog W = .ok (.string u) W) ∨ (100 < s.size ∧ ∀ W, (Instr.slice 9 (.string s) none (some (.int .i64 100)) none).run Tryd.prog W = .ok (.string u) W)) := by
  by_cases h1 : s.size ≤ 100
  · refine ⟨s.extract 0 s.size, by rw [ByteArray.size_extract]; omega, .inl ⟨h1, fun W => ?_⟩⟩
    have := run_slice_string_h (P := Tryd.prog) W 9 s Tryd.underlying9 .i64 (s.size : Int) (by omega) (Int.le_refl _)
    simpa using this
  · refine ⟨s.extract 0 100, by rw [ByteArray.size_extract]; omega, .inr ⟨by omega, fun W => ?_⟩⟩
    exact run_slice_string_h (P := Tryd.prog) W 9 s Tryd.underlying9 .i64 100 (by omega) (by omega)
set_option maxRecDepth 100000 in
set_option maxHeartbeats 4000000 in
theorem law_mac_expands (A : Option Addr) (c : Nat) (l : List UInt8) (B : Option Addr) (d : Nat) (m : List UInt8) (s : ByteArray) (n : Int) (w : World) (hc : l.length ≤ c) (hR : RB w A l) (hd : m.length ≤ d) (hS : RB w B m) (hs : s.size ≤ 140737488351232)
    (hn : -9223372036854775808 ≤ n ∧ n ≤ 9223372036854775807) (hT : Tab w) :
    Calls Tryd.prog 13 #[.slice A l.length c, .slice B m.length d, .string s, .int .i64 n] w fun e w' => e = .returned (.bool true) ∧ Below w.heap.size w w' := by
  have HC := Lib.hid hc; have HR := Lib.hid hR; have HD := Lib.hid hd; have HS := Lib.hid hS; have HT := Lib.hid hT
  obtain ⟨hn1, hn2⟩ := hn
  obtain ⟨L, hL⟩ : ∃ L, L = l.length := ⟨_, rfl⟩
  obtain ⟨M, hM⟩ : ∃ M, M = m.length := ⟨_, rfl⟩
  obtain ⟨k, hk⟩ : ∃ k, k = l.take 300 := ⟨_, rfl⟩
  obtain ⟨t, ht⟩ : ∃ t, t = m.take 300 := ⟨_, rfl⟩
  have r1 := hR.take 300
  have r2 := hS.take 300
  rw [← hk] at r1
  rw [← ht] at r2
  have sk := fun W => short5_c A c l W hc hR.1
  have st := fun W => short5_c B d m W hd hS.1
  rw [← hk, ← hL] at sk
  rw [← ht, ← hM] at st
  obtain ⟨K, hK⟩ : ∃ K, K = k.length := ⟨_, rfl⟩
  obtain ⟨T, hTt⟩ : ∃ T, T = t.length := ⟨_, rfl⟩
  rw [← hK] at sk
  rw [← hTt] at st
  have hK3 : K ≤ 300 := by rw [hK, hk, List.length_take]; omega
  have hT3 : T ≤ 300 := by rw [hTt, ht, List.length_take]; omega
  rw [← hL, ← hM]
  have R1 := Lib.hid r1; have R2 := Lib.hid r2; have SK := Lib.hid sk; have ST := Lib.hid st; have HK := Lib.hid hK; have HTT := Lib.hid hTt
  clear hc hR hd hS hT hL hM hk ht r1 r2 sk st hK hTt HC HR HD HS
  obtain ⟨u, hu, hcase⟩ := short_str s
  obtain ⟨x, hx⟩ : ∃ x, x = Sen.extract t k := ⟨_, rfl⟩
  have hxl : (32 : Nat) = x.length := by rw [hx]; exact (Sen.hmac_length _ _).symm
  have HX := Lib.hid hx; have HXL := Lib.hid hxl
  clear hx hxl
  rcases hcase with ⟨h1, hsl⟩ | ⟨h1, hsl⟩
  all_goals
    first
    | have hI : (if (100 : Int) < (s.size : Int) then (100 : Int) else (s.size : Int)) = 100 := if_pos (by omega)
    | have hI : (if (100 : Int) < (s.size : Int) then (100 : Int) else (s.size : Int)) = (s.size : Int) := if_neg (by omega)
    go_enter Tryd.func13, Tryd.ntmps13
    go_wp2
    refine region_class (fun w' => ∃ n, w' = w.drewN n) (by kernel_rfl) ⟨_, rfl⟩ ?_
    repeat (quiet_step (first | (go_at_call 29; exact (SK.out _).mono fun _ _ h => ⟨h.1, _, h.2.symm⟩) | (go_at_call 29; exact (ST.out _).mono fun _ _ h => ⟨h.1, _, h.2.symm⟩)))
    refine wpQuiet_nil ?_
    rintro _ ⟨nr, rfl⟩
    obtain ⟨W0, hW0⟩ : ∃ W0, W0 = w.drewN nr := ⟨_, rfl⟩
    have hB0 : Below w.heap.size w W0 := by rw [hW0]; exact below_drewN (Below.refl _ _) _
    rw [← hW0]
    clear hW0
    have HB0 := Lib.hid hB0; have RA := Lib.hid (R1.out.below hB0); have RBt := Lib.hid (R2.out.below hB0); have HT0 := Lib.hid (HT.out.below hB0)
    clear hB0 hsl h1 hI
    have hcn : n < 0 ∨ (0 ≤ n ∧ n ≤ 200) ∨ (200 < n ∧ n < 8161) ∨ 8161 ≤ n := by omega
    rcases hcn with hn | ⟨ha, hb⟩ | ⟨ha, hb⟩ | hn
    · go_wp2_with fail
      refine (expand_low A K c u n (by omega) W0).mono ?_
      rintro e w1 ⟨rfl, rfl⟩
      go_wp2_with fail
      refine (ref_expand_low A K c u n (by omega) W0).mono ?_
      rintro e w1 ⟨rfl, rfl⟩
      go_wp2_with fail
      have e1 := derive_c (ErrR 2) A B c d k t u n W0 (by rw [← HK.out]; omega) (by rw [← HTT.out]; omega) RA.out RBt.out HT0.out (fun A' w' hr hb => (expand_low A' 32 32 u n (by omega) w').mono fun e w'' ⟨he, hw⟩ => ⟨_, _, he, rfl, rfl, hw⟩)
      rw [← HK.out, ← HTT.out] at e1
      refine e1.mono ?_
      clear e1
      rintro e w4 ⟨w3, hb3, v1, v2, rfl, rfl, rfl, rfl⟩
      have HB4 := Lib.hid (HB0.out.trans (hb3.mono HB0.out.size)); have RA4 := Lib.hid (RA.out.below hb3); have RT4 := Lib.hid (RBt.out.below hb3)
      clear hb3
      go_wp2_with fail
      have e1 := ref_derive_c (ErrR 2) A B c d k t u n w3 (by rw [← HK.out]; omega) (by rw [← HTT.out]; omega) RA4.out RT4.out (fun A' w' hr hb => (ref_expand_low A' 32 32 u n (by omega) w').mono fun e w'' ⟨he, hw⟩ => ⟨_, _, he, rfl, rfl, hw⟩)
      rw [← HK.out, ← HTT.out] at e1
      refine e1.mono ?_
      clear e1
      rintro e w6 ⟨w5, hb5, v1, v2, rfl, rfl, rfl, rfl⟩
      have HB6 := Lib.hid (HB4.out.trans (hb5.mono HB4.out.size))
      clear hb5
      go_wp2_with fail
      refine (same_n none none 0 0 0 0 [] [] rfl rfl _ (RB.nil _ _) (RB.nil _ _)).mono ?_
      rintro e w7 ⟨rfl, rfl⟩
      rw [decide_eq_true rfl]
      go_wp2_with fail
      refine (same_n none none 0 0 0 0 [] [] rfl rfl _ (RB.nil _ _) (RB.nil _ _)).mono ?_
      rintro e w7 ⟨rfl, rfl⟩
      rw [decide_eq_true rfl]
      go_wp2_with fail
      refine (works5_c _ (HT.out.below HB6.out)).mono ?_
      rintro e w8 ⟨rfl, hb8⟩
      go_wp2
      go_ret
      exact ⟨rfl, HB6.out.trans (hb8.mono HB6.out.size)⟩
    · obtain ⟨mm, rfl⟩ : ∃ mm : Nat, n = mm := ⟨n.toNat, by omega⟩
      go_wp2_with fail
      have e1 := expand_c A c k u mm W0 (by rw [← HK.out]; omega) (by omega) (by omega) RA.out HT0.out
      rw [← HK.out] at e1
      refine e1.mono ?_
      clear e1
      rintro e w1 ⟨A1, c1, rfl, hc1, hr1, hb1⟩
      have X1 := Lib.hid hr1; have HB1 := Lib.hid (HB0.out.trans (hb1.mono HB0.out.size)); have RA1 := Lib.hid (RA.out.below hb1); have RT1 := Lib.hid (RBt.out.below hb1)
      clear hc1 hr1 hb1
      go_wp2_with fail
      have e1 := ref_expand_c A c k u mm w1 (by rw [← HK.out]; omega) (by omega) (by omega) RA1.out
      rw [← HK.out] at e1
      refine e1.mono ?_
      clear e1
      rintro e w2 ⟨A2, c2, rfl, hc2, hr2, hb2⟩
      have X2 := Lib.hid (X1.out.below hb2); have Y2 := Lib.hid hr2; have HB2 := Lib.hid (HB1.out.trans (hb2.mono HB1.out.size)); have RA2 := Lib.hid (RA1.out.below hb2); have RT2 := Lib.hid (RT1.out.below hb2)
      clear hc2 hr2 hb2
      go_wp2_with fail
      have e1 := derive_c (MidR mm (Sen.expand x u.data.toList mm)) A B c d k t u mm w2 (by rw [← HK.out]; omega) (by rw [← HTT.out]; omega) RA2.out RT2.out (HT.out.below HB2.out) (fun A' w' hr hb => by
        rw [← HX.out] at hr
        have e := expand_c A' 32 x u mm w' (by rw [← HXL.out]; decide) (by omega) (by omega) hr (HT.out.below (HB2.out.trans (hb.mono HB2.out.size)))
        rw [← HXL.out] at e
        exact e.mono fun e w'' ⟨A3, c3, he, hc, hr, hb⟩ => ⟨_, _, he, A3, c3, rfl, rfl, hr, hb⟩)
      rw [← HK.out, ← HTT.out] at e1
      refine e1.mono ?_
      clear e1
      rintro e w4 ⟨w3, hb3, v1, v2, rfl, A3, c3, rfl, rfl, hr3, hb4⟩
      have hb24 := hb3.trans (hb4.mono hb3.size)
      have X4 := Lib.hid (X2.out.below hb24); have Y4 := Lib.hid (Y2.out.below hb24); have Z4 := Lib.hid hr3; have HB4 := Lib.hid (HB2.out.trans (hb24.mono HB2.out.size)); have RA4 := Lib.hid (RA2.out.below hb24); have RT4 := Lib.hid (RT2.out.below hb24)
      clear hb3 hr3 hb4 hb24
      go_wp2_with fail
      have e1 := ref_derive_c (MidR mm (Sen.expand x u.data.toList mm)) A B c d k t u mm w4 (by rw [← HK.out]; omega) (by rw [← HTT.out]; omega) RA4.out RT4.out (fun A' w' hr hb => by
        rw [← HX.out] at hr
        have e := ref_expand_c A' 32 x u mm w' (by rw [← HXL.out]; decide) (by omega) (by omega) hr
        rw [← HXL.out] at e
        exact e.mono fun e w'' ⟨A3, c3, he, hc, hr, hb⟩ => ⟨_, _, he, A3, c3, rfl, rfl, hr, hb⟩)
      rw [← HK.out, ← HTT.out] at e1
      refine e1.mono ?_
      clear e1
      rintro e w6 ⟨w5, hb5, v1, v2, rfl, A5, c5, rfl, rfl, hr5, hb6⟩
      have hb46 := hb5.trans (hb6.mono hb5.size)
      have X6 := Lib.hid (X4.out.below hb46); have Y6 := Lib.hid (Y4.out.below hb46); have Z6 := Lib.hid (Z4.out.below hb46); have V6 := Lib.hid hr5; have HB6 := Lib.hid (HB4.out.trans (hb46.mono HB4.out.size))
      clear hb5 hr5 hb6 hb46
      go_wp2_with fail
      refine (same_n A1 A2 c1 c2 mm mm _ _ (Sen.expand_length _ _ _).symm (Sen.expand_length _ _ _).symm _ X6.out Y6.out).mono ?_
      rintro e w7 ⟨rfl, rfl⟩
      rw [decide_eq_true rfl]
      go_wp2_with fail
      refine (same_n A3 A5 c3 c5 mm mm _ _ (Sen.expand_length _ _ _).symm (Sen.expand_length _ _ _).symm _ Z6.out V6.out).mono ?_
      rintro e w7 ⟨rfl, rfl⟩
      rw [decide_eq_true rfl]
      go_wp2_with fail
      refine (works5_c _ (HT.out.below HB6.out)).mono ?_
      rintro e w8 ⟨rfl, hb8⟩
      go_wp2
      go_ret
      exact ⟨rfl, HB6.out.trans (hb8.mono HB6.out.size)⟩
    · obtain ⟨mm, hmm⟩ : ∃ mm : Nat, n % 200 = mm := ⟨(n % 200).toNat, by omega⟩
      have hm2 : mm ≤ 200 := by omega
      go_wp2_with fail
      have e1 := expand_c A c k u mm W0 (by rw [← HK.out]; omega) (by omega) (by omega) RA.out HT0.out
      rw [← HK.out] at e1
      refine e1.mono ?_
      clear e1
      rintro e w1 ⟨A1, c1, rfl, hc1, hr1, hb1⟩
      have X1 := Lib.hid hr1; have HB1 := Lib.hid (HB0.out.trans (hb1.mono HB0.out.size)); have RA1 := Lib.hid (RA.out.below hb1); have RT1 := Lib.hid (RBt.out.below hb1)
      clear hc1 hr1 hb1
      go_wp2_with fail
      have e1 := ref_expand_c A c k u mm w1 (by rw [← HK.out]; omega) (by omega) (by omega) RA1.out
      rw [← HK.out] at e1
      refine e1.mono ?_
      clear e1
      rintro e w2 ⟨A2, c2, rfl, hc2, hr2, hb2⟩
      have X2 := Lib.hid (X1.out.below hb2); have Y2 := Lib.hid hr2; have HB2 := Lib.hid (HB1.out.trans (hb2.mono HB1.out.size)); have RA2 := Lib.hid (RA1.out.below hb2); have RT2 := Lib.hid (RT1.out.below hb2)
      clear hc2 hr2 hb2
      go_wp2_with fail
      have e1 := derive_c (MidR mm (Sen.expand x u.data.toList mm)) A B c d k t u mm w2 (by rw [← HK.out]; omega) (by rw [← HTT.out]; omega) RA2.out RT2.out (HT.out.below HB2.out) (fun A' w' hr hb => by
        rw [← HX.out] at hr
        have e := expand_c A' 32 x u mm w' (by rw [← HXL.out]; decide) (by omega) (by omega) hr (HT.out.below (HB2.out.trans (hb.mono HB2.out.size)))
        rw [← HXL.out] at e
        exact e.mono fun e w'' ⟨A3, c3, he, hc, hr, hb⟩ => ⟨_, _, he, A3, c3, rfl, rfl, hr, hb⟩)
      rw [← HK.out, ← HTT.out] at e1
      refine e1.mono ?_
      clear e1
      rintro e w4 ⟨w3, hb3, v1, v2, rfl, A3, c3, rfl, rfl, hr3, hb4⟩
      have hb24 := hb3.trans (hb4.mono hb3.size)
      have X4 := Lib.hid (X2.out.below hb24); have Y4 := Lib.hid (Y2.out.below hb24); have Z4 := Lib.hid hr3; have HB4 := Lib.hid (HB2.out.trans (hb24.mono HB2.out.size)); have RA4 := Lib.hid (RA2.out.below hb24); have RT4 := Lib.hid (RT2.out.below hb24)
      clear hb3 hr3 hb4 hb24
      go_wp2_with fail
      have e1 := ref_derive_c (MidR mm (Sen.expand x u.data.toList mm)) A B c d k t u mm w4 (by rw [← HK.out]; omega) (by rw [← HTT.out]; omega) RA4.out RT4.out (fun A' w' hr hb => by
        rw [← HX.out] at hr
        have e := ref_expand_c A' 32 x u mm w' (by rw [← HXL.out]; decide) (by omega) (by omega) hr
        rw [← HXL.out] at e
        exact e.mono fun e w'' ⟨A3, c3, he, hc, hr, hb⟩ => ⟨_, _, he, A3, c3, rfl, rfl, hr, hb⟩)
      rw [← HK.out, ← HTT.out] at e1
      refine e1.mono ?_
      clear e1
      rintro e w6 ⟨w5, hb5, v1, v2, rfl, A5, c5, rfl, rfl, hr5, hb6⟩
      have hb46 := hb5.trans (hb6.mono hb5.size)
      have X6 := Lib.hid (X4.out.below hb46); have Y6 := Lib.hid (Y4.out.below hb46); have Z6 := Lib.hid (Z4.out.below hb46); have V6 := Lib.hid hr5; have HB6 := Lib.hid (HB4.out.trans (hb46.mono HB4.out.size))
      clear hb5 hr5 hb6 hb46
      go_wp2_with fail
      refine (same_n A1 A2 c1 c2 mm mm _ _ (Sen.expand_length _ _ _).symm (Sen.expand_length _ _ _).symm _ X6.out Y6.out).mono ?_
      rintro e w7 ⟨rfl, rfl⟩
      rw [decide_eq_true rfl]
      go_wp2_with fail
      refine (same_n A3 A5 c3 c5 mm mm _ _ (Sen.expand_length _ _ _).symm (Sen.expand_length _ _ _).symm _ Z6.out V6.out).mono ?_
      rintro e w7 ⟨rfl, rfl⟩
      rw [decide_eq_true rfl]
      go_wp2_with fail
      refine (works5_c _ (HT.out.below HB6.out)).mono ?_
      rintro e w8 ⟨rfl, hb8⟩
      go_wp2
      go_ret
      exact ⟨rfl, HB6.out.trans (hb8.mono HB6.out.size)⟩
    · go_wp2_with fail
      refine (expand_high A K c u n (by omega) W0).mono ?_
      rintro e w1 ⟨rfl, rfl⟩
      go_wp2_with fail
      refine (ref_expand_high A K c u n (by omega) W0).mono ?_
      rintro e w1 ⟨rfl, rfl⟩
      go_wp2_with fail
      have e1 := derive_c (ErrR 3) A B c d k t u n W0 (by rw [← HK.out]; omega) (by rw [← HTT.out]; omega) RA.out RBt.out HT0.out (fun A' w' hr hb => (expand_high A' 32 32 u n (by omega) w').mono fun e w'' ⟨he, hw⟩ => ⟨_, _, he, rfl, rfl, hw⟩)
      rw [← HK.out, ← HTT.out] at e1
      refine e1.mono ?_
      clear e1
      rintro e w4 ⟨w3, hb3, v1, v2, rfl, rfl, rfl, rfl⟩
      have HB4 := Lib.hid (HB0.out.trans (hb3.mono HB0.out.size)); have RA4 := Lib.hid (RA.out.below hb3); have RT4 := Lib.hid (RBt.out.below hb3)
      clear hb3
      go_wp2_with fail
      have e1 := ref_derive_c (ErrR 3) A B c d k t u n w3 (by rw [← HK.out]; omega) (by rw [← HTT.out]; omega) RA4.out RT4.out (fun A' w' hr hb => (ref_expand_high A' 32 32 u n (by omega) w').mono fun e w'' ⟨he, hw⟩ => ⟨_, _, he, rfl, rfl, hw⟩)
      rw [← HK.out, ← HTT.out] at e1
      refine e1.mono ?_
      clear e1
      rintro e w6 ⟨w5, hb5, v1, v2, rfl, rfl, rfl, rfl⟩
      have HB6 := Lib.hid (HB4.out.trans (hb5.mono HB4.out.size))
      clear hb5
      go_wp2_with fail
      refine (same_n none none 0 0 0 0 [] [] rfl rfl _ (RB.nil _ _) (RB.nil _ _)).mono ?_
      rintro e w7 ⟨rfl, rfl⟩
      rw [decide_eq_true rfl]
      go_wp2_with fail
      refine (same_n none none 0 0 0 0 [] [] rfl rfl _ (RB.nil _ _) (RB.nil _ _)).mono ?_
      rintro e w7 ⟨rfl, rfl⟩
      rw [decide_eq_true rfl]
      go_wp2_with fail
      refine (works5_c _ (HT.out.below HB6.out)).mono ?_
      rintro e w8 ⟨rfl, hb8⟩
      go_wp2
      go_ret
      exact ⟨rfl, HB6.out.trans (hb8.mono HB6.out.size)⟩
end Go.Proofs.YtoophccelcbbfaaDoor
