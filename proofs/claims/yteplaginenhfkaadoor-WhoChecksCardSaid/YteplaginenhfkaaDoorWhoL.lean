/-
  who: the reference's Proof and Check.
-/
import Derived.Test.YteplaginenhfkaaDoorWhoD
set_option linter.unusedVariables false
set_option linter.unusedSimpArgs false
namespace Go.Proofs.YteplaginenhfkaaDoor
open Go.RowKit

def IntPost (w : World) (tn : Nat) (e : Ending) (w' : World) : Prop := ∃ g, e = .returned (.slice (some ⟨g, 0, none⟩) 8 8) ∧ RB w' (some ⟨g, 0, none⟩) (Sen.be64 tn) ∧ Below w.heap.size w w'
set_option maxRecDepth 100000 in
set_option maxHeartbeats 4000000 in
theorem rint_c (tn : Nat) (htn : tn ≤ 1099511627776) (w : World) : Calls Tryd.prog 39 #[.int .i64 (tn : Int)] w (IntPost w tn) := by
  have hmk := fun W => run_make_bytes 8 (by decide) 8 rfl W
  rw [show (bvs (List.replicate 8 0)).toArray = #[.int .u8 0, .int .u8 0, .int .u8 0, .int .u8 0, .int .u8 0, .int .u8 0, .int .u8 0, .int .u8 0] from rfl] at hmk
  go_enter Tryd.func39, Tryd.ntmps39
  go_wp2
  obtain ⟨X, hX⟩ : ∃ X, X = w.alloc (.cells #[.int .u8 0, .int .u8 0, .int .u8 0, .int .u8 0, .int .u8 0, .int .u8 0, .int .u8 0, .int .u8 0] 5) := ⟨_, rfl⟩
  obtain ⟨g, hg⟩ : ∃ g, g = w.heap.size := ⟨_, rfl⟩
  have hG : X.heap[g]? = some (.cells #[.int .u8 0, .int .u8 0, .int .u8 0, .int .u8 0, .int .u8 0, .int .u8 0, .int .u8 0, .int .u8 0] 5 (0, 0)) := by rw [hX, hg]; exact blk_new _ rfl
  have hB : Below w.heap.size w X := by rw [hX]; exact below_alloc (Below.refl _ _) _
  rw [← hX, ← hg]
  have G := Lib.hid hG; have HB := Lib.hid hB; have HGW := Lib.hid (show w.heap.size ≤ g by omega)
  rw [← row_same hG]
  clear hX hg hG hB hmk
  have hset := fun cs i v => row_set G.out cs i v
  have hcell := fun cs j => row_cell G.out cs j
  have hfro := fun cs j => row_frozen G.out cs j
  refine wp_loop_rounds 9 ?_
  iterate 8 (rw [rounds_succ]; go_wp2)
  clear hset hcell hfro
  rw [rounds_succ]
  go_wp2
  go_ret
  refine ⟨g, rfl, rb_of_row (t := 5) (fr := (0, 0)) ?_ (by simp [Sen.be64]), below_setRow HB.out HGW.out _⟩
  refine (setRow_heap X _ _ _ _ _ G.out).trans ?_
  congr 2
  simp [bvs, bv, Sen.be64, UInt8.toNat_ofNat']
  omega
set_option maxRecDepth 100000 in
set_option maxHeartbeats 4000000 in
theorem rproof_c (A : Option Addr) (c : Nat) (key : List UInt8) (nm : ByteArray) (t : Int) (w : World) (hn : nm.size ≤ 1000000) (hA : RB w A key) :
    Calls Tryd.prog 13 #[.slice A key.length c, .string nm, .int .i64 t] w (ProofPost w (proofS key nm t)) := by
  have HA := Lib.hid hA; have HNM := Lib.hid hn
  have hps : proofS key nm t = if key.length ≠ 16 ∨ okName nm = false ∨ okTime t = false then ([], 2) else ((Sen.hmac key (Sen.partsOf [preB, nm.data.toList, Sen.be64 t.toNat])).take 16, 0) := rfl
  rw [hps]
  obtain ⟨n, hn'⟩ : ∃ n, n = key.length := ⟨_, rfl⟩
  rw [← hn']
  have HN := Lib.hid hn'
  clear hA hn hps hn'
  by_cases c1 : n = 16
  · cases c2 : okName nm with
    | false =>
      rw [if_pos (Or.inr (Or.inl rfl))]
      subst c1
      go_enter Tryd.func13, Tryd.ntmps13
      go_wp2_with fail
      refine (ref_name_c nm (by have := HNM.out; omega) w).mono ?_
      rw [c2]
      rintro e w1 ⟨rfl, rfl⟩
      go_wp2
      go_ret2
      exact ProofPost.bad rfl (Below.refl _ _)
    | true =>
      cases c3 : okTime t with
      | false =>
        rw [if_pos (Or.inr (Or.inr rfl))]
        subst c1
        go_enter Tryd.func13, Tryd.ntmps13
        go_wp2_with fail
        refine (ref_name_c nm (by have := HNM.out; omega) w).mono ?_
        rw [c2]
        rintro e w1 ⟨rfl, rfl⟩
        go_wp2_with fail
        refine (ref_time_c t w).mono ?_
        rw [c3]
        rintro e w1 ⟨rfl, rfl⟩
        go_wp2
        go_ret2
        exact ProofPost.bad rfl (Below.refl _ _)
      | true =>
        rw [if_neg (by simp [c1])]
        obtain ⟨tn, rfl⟩ : ∃ tn : Nat, t = tn := ⟨t.toNat, by have := of_decide_eq_true c3; omega⟩
        have htn : tn ≤ 1099511627776 := by have := of_decide_eq_true c3; omega
        rw [Int.toNat_natCast]
        obtain ⟨D, hD⟩ : ∃ D, D = Sen.hmac key (Sen.partsOf [preB, nm.data.toList, Sen.be64 tn]) := ⟨_, rfl⟩
        have hDl : D.length = 32 := by rw [hD]; exact Sen.hmac_length _ _
        rw [← hD]
        have HD := Lib.hid hD; have DL := Lib.hid hDl; have HSD := Lib.hid (show (bvs D).length = 32 by rw [bvs_length, hDl])
        clear hD hDl
        subst c1
        go_enter Tryd.func13, Tryd.ntmps13
        go_wp2_with fail
        refine (ref_name_c nm (by have := HNM.out; omega) w).mono ?_
        rw [c2]
        rintro e w1 ⟨rfl, rfl⟩
        go_wp2_with fail
        refine (ref_time_c (tn : Int) w).mono ?_
        rw [c3]
        rintro e w1 ⟨rfl, rfl⟩
        have kc := fun (w : World) (C : Array Value) (n c : Nat) => Lib.run_convert_bytes_const (P := Tryd.prog) w 24 5 C n c Tryd.underlying24 Tryd.underlying5
        go_wp2_with (with_reducible refine conv_string (.tmp 25) nm rfl rfl rfl (by have := HNM.out; omega) ?_; intro A2 c2' w2 hr2 hc2 hb2)
        clear kc
        have hbY : Below w.heap.size w (w.alloc (.cells #[.int .u8 112, .int .u8 114, .int .u8 101] 5 (3, 4))) := below_alloc (Below.refl _ _) _
        have hbY2 : Below w.heap.size w w2 := hbY.trans (hb2.mono hbY.size)
        have hpre : RB (w.alloc (.cells #[.int .u8 112, .int .u8 114, .int .u8 101] 5 (3, 4))) (some ⟨w.heap.size, 0, none⟩) preB := rb_of_row (l := preB) (blk_new _ rfl) (by decide)
        have PRE := Lib.hid (hpre.below hb2); have R2 := Lib.hid hr2; have B2 := Lib.hid hbY2
        obtain ⟨g0, hg0⟩ : ∃ g0, g0 = w.heap.size := ⟨_, rfl⟩
        rw [← hg0] at PRE ⊢
        clear hbY hbY2 hpre hr2 hc2 hb2 hg0
        refine (rint_c tn htn w2).mono ?_
        rintro e w3 ⟨g3, rfl, hr3, hb3⟩
        have PRE := Lib.hid (PRE.out.below hb3); have R2 := Lib.hid (R2.out.below hb3); have R3 := Lib.hid hr3; have B3 := Lib.hid (B2.out.trans (hb3.mono B2.out.size))
        clear hr3 hb3
        go_wp2_with fail
        obtain ⟨V, hV⟩ : ∃ V, V = w3.alloc (.cells #[.slice (some ⟨g0, 0, none⟩) 3 3, .slice A2 nm.size c2', .slice (some ⟨g3, 0, none⟩) 8 8] 24) := ⟨_, rfl⟩
        have hbV : Below w3.heap.size w3 V := by rw [hV]; exact below_alloc (Below.refl _ _) _
        have hrow : V.heap[w3.heap.size]? = some (.cells #[.slice (some ⟨g0, 0, none⟩) 3 3, .slice A2 nm.size c2', .slice (some ⟨g3, 0, none⟩) 8 8] 24 (0, 0)) := by rw [hV]; exact blk_new _ rfl
        rw [← hV]
        have hRBs : RBs V (some ⟨w3.heap.size, 0, none⟩) [preB, nm.data.toList, Sen.be64 tn] := rbs3 (x := preB) (y := nm.data.toList) (z := Sen.be64 tn) (by rw [← Lib.size_eq]; exact hrow) (PRE.out.below hbV) (R2.out.below hbV) (R3.out.below hbV)
        have hBV : Below w.heap.size w V := B3.out.trans (hbV.mono B3.out.size)
        have hmp := ref_mac_parts_c A (some ⟨w3.heap.size, 0, none⟩) c 3 key [preB, nm.data.toList, Sen.be64 tn] V (by rw [← HN.out]; decide) (by have := HNM.out; simp [preB, Sen.be64, ← Lib.size_eq]; omega) (HA.out.below hBV) hRBs
        rw [← HN.out, ← HD.out] at hmp
        refine hmp.mono ?_
        clear hmp
        rintro e w4 ⟨rfl, hb4⟩
        have B4 := Lib.hid (hBV.trans (hb4.mono hBV.size))
        clear hV hbV hrow hBV hRBs hb4
        have hz := zero24
        have hs16 := fun W => run_sliceAt_to 75 5 32 Tryd.underlying75 rfl w4.heap.size 0 16 (by decide) W
        rw [show ((16 : Nat) : Int) = 16 from rfl] at hs16
        have hl16 : (D.take 16).length = 16 := by rw [List.length_take, DL.out]; rfl
        have HRD := Lib.hid (show RB ((w4.alloc (.cells (bvs D).toArray 75)).alloc (.cells #[] 5)) (some ⟨w4.heap.size, 0, none⟩) (D.take 16) from (rb_of_row (blk_old _ (blk_new _ rfl)) (by rw [DL.out]; decide)).take 16)
        have L16 := Lib.hid hl16
        have HOWN := Lib.hid (show Own ((w4.alloc (.cells (bvs D).toArray 75)).alloc (.cells #[] 5)) (w4.heap.size + 1) (.slice (some ⟨w4.heap.size + 1, 0, none⟩) 0 0) [] by
          have h := Own.new (w4.alloc (.cells (bvs D).toArray 75)) (w4.heap.size + 1) (by simp)
          rw [show (w4.alloc (.cells (bvs D).toArray 75)).heap.size = w4.heap.size + 1 by simp] at h
          exact h)
        clear hl16
        go_wp2_with (first | (with_reducible refine wpList_store_any rfl 75 _ _ rfl _ (bvs D) rfl rfl 75 _ (blk_new _ rfl) 32 (by kernel_rfl) HSD.out (by kernel_rfl) (bvs_one _) ?_ rfl; rw [setRow_alloc]) | (at_builtin; refine app_bytes _ _ (w4.heap.size + 1) [] (D.take 16) rfl rfl _ _ _ _ rfl rfl L16.out.symm HOWN.out HRD.out (by simp) (by rw [L16.out]; decide) ?_; intro v1 w5 ho1 hb1; rw [List.nil_append] at ho1; obtain ⟨A5, c5, rfl, hc5, hr5, hge5⟩ := ho1.reads3 (by rw [L16.out]; decide); rw [L16.out]))
        go_ret2
        refine ⟨(below_alloc (below_alloc B4.out _) _).trans (hb1.mono (by have := B4.out.size; omega)), A5, c5, by rw [show ((D.take 16, (0 : Int)) : List UInt8 × Int).1.length = 16 from L16.out]; rfl, hc5, hr5, fun ad had => ?_⟩
        have := (hge5 ad had).1
        have := B4.out.size
        omega
  · rw [if_pos (Or.inl c1)]
    have c1' : ((n : Int) != 16) = true := by simp; omega
    go_enter Tryd.func13, Tryd.ntmps13
    go_wp2
    go_ret2
    exact ProofPost.bad rfl (Below.refl _ _)
set_option maxRecDepth 100000 in
set_option maxHeartbeats 4000000 in
theorem rcheck_c (B q : Nat) (v : Value) (M : List Ent) (nm : ByteArray) (t now sk : Int) (A : Option Addr) (d : Nat) (pr : List UInt8) (w : World) (h : RbA w B q v M) (hM : M.length ≤ 1000) (hn : nm.size ≤ 1000000) (hA : RB w A pr) :
    Calls Tryd.prog 15 #[.pointer (some ⟨q, 0, none⟩), .string nm, .int .i64 t, .int .i64 now, .int .i64 sk, .slice A pr.length d] w (CheckPost w (checkS M nm t now sk pr)) := by
  have H := Lib.hid h; have HNM := Lib.hid hn; have HA := Lib.hid hA; have HM := Lib.hid hM
  have hz := zeroRPers
  have hcs : checkS M nm t now sk pr = if [t, now, sk].all okTime = false then ((0, 2) : Int × Int) else
    match findE M nm with
    | none => (6, 0)
    | some x => if (proofS x.key nm t).1 ≠ pr then (24, 0) else if sk < t - now ∨ sk < now - t then (37, 0) else (0, 0) := rfl
  obtain ⟨o, ho⟩ : ∃ o, o = checkS M nm t now sk pr := ⟨_, rfl⟩
  rw [← ho]
  rw [hcs] at ho
  have HO := Lib.hid ho
  obtain ⟨pn, hpn⟩ : ∃ n, n = pr.length := ⟨_, rfl⟩
  rw [← hpn]
  have HPN := Lib.hid hpn
  clear h hM hn hA hcs ho hpn
  cases c1 : okTime t with
  | false =>
      go_enter Tryd.func15, Tryd.ntmps15
      go_wp2_with fail
      refine (ref_time_c t w).mono ?_
      rw [c1]
      rintro e w1 ⟨rfl, rfl⟩
      go_wp2_with fail
      go_ret2
      exact CheckPost.mk (HO.out.trans (if_pos (by simp [c1]))) (Below.refl _ _)
  | true =>
    cases c2 : okTime now with
    | false =>
      go_enter Tryd.func15, Tryd.ntmps15
      go_wp2_with fail
      refine (ref_time_c t w).mono ?_
      rw [c1]
      rintro e w1 ⟨rfl, rfl⟩
      go_wp2_with fail
      refine (ref_time_c now w).mono ?_
      rw [c2]
      rintro e w1 ⟨rfl, rfl⟩
      go_wp2_with fail
      go_ret2
      exact CheckPost.mk (HO.out.trans (if_pos (by simp [c2]))) (Below.refl _ _)
    | true =>
      cases c3 : okTime sk with
      | false =>
        go_enter Tryd.func15, Tryd.ntmps15
        go_wp2_with fail
        refine (ref_time_c t w).mono ?_
        rw [c1]
        rintro e w1 ⟨rfl, rfl⟩
        go_wp2_with fail
        refine (ref_time_c now w).mono ?_
        rw [c2]
        rintro e w1 ⟨rfl, rfl⟩
        go_wp2_with fail
        refine (ref_time_c sk w).mono ?_
        rw [c3]
        rintro e w1 ⟨rfl, rfl⟩
        go_wp2_with fail
        go_ret2
        exact CheckPost.mk (HO.out.trans (if_pos (by simp [c3]))) (Below.refl _ _)
      | true =>
        have hbd : (0 ≤ t ∧ t ≤ 1099511627776) ∧ (0 ≤ now ∧ now ≤ 1099511627776) ∧ (0 ≤ sk ∧ sk ≤ 1099511627776) := ⟨of_decide_eq_true c1, of_decide_eq_true c2, of_decide_eq_true c3⟩
        obtain ⟨⟨q1, q2⟩, ⟨q3, q4⟩, q5, q6⟩ := hbd
        have HO1 := Lib.hid (HO.out.trans (if_neg (by simp [c1, c2, c3])))
        clear HO
        go_enter Tryd.func15, Tryd.ntmps15
        go_wp2_with fail
        refine (ref_time_c t w).mono ?_
        rw [c1]
        rintro e w1 ⟨rfl, rfl⟩
        go_wp2_with fail
        refine (ref_time_c now w).mono ?_
        rw [c2]
        rintro e w1 ⟨rfl, rfl⟩
        go_wp2_with fail
        refine (ref_time_c sk w).mono ?_
        rw [c3]
        rintro e w1 ⟨rfl, rfl⟩
        go_wp2_with fail
        refine (rfind_c B q v M nm w H.out HM.out).mono ?_
        intro e w3 hpost
        obtain ⟨hb3, hp1, hp2⟩ := hpost
        have B3 := Lib.hid hb3
        cases hf : findE M nm with
        | none =>
          obtain rfl := hp1 hf
          have HOF := Lib.hid (show o = (6, 0) by have := HO1.out; rw [hf] at this; exact this)
          unfold noneV persV
          clear hp1 hp2 hb3 hf HO1
          go_wp2_with fail
          go_ret2
          exact CheckPost.mk HOF.out (below_alloc B3.out _)
        | some x =>
          obtain ⟨A2, d2, rfl, hr2, _⟩ := hp2 x hf
          have hk16 : x.key.length = 16 := (H.out.keys x (List.mem_of_find?_eq_some hf)).2.1
          have HO2 := Lib.hid (show o = if (proofS x.key nm t).1 ≠ pr then (24, 0) else if sk < t - now ∨ sk < now - t then (37, 0) else (0, 0) by have := HO1.out; rw [hf] at this; exact this)
          obtain ⟨xn, xb, xc, key, fl, li, re⟩ := x
          simp only at hr2 hk16
          have R2 := Lib.hid hr2; have K16 := Lib.hid hk16
          have hpc := fun W (hW : Below w3.heap.size w3 W) => rproof_c A2 d2 key nm t W HNM.out (hr2.below hW)
          obtain ⟨⟨pb, pi⟩, hpo⟩ : ∃ po, po = proofS key nm t := ⟨_, rfl⟩
          rw [hk16, ← hpo] at hpc
          simp only
          rw [hk16]
          have HPC := Lib.hid hpc
          have HO3 := Lib.hid (show o = if pb ≠ pr then (24, 0) else if sk < t - now ∨ sk < now - t then (37, 0) else (0, 0) by have := HO2.out; simp only at this; rw [← hpo] at this; exact this)
          clear hp1 hp2 hb3 hf HO1 HO2 hr2 hk16 hpo hpc
          unfold persV
          go_wp2_with fail
          refine (HPC.out _ (below_alloc (Below.refl _ _) _)).mono ?_
          rintro e w5 ⟨hb5, A5, d5, rfl, _, hr5, _⟩
          have B5 := Lib.hid (B3.out.trans (((below_alloc (Below.refl _ _) _).trans (hb5.mono (by simp))).mono B3.out.size)); have R5 := Lib.hid hr5
          clear hb5 hr5
          go_wp2_with fail
          have hsm := same_c A5 A d5 d pb pr w5 R5.out (HA.out.below B5.out)
          rw [← HPN.out] at hsm
          refine hsm.mono ?_
          clear hsm
          rintro e w6 ⟨rfl, rfl⟩
          have hb5 := B5.out
          obtain ⟨dq, hdq⟩ : ∃ dq, dq = decide (pb = pr) := ⟨_, rfl⟩
          rw [← hdq]
          have HDQ := Lib.hid hdq
          clear hdq
          cases dq with
          | false =>
            go_wp2
            go_ret2
            exact CheckPost.mk (by rw [HO3.out, if_pos (by have := HDQ.out; simpa using this)]) hb5
          | true =>
            go_wp2
            all_goals
              go_ret2
              refine CheckPost.mk ?_ hb5
              rw [HO3.out, if_neg (by have := HDQ.out; simpa using this)]
              first | rw [if_pos (by omega)] | rw [if_neg (by omega)]
end Go.Proofs.YteplaginenhfkaaDoor
