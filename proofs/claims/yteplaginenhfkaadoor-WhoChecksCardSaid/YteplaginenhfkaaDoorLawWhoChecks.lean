/-
  The walk of the statement WhoChecks.
-/
import Derived.Test.YteplaginenhfkaaDoorWhoI
import Derived.Test.YteplaginenhfkaaDoorWhoL
import Derived.Deep.RegionHeld3
set_option linter.unusedVariables false
set_option linter.unusedSimpArgs false
namespace Go.Proofs.YteplaginenhfkaaDoor
open Go.RowKit

theorem Twins.checkS {L M : List Ent} (h : Twins L M) (nm : ByteArray) (t now sk : Int) (pr : List UInt8) : Go.Proofs.YteplaginenhfkaaDoor.checkS L nm t now sk pr = Go.Proofs.YteplaginenhfkaaDoor.checkS M nm t now sk pr := by
  have h1 := h.find nm
  unfold Go.Proofs.YteplaginenhfkaaDoor.checkS
  cases ha : findE L nm with
  | none => rw [ha] at h1; cases hb : findE M nm with
    | none => rfl
    | some y => rw [hb] at h1; cases h1
  | some x => rw [ha] at h1; cases hb : findE M nm with
    | none => rw [hb] at h1; cases h1
    | some y =>
      rw [hb] at h1
      have h2 : x.who = y.who := by injection h1
      simp only
      rw [show x.key = y.key from congrArg Who.key h2]
set_option maxRecDepth 100000 in
set_option maxHeartbeats 4000000 in
theorem law_who_checks (A : Option Addr) (c : Nat) (ps : List Pin) (s : ByteArray) (x0 x1 x2 : Int) (KA : Option Addr) (kc : Nat) (key : List UInt8) (PA : Option Addr) (pc : Nat) (pr : List UInt8) (w : World) (hl : ps.length ≤ 140737488355328) (hR : RP w A ps) (hs : s.size ≤ 140737488351232)
    (hkc : key.length ≤ kc) (hKR : RB w KA key) (hpc : pr.length ≤ pc) (hPR : RB w PA pr) (hT : Tab w) :
    Calls Tryd.prog 3 #[.slice A ps.length c, .string s, .agg #[.int .i64 x0, .int .i64 x1, .int .i64 x2], .slice KA key.length kc, .slice PA pr.length pc] w fun e w' => e = .returned (.bool true) ∧ Below w.heap.size w w' := by
  have hR1 := hR.below (below_alloc (Below.refl _ _) (.cells #[.int .i64 x0, .int .i64 x1, .int .i64 x2] 23))
  have HBC := Lib.hid (both_c A c ps (w.alloc (.cells #[.int .i64 x0, .int .i64 x1, .int .i64 x2] 23)) hl hR1)
  have B0 := Lib.hid (show Below w.heap.size w (w.alloc (.cells #[.int .i64 x0, .int .i64 x1, .int .i64 x2] 23)) from below_alloc (Below.refl _ _) _)
  have R7 := Lib.hid (show (w.alloc (.cells #[.int .i64 x0, .int .i64 x1, .int .i64 x2] 23)).heap[w.heap.size]? = some (.cells #[.int .i64 x0, .int .i64 x1, .int .i64 x2] 23 (0, 0)) from blk_new _ rfl)
  have HT := Lib.hid hT; have KR := Lib.hid hKR; have PR := Lib.hid hPR
  obtain ⟨t7, ht7⟩ : ∃ t7, t7 = w.heap.size := ⟨_, rfl⟩
  rw [← ht7] at R7
  have HT7 := Lib.hid ht7
  obtain ⟨W0, hW0⟩ : ∃ W0, W0 = w.alloc (.cells #[.int .i64 x0, .int .i64 x1, .int .i64 x2] 23) := ⟨_, rfl⟩
  rw [← hW0] at HBC B0 R7
  have HW0 := Lib.hid hW0
  obtain ⟨kn, hkn⟩ : ∃ n, n = key.length := ⟨_, rfl⟩
  obtain ⟨pn, hpn⟩ : ∃ n, n = pr.length := ⟨_, rfl⟩
  rw [← hkn, ← hpn]
  rw [← hkn] at hkc
  rw [← hpn] at hpc
  have hkn63 : kn ≤ 140737488351232 := by rw [hkn]; exact hKR.1
  have hpn63 : pn ≤ 140737488351232 := by rw [hpn]; exact hPR.1
  obtain ⟨m1, hm1⟩ : ∃ m, m = min s.size 100 := ⟨_, rfl⟩
  obtain ⟨m2, hm2⟩ : ∃ m, m = min kn 40 := ⟨_, rfl⟩
  obtain ⟨m3, hm3⟩ : ∃ m, m = min pn 40 := ⟨_, rfl⟩
  have hk1 := min_len s.size 100 100 rfl
  have hk2 := min_len kn 40 40 rfl
  have hk3 := min_len pn 40 40 rfl
  rw [← hm1] at hk1
  rw [← hm2] at hk2
  rw [← hm3] at hk3
  obtain ⟨S1, hS1⟩ : ∃ x, x = cutS s 100 := ⟨_, rfl⟩
  have hsl1 := fun W => run_slice_str s m1 (by omega) W
  rw [hm1, show s.extract 0 (min s.size 100) = S1 from hS1.symm, ← hm1] at hsl1
  have hsl2 := fun W => run_slice_to KA kn kc m2 (by omega) W
  have hsl3 := fun W => run_slice_to PA pn pc m3 (by omega) W
  obtain ⟨K2, hK2⟩ : ∃ k, k = key.take 40 := ⟨_, rfl⟩
  obtain ⟨P2, hP2⟩ : ∃ k, k = pr.take 40 := ⟨_, rfl⟩
  have KL := Lib.hid (show m2 = K2.length by rw [hK2, List.length_take, ← hkn, hm2]; omega)
  have PL := Lib.hid (show m3 = P2.length by rw [hP2, List.length_take, ← hpn, hm3]; omega)
  have KR2 := Lib.hid (show RB w KA K2 by rw [hK2]; exact hKR.take 40)
  have PR2 := Lib.hid (show RB w PA P2 by rw [hP2]; exact hPR.take 40)
  have S1L := Lib.hid (show S1.size ≤ 1000000 by rw [hS1]; have := cutS_size s 100; omega)
  have hm2' : m2 ≤ 40 := by omega
  clear hl hR hR1 hT hKR hPR hkn hpn hm1 hm2 hm3 hS1 hK2 hP2 ht7 hW0
  go_enter Tryd.func3, Tryd.ntmps3
  go_wp2_with fail
  rw [← HW0.out, ← HT7.out]
  refine HBC.out.mono ?_
  rintro e w1 ⟨p, mp, q, rfl, v, L, u, M, hx, hy, ht, hf, hLk, hb1⟩
  have BX := Lib.hid hx; have BY := Lib.hid hy; have TW := Lib.hid ht; have LK := Lib.hid hLk; have B1 := Lib.hid (B0.out.trans (hb1.mono B0.out.size))
  have R71 := Lib.hid (blk_below R7.out hb1 (Array.getElem?_eq_some_iff.1 R7.out).1)
  clear hx hy ht hf hLk hb1
  go_wp2_with fail
  go_quiet (fail)
  go_wp2_with fail
  clear hk1 hk2 hk3 hsl1 hsl2 hsl3
  obtain ⟨Z, hZ⟩ : ∃ Z, Z = w1.drewN nq := ⟨_, rfl⟩
  have hdz : Below w1.heap.size w1 Z := by rw [hZ]; exact below_drewN (Below.refl _ _) _
  have BX := Lib.hid (BX.out.below hdz); have BY := Lib.hid (BY.out.below hdz); have BZ := Lib.hid (B1.out.trans (hdz.mono B1.out.size))
  have R7 := Lib.hid (blk_below R71.out hdz (Array.getElem?_eq_some_iff.1 R71.out).1)
  rw [← hZ]
  clear hZ hdz
  have z0 : Z.cell? ⟨t7, 0, none⟩ = some (.int .i64 x0) := (cell_of_row Z t7 0 _ _ _ R7.out).trans rfl
  have HBY := Lib.hid (show ∀ W, Below Z.heap.size Z W → Calls Tryd.prog 12 #[.slice KA m2 kc] W fun e w' => ∃ A3 d3, e = .returned (.slice A3 m2 d3) ∧ RB w' A3 K2 ∧ Below Z.heap.size Z w' from fun W hW => by
    have hb := bytes_c KA kc K2 W (by rw [← KL.out]; omega) (KR2.out.below (BZ.out.trans (hW.mono BZ.out.size)))
    rw [← KL.out] at hb
    refine hb.mono ?_
    rintro e w3 ⟨v3, rfl, ho3, hb3⟩
    obtain ⟨A3, d3, rfl, _, hr3, _⟩ := ho3.reads3 (by rw [← KL.out]; omega)
    exact ⟨A3, d3, by rw [← KL.out], hr3, hW.trans (hb3.mono hW.size)⟩)
  have HPF := Lib.hid (show ∀ W A3 d3, RB W A3 K2 → Below Z.heap.size Z W → Calls Tryd.prog 11 #[.slice A3 m2 d3, .string S1, .int .i64 x0] W fun e w' => ProofPost W (proofS K2 S1 x0) e w' ∧ Below Z.heap.size Z w' from fun W A3 d3 hr hW => by
    have hp := proof_c A3 d3 K2 S1 x0 W S1L.out hr (HT.out.below (BZ.out.trans (hW.mono BZ.out.size)))
    rw [← KL.out] at hp
    refine hp.mono ?_
    intro e w' h
    exact ⟨h, hW.trans (h.1.mono hW.size)⟩)
  have hl7 : t7 < Z.heap.size := (Array.getElem?_eq_some_iff.1 R7.out).1
  have hdr : Below Z.heap.size Z Z.drew := below_drewN (Below.refl _ _) 1
  go_region_held3 (fun w' => w'.cell? ⟨t7, 0, none⟩ = some (.int .i64 x0) ∧ Below Z.heap.size Z w') (refine ⟨?_, ?_⟩ <;> first | assumption | (simp [*]; done)) (first
    | (go_at_call 12; refine (HBY.out _ hdr).mono ?_; rintro e w3 ⟨A3, d3, rfl, hr3, hb3⟩; have hc3 := (hb3.cell (p := ⟨t7, 0, none⟩) hl7).trans z0)
    | (go_at_call 11; refine (HPF.out _ A3 d3 hr3 hb3).mono ?_; rintro e w4 ⟨⟨hb4, A4, d4, rfl, hd4, hr4, hg4⟩, hz4⟩; have hc4 := (hz4.cell (p := ⟨t7, 0, none⟩) hl7).trans z0))
  obtain ⟨⟨D, de⟩, hD⟩ : ∃ x, x = proofS K2 S1 x0 := ⟨_, rfl⟩
  rw [← hD] at hr4 ⊢
  simp only at hr4
  simp only
  obtain ⟨dl, hdl⟩ : ∃ n, n = D.length := ⟨_, rfl⟩
  rw [← hdl]
  have HD := Lib.hid hD; have DL := Lib.hid hdl; have RD := Lib.hid hr4
  have BX := Lib.hid (BX.out.below hz4); have BY := Lib.hid (BY.out.below hz4); have BZ := Lib.hid (BZ.out.trans (hz4.mono BZ.out.size)); have R7 := Lib.hid (blk_below R7.out hz4 (Array.getElem?_eq_some_iff.1 R7.out).1)
  clear hD hdl hr4 hz4 hb4 hd4 hg4 hr3 hb3 hc3 hc4 hdr hl7 z0 HBY HPF
  have z0 : w4.cell? ⟨t7, 0, none⟩ = some (.int .i64 x0) := (cell_of_row w4 t7 0 _ _ _ R7.out).trans rfl
  have z1 : w4.cell? ⟨t7, 1, none⟩ = some (.int .i64 x1) := (cell_of_row w4 t7 1 _ _ _ R7.out).trans rfl
  have z2 : w4.cell? ⟨t7, 2, none⟩ = some (.int .i64 x2) := (cell_of_row w4 t7 2 _ _ _ R7.out).trans rfl
  go_wp2_with fail
  have hp := rproof_c KA kc K2 S1 x0 w4 S1L.out (KR2.out.below BZ.out)
  rw [← KL.out, ← HD.out] at hp
  refine hp.mono ?_
  clear hp z0 z1 z2
  rintro e w5 ⟨hb5, A5, d5, rfl, _, hr5, _⟩
  have RE := Lib.hid (show RB w5 A5 D from hr5)
  simp only
  rw [← DL.out]
  have BX := Lib.hid (BX.out.below hb5); have BY := Lib.hid (BY.out.below hb5); have BZ := Lib.hid (BZ.out.trans (hb5.mono BZ.out.size)); have R7 := Lib.hid (blk_below R7.out hb5 (Array.getElem?_eq_some_iff.1 R7.out).1)
  have RD := Lib.hid (RD.out.below hb5)
  clear hb5 hr5
  have z0 : w5.cell? ⟨t7, 0, none⟩ = some (.int .i64 x0) := (cell_of_row w5 t7 0 _ _ _ R7.out).trans rfl
  have z1 : w5.cell? ⟨t7, 1, none⟩ = some (.int .i64 x1) := (cell_of_row w5 t7 1 _ _ _ R7.out).trans rfl
  have z2 : w5.cell? ⟨t7, 2, none⟩ = some (.int .i64 x2) := (cell_of_row w5 t7 2 _ _ _ R7.out).trans rfl
  go_wp2_with fail
  have hk := check_c _ p mp v L S1 x0 x1 x2 PA pc P2 w5 BX.out S1L.out (PR2.out.below BZ.out) (HT.out.below BZ.out)
  obtain ⟨o1, ho1⟩ : ∃ x, x = checkS L S1 x0 x1 x2 P2 := ⟨_, rfl⟩
  have Qo1 := Lib.hid ho1
  clear ho1
  rw [← Qo1.out, ← PL.out] at hk
  refine hk.mono ?_
  clear hk z0 z1 z2
  rintro e w6 ⟨rfl, hb⟩
  have BX := Lib.hid (BX.out.below hb); have BY := Lib.hid (BY.out.below hb); have BZ := Lib.hid (BZ.out.trans (hb.mono BZ.out.size)); have R7 := Lib.hid (blk_below R7.out hb (Array.getElem?_eq_some_iff.1 R7.out).1)
  have RD := Lib.hid (RD.out.below hb)
  have RE := Lib.hid (RE.out.below hb)
  clear hb
  have z0 : w6.cell? ⟨t7, 0, none⟩ = some (.int .i64 x0) := (cell_of_row w6 t7 0 _ _ _ R7.out).trans rfl
  have z1 : w6.cell? ⟨t7, 1, none⟩ = some (.int .i64 x1) := (cell_of_row w6 t7 1 _ _ _ R7.out).trans rfl
  have z2 : w6.cell? ⟨t7, 2, none⟩ = some (.int .i64 x2) := (cell_of_row w6 t7 2 _ _ _ R7.out).trans rfl
  go_wp2_with fail
  have hk := rcheck_c _ q u M S1 x0 x1 x2 PA pc P2 w6 BY.out (by have := LK.out; have := TW.out.length; omega) S1L.out (PR2.out.below BZ.out)
  rw [← TW.out.checkS] at hk
  rw [← Qo1.out, ← PL.out] at hk
  refine hk.mono ?_
  clear hk z0 z1 z2
  rintro e w7 ⟨rfl, hb⟩
  have BX := Lib.hid (BX.out.below hb); have BY := Lib.hid (BY.out.below hb); have BZ := Lib.hid (BZ.out.trans (hb.mono BZ.out.size)); have R7 := Lib.hid (blk_below R7.out hb (Array.getElem?_eq_some_iff.1 R7.out).1)
  have RD := Lib.hid (RD.out.below hb)
  have RE := Lib.hid (RE.out.below hb)
  clear hb
  have z0 : w7.cell? ⟨t7, 0, none⟩ = some (.int .i64 x0) := (cell_of_row w7 t7 0 _ _ _ R7.out).trans rfl
  have z1 : w7.cell? ⟨t7, 1, none⟩ = some (.int .i64 x1) := (cell_of_row w7 t7 1 _ _ _ R7.out).trans rfl
  have z2 : w7.cell? ⟨t7, 2, none⟩ = some (.int .i64 x2) := (cell_of_row w7 t7 2 _ _ _ R7.out).trans rfl
  go_wp2_with fail
  have hk := check_c _ p mp v L S1 x0 x1 x2 A4 d4 D w7 BX.out S1L.out RD.out (HT.out.below BZ.out)
  obtain ⟨o2, ho2⟩ : ∃ x, x = checkS L S1 x0 x1 x2 D := ⟨_, rfl⟩
  have Qo2 := Lib.hid ho2
  clear ho2
  rw [← Qo2.out, ← DL.out] at hk
  refine hk.mono ?_
  clear hk z0 z1 z2
  rintro e w8 ⟨rfl, hb⟩
  have BX := Lib.hid (BX.out.below hb); have BY := Lib.hid (BY.out.below hb); have BZ := Lib.hid (BZ.out.trans (hb.mono BZ.out.size)); have R7 := Lib.hid (blk_below R7.out hb (Array.getElem?_eq_some_iff.1 R7.out).1)
  have RD := Lib.hid (RD.out.below hb)
  have RE := Lib.hid (RE.out.below hb)
  clear hb
  have z0 : w8.cell? ⟨t7, 0, none⟩ = some (.int .i64 x0) := (cell_of_row w8 t7 0 _ _ _ R7.out).trans rfl
  have z1 : w8.cell? ⟨t7, 1, none⟩ = some (.int .i64 x1) := (cell_of_row w8 t7 1 _ _ _ R7.out).trans rfl
  have z2 : w8.cell? ⟨t7, 2, none⟩ = some (.int .i64 x2) := (cell_of_row w8 t7 2 _ _ _ R7.out).trans rfl
  go_wp2_with fail
  have hk := rcheck_c _ q u M S1 x0 x1 x2 A5 d5 D w8 BY.out (by have := LK.out; have := TW.out.length; omega) S1L.out RE.out
  rw [← TW.out.checkS] at hk
  rw [← Qo2.out, ← DL.out] at hk
  refine hk.mono ?_
  clear hk z0 z1 z2
  rintro e w9 ⟨rfl, hb⟩
  have BX := Lib.hid (BX.out.below hb); have BY := Lib.hid (BY.out.below hb); have BZ := Lib.hid (BZ.out.trans (hb.mono BZ.out.size)); have R7 := Lib.hid (blk_below R7.out hb (Array.getElem?_eq_some_iff.1 R7.out).1)
  have RD := Lib.hid (RD.out.below hb)
  have RE := Lib.hid (RE.out.below hb)
  clear hb
  go_wp2_with fail
  have hsm := same_c A4 A5 d4 d5 D D w9 RD.out RE.out
  rw [← DL.out, decide_eq_true rfl] at hsm
  refine hsm.mono ?_
  clear hsm
  rintro e w' ⟨rfl, rfl⟩
  go_wp2_with fail
  refine (works_c19 w9 (HT.out.below BZ.out)).mono ?_
  rintro e wa ⟨rfl, hb⟩
  have BZ := Lib.hid (BZ.out.trans (hb.mono BZ.out.size))
  clear hb
  go_wp2_with fail
  go_ret
  exact ⟨rfl, BZ.out⟩
end Go.Proofs.YteplaginenhfkaaDoor
