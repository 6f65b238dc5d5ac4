/-
  The walk of the statement WhoProves.
-/
import Derived.Test.YteplaginenhfkaaDoorWhoC
set_option linter.unusedVariables false
set_option linter.unusedSimpArgs false
namespace Go.Proofs.YteplaginenhfkaaDoor
open Go.RowKit

def nmA : ByteArray := ⟨#[97, 110, 110, 97]⟩
def nmB : ByteArray := ⟨#[98, 101, 114, 116, 97]⟩
theorem okA : okName nmA = true := by decide
theorem okB : okName nmB = true := by decide
/-- A proof that is made. -/
theorem proof_ok (A : Option Addr) (c : Nat) (key : List UInt8) (nm : ByteArray) (t : Nat) (w : World) (hk : key.length = 16) (ho : okName nm = true) (ht : t < 1000) (hn : nm.size ≤ 1000000) (hA : RB w A key) (hT : Tab w) (D : List UInt8) (hD : D = (proofS key nm (t : Int)).1) :
    D.length = 16 ∧ Calls Tryd.prog 11 #[.slice A 16 c, .string nm, .int .i64 (t : Int)] w fun e w' => ∃ A c, e = .returned (.tuple #[.slice A 16 c, .int .i64 0]) ∧ RB w' A D ∧ Below w.heap.size w w' := by
  have hpc := proof_c A c key nm (t : Int) w hn hA hT
  have h0 : ¬ (key.length ≠ 16 ∨ okName nm = false ∨ okTime (t : Int) = false) := by
    rintro (h | h | h)
    · exact h hk
    · rw [ho] at h; cases h
    · simp [okTime] at h; omega
  have hDl : D.length = 16 := by
    rw [hD]
    unfold proofS
    rw [if_neg h0]
    show (List.take 16 _).length = 16
    rw [List.length_take, Sen.hmac_length]
    rfl
  have hpe : proofS key nm (t : Int) = (D, 0) := by
    rw [hD]
    unfold proofS
    rw [if_neg h0]
  rw [hpe, hk] at hpc
  refine ⟨hDl, hpc.mono ?_⟩
  rintro e w8 ⟨hb8, A8, c8, rfl, hc8, hr8, ha8⟩
  refine ⟨A8, c8, ?_, hr8, hb8⟩
  rw [show ((D, (0 : Int)) : List UInt8 × Int).1.length = 16 from hDl]
def eqC (a b : List UInt8) : Int := if a = b then 0 else 24
theorem check_at {L : List Ent} {nm : ByteArray} {t : Nat} {x : Ent} {M pr : List UInt8} (h : findE L nm = some x) (ht : t < 1000) (hM : M = (proofS x.key nm (t : Int)).1) : checkS L nm t t 0 pr = (eqC M pr, 0) := by
  unfold checkS eqC
  rw [if_neg (by simp [okTime]; omega), h]
  simp only
  rw [← hM]
  by_cases e : M = pr
  · rw [if_neg (by simpa using e), if_pos e, if_neg (by omega)]
  · rw [if_pos e, if_neg e]
theorem eqC_is (a b : List UInt8) (z : Int) (h : z = eqC a b) : (z == 0) = decide (b = a) := by
  subst h
  unfold eqC
  by_cases e : a = b
  · rw [if_pos e]; simp [e]
  · rw [if_neg e]
    have : ¬ b = a := fun h => e h.symm
    simp [this]
theorem check_no {L : List Ent} {nm : ByteArray} {t : Nat} {pr : List UInt8} (h : findE L nm = none) (ht : t < 1000) : checkS L nm t t 0 pr = (6, 0) := by
  unfold checkS
  rw [if_neg (by simp [okTime]; omega), h]
set_option maxRecDepth 100000 in
set_option maxHeartbeats 4000000 in
theorem law_who_proves (u : UInt8) (x y : Int) (A : Option Addr) (d : Nat) (pr : List UInt8) (w : World) (hpl : pr.length ≤ d) (hR : RB w A pr) (hT : Tab w) :
    Calls Tryd.prog 6 #[.int .u8 ((u.toNat : Nat) : Int), .int .i64 x, .int .i64 y, .slice A pr.length d] w fun e w' => e = .returned (.bool true) ∧ Below w.heap.size w w' := by
  have HW := Lib.hid (works_c19 w hT)
  have HT := Lib.hid hT; have HR := Lib.hid hR
  obtain ⟨z, hz⟩ : ∃ z : Int, z = ((u.toNat : Nat) : Int) := ⟨_, rfl⟩
  rw [← hz]
  have HZ := Lib.hid hz
  obtain ⟨N, hN⟩ : ∃ N, N = pr.length := ⟨_, rfl⟩
  rw [← hN]
  have HN := Lib.hid hN
  clear hT hR hz hN hpl
  have hzp := zeroPers
  go_enter Tryd.func6, Tryd.ntmps6
  go_wp2_with fail
  refine HW.out.mono ?_
  rintro e w1 ⟨rfl, hb1⟩
  have B1 := Lib.hid hb1
  clear hb1
  go_wp2_with fail
  refine (make_c w1).mono ?_
  rintro e w2 ⟨rfl, hw1⟩
  obtain ⟨p, hp⟩ : ∃ p, p = w1.heap.size + 1 := ⟨_, rfl⟩
  rw [← hp]
  have hbk := bk_make w1
  rw [← hw1, ← hp] at hbk
  have BK2 := Lib.hid hbk
  have H2 := Lib.hid (show Below w1.heap.size w1 w2 by rw [hw1]; exact below_alloc (below_alloc (Below.refl _ _) _) _)
  clear hbk hw1 hp
  go_wp2_with fail
  refine (among_c x 1000 (by decide) (by decide) _).mono ?_
  rintro e w2' ⟨t, ht, rfl, rfl⟩
  go_wp2_with fail
  refine (among_c y 1000 (by decide) (by decide) _).mono ?_
  rintro e w2' ⟨t2, ht2, rfl, rfl⟩
  go_wp2_with fail
  rw [HZ.out]
  refine (person_c nmA u 1 10 10 w2).mono ?_
  rintro e w3 ⟨g1, rfl, hr1, hg1, hb1⟩
  rw [← HZ.out]
  have R3 := Lib.hid hr1; have H3 := Lib.hid (H2.out.trans (hb1.mono H2.out.size)); have BK3 := Lib.hid (BK2.out.below hb1)
  unfold persV
  have HG1 := Lib.hid hg1
  clear hr1 hg1 hb1
  go_wp2_with fail
  obtain ⟨X3, hX3⟩ : ∃ X, X = w3.alloc (.cells #[.string nmA, .slice (some ⟨g1, 0, none⟩) 16 16, .int .i64 1, .int .i64 10, .int .i64 10] 50) := ⟨_, rfl⟩
  obtain ⟨t10, ht10⟩ : ∃ t10, t10 = w3.heap.size := ⟨_, rfl⟩
  have hbX : Below w3.heap.size w3 X3 := by rw [hX3]; exact below_alloc (Below.refl _ _) _
  have hrX : X3.heap[t10]? = some (.cells #[.string nmA, .slice (some ⟨g1, 0, none⟩) 16 16, .int .i64 1, .int .i64 10, .int .i64 10] 50 (0, 0)) := by rw [hX3, ht10]; exact blk_new _ rfl
  have R3X := Lib.hid (R3.out.below hbX); have BKX := Lib.hid (BK3.out.below hbX); have HX := Lib.hid (H3.out.trans (hbX.mono H3.out.size))
  rw [← hX3, ← ht10]
  have hlt := BK3.out.lt
  have hg1 := HG1.out
  have ht1 : t10 ≠ p ∧ t10 ≠ w1.heap.size := by omega
  have hgp : g1 ≠ p ∧ g1 ≠ w1.heap.size := by have := BK2.out.lt; omega
  have hns : ∀ k, (k ≠ p ∧ k ≠ w1.heap.size) → ¬ bookS p w1.heap.size (.slice none 0 0) k := by
    rintro k ⟨h1, h2⟩ (h | h | h)
    · exact h1 h
    · exact h2 h
    · cases h
  have NS1 := Lib.hid (hns t10 ht1); have NS2 := Lib.hid (hns g1 hgp)
  have RX3 := Lib.hid hrX
  clear hX3 ht10 hbX hrX hlt hg1 ht1 hgp hns
  refine (add_c w1.heap.size p w1.heap.size _ [] nmA (some ⟨g1, 0, none⟩) 16 (List.replicate 16 u) 1 10 10 X3 BKX.out HX.out.size (by decide) (by simp) R3X.out (by decide)).mono ?_
  intro e w4 hpost
  obtain ⟨rfl, ho4, v4, k1, c1, hk1, hbk4⟩ := hpost.good (add_one nmA _ 1 10 10 okA (by simp) (by decide) (by decide) (by decide) [] rfl (by decide))
  obtain ⟨E1, hE1⟩ : ∃ E : Ent, E = ⟨nmA, k1, c1, List.replicate 16 u, 1, 10, 10⟩ := ⟨_, rfl⟩
  rw [← hE1, List.nil_append] at hbk4
  have HE1 := Lib.hid hE1; have BK4 := Lib.hid hbk4; have H4 := Lib.hid (BKX.out.stays ho4 HX.out HX.out.size)
  have RX4 := Lib.hid (ho4.blk RX3.out NS1.out)
  have R4 := Lib.hid (R3X.out.onlyS ho4 (fun ad had => by injection had with had; subst had; exact NS2.out))
  have F1 := Lib.hid (show findE [E1] nmA = some E1 by rw [hE1]; rfl)
  have F2 := Lib.hid (show findE [E1] nmB = none by rw [hE1]; rfl)
  have EK := Lib.hid (show E1.key = List.replicate 16 u by rw [hE1])
  clear hpost ho4 hk1 hbk4 hE1
  have y1 := cell_of_row w4 t10 1 _ _ _ RX4.out
  simp at y1
  obtain ⟨Dm, hDm⟩ : ∃ D, D = (proofS (List.replicate 16 u) nmA (t : Int)).1 := ⟨_, rfl⟩
  obtain ⟨Dh, hDh⟩ : ∃ D, D = (proofS (List.replicate 16 u) nmA (t2 : Int)).1 := ⟨_, rfl⟩
  obtain ⟨Df, hDf⟩ : ∃ D, D = (proofS (List.replicate 16 u) nmB (t : Int)).1 := ⟨_, rfl⟩
  have HDm := Lib.hid hDm; have HDh := Lib.hid hDh; have HDf := Lib.hid hDf
  clear hDm hDh hDf
  have RX := Lib.hid RX4.out; have R_w4 := Lib.hid R4.out; have BK := Lib.hid BK4.out; have HH := Lib.hid H4.out
  have T_w4 := Lib.hid (HT.out.below (B1.out.trans (HH.out.mono B1.out.size)))
  go_wp2_with fail
  obtain ⟨hlDm, hpc⟩ := proof_ok (some ⟨g1, 0, none⟩) 16 (List.replicate 16 u) nmA t w4 (by simp) okA ht (by decide) R_w4.out (T_w4.out) Dm HDm.out
  refine hpc.mono ?_
  rintro e w5 ⟨ADm, cDm, rfl, hr, hb⟩
  have LDm := Lib.hid hlDm; have S_Dm := Lib.hid hr
  have RX := Lib.hid (blk_below RX.out hb (Array.getElem?_eq_some_iff.1 RX.out).1)
  have R_w5 := Lib.hid (R_w4.out.below hb); have BK := Lib.hid (BK.out.below hb); have HH := Lib.hid (HH.out.trans (hb.mono HH.out.size))
  have T_w5 := Lib.hid (HT.out.below (B1.out.trans (HH.out.mono B1.out.size)))
  clear hpc hlDm hr hb
  have y1 := cell_of_row w5 t10 1 _ _ _ RX.out
  simp at y1
  go_wp2_with fail
  obtain ⟨hlDh, hpc⟩ := proof_ok (some ⟨g1, 0, none⟩) 16 (List.replicate 16 u) nmA t2 w5 (by simp) okA ht2 (by decide) R_w5.out (T_w5.out) Dh HDh.out
  refine hpc.mono ?_
  rintro e w6 ⟨ADh, cDh, rfl, hr, hb⟩
  have LDh := Lib.hid hlDh; have S_Dh := Lib.hid hr
  have RX := Lib.hid (blk_below RX.out hb (Array.getElem?_eq_some_iff.1 RX.out).1)
  have R_w6 := Lib.hid (R_w5.out.below hb); have BK := Lib.hid (BK.out.below hb); have HH := Lib.hid (HH.out.trans (hb.mono HH.out.size))
  have T_w6 := Lib.hid (HT.out.below (B1.out.trans (HH.out.mono B1.out.size)))
  have S_Dm := Lib.hid (S_Dm.out.below hb)
  clear hpc hlDh hr hb
  have y1 := cell_of_row w6 t10 1 _ _ _ RX.out
  simp at y1
  go_wp2_with fail
  obtain ⟨hlDf, hpc⟩ := proof_ok (some ⟨g1, 0, none⟩) 16 (List.replicate 16 u) nmB t w6 (by simp) okB ht (by decide) R_w6.out (T_w6.out) Df HDf.out
  refine hpc.mono ?_
  rintro e w7 ⟨ADf, cDf, rfl, hr, hb⟩
  have LDf := Lib.hid hlDf; have S_Df := Lib.hid hr
  have RX := Lib.hid (blk_below RX.out hb (Array.getElem?_eq_some_iff.1 RX.out).1)
  have R_w7 := Lib.hid (R_w6.out.below hb); have BK := Lib.hid (BK.out.below hb); have HH := Lib.hid (HH.out.trans (hb.mono HH.out.size))
  have T_w7 := Lib.hid (HT.out.below (B1.out.trans (HH.out.mono B1.out.size)))
  have S_Dm := Lib.hid (S_Dm.out.below hb)
  have S_Dh := Lib.hid (S_Dh.out.below hb)
  clear hpc hlDf hr hb
  have y1 := cell_of_row w7 t10 1 _ _ _ RX.out
  simp at y1
  go_wp2_with fail
  clear y1
  have RP := Lib.hid (HR.out.below (B1.out.trans (HH.out.mono B1.out.size)))
  have hk := check_c w1.heap.size p w1.heap.size _ [E1] nmA t t 0 ADh cDh Dh w7 BK.out (by decide) S_Dh.out T_w7.out
  rw [check_at F1.out ht (HDm.out.trans (by rw [EK.out])), LDh.out] at hk
  refine hk.mono ?_
  clear hk
  rintro e w8 ⟨rfl, hb⟩
  have BK := Lib.hid (BK.out.below hb); have HH := Lib.hid (HH.out.trans (hb.mono HH.out.size))
  have T_w8 := Lib.hid (HT.out.below (B1.out.trans (HH.out.mono B1.out.size)))
  have S_Dm := Lib.hid (S_Dm.out.below hb); have S_Dh := Lib.hid (S_Dh.out.below hb); have S_Df := Lib.hid (S_Df.out.below hb); have RP := Lib.hid (RP.out.below hb)
  clear hb
  simp only
  obtain ⟨ca, hca⟩ : ∃ z, z = eqC Dm Dh := ⟨_, rfl⟩
  rw [← hca]
  have Qca := Lib.hid hca
  clear hca
  go_wp2_with fail
  have hk := check_c w1.heap.size p w1.heap.size _ [E1] nmA t t 0 ADf cDf Df w8 BK.out (by decide) S_Df.out T_w8.out
  rw [check_at F1.out ht (HDm.out.trans (by rw [EK.out])), LDf.out] at hk
  refine hk.mono ?_
  clear hk
  rintro e w9 ⟨rfl, hb⟩
  have BK := Lib.hid (BK.out.below hb); have HH := Lib.hid (HH.out.trans (hb.mono HH.out.size))
  have T_w9 := Lib.hid (HT.out.below (B1.out.trans (HH.out.mono B1.out.size)))
  have S_Dm := Lib.hid (S_Dm.out.below hb); have S_Dh := Lib.hid (S_Dh.out.below hb); have S_Df := Lib.hid (S_Df.out.below hb); have RP := Lib.hid (RP.out.below hb)
  clear hb
  simp only
  obtain ⟨cc, hcc⟩ : ∃ z, z = eqC Dm Df := ⟨_, rfl⟩
  rw [← hcc]
  have Qcc := Lib.hid hcc
  clear hcc
  go_wp2_with fail
  have hk := check_c w1.heap.size p w1.heap.size _ [E1] nmA t t 0 A d pr w9 BK.out (by decide) RP.out T_w9.out
  rw [check_at F1.out ht (HDm.out.trans (by rw [EK.out])), ← HN.out] at hk
  refine hk.mono ?_
  clear hk
  rintro e w10 ⟨rfl, hb⟩
  have BK := Lib.hid (BK.out.below hb); have HH := Lib.hid (HH.out.trans (hb.mono HH.out.size))
  have T_w10 := Lib.hid (HT.out.below (B1.out.trans (HH.out.mono B1.out.size)))
  have S_Dm := Lib.hid (S_Dm.out.below hb); have S_Dh := Lib.hid (S_Dh.out.below hb); have S_Df := Lib.hid (S_Df.out.below hb); have RP := Lib.hid (RP.out.below hb)
  clear hb
  simp only
  obtain ⟨cd, hcd⟩ : ∃ z, z = eqC Dm pr := ⟨_, rfl⟩
  rw [← hcd]
  have Qcd := Lib.hid hcd
  clear hcd
  go_wp2_with fail
  have hk := check_c w1.heap.size p w1.heap.size _ [E1] nmB t t 0 ADf cDf Df w10 BK.out (by decide) S_Df.out T_w10.out
  rw [check_no F2.out ht, LDf.out] at hk
  refine hk.mono ?_
  clear hk
  rintro e w11 ⟨rfl, hb⟩
  have BK := Lib.hid (BK.out.below hb); have HH := Lib.hid (HH.out.trans (hb.mono HH.out.size))
  have T_w11 := Lib.hid (HT.out.below (B1.out.trans (HH.out.mono B1.out.size)))
  have S_Dm := Lib.hid (S_Dm.out.below hb); have S_Dh := Lib.hid (S_Dh.out.below hb); have S_Df := Lib.hid (S_Df.out.below hb); have RP := Lib.hid (RP.out.below hb)
  clear hb
  simp only
  go_wp2_with fail
  have hk := check_c w1.heap.size p w1.heap.size _ [E1] nmA t t 0 ADm cDm Dm w11 BK.out (by decide) S_Dm.out T_w11.out
  rw [check_at F1.out ht (HDm.out.trans (by rw [EK.out])), show eqC Dm Dm = 0 from if_pos rfl, LDm.out] at hk
  refine hk.mono ?_
  clear hk
  rintro e w12 ⟨rfl, hb⟩
  have BK := Lib.hid (BK.out.below hb); have HH := Lib.hid (HH.out.trans (hb.mono HH.out.size))
  have T_w12 := Lib.hid (HT.out.below (B1.out.trans (HH.out.mono B1.out.size)))
  have S_Dm := Lib.hid (S_Dm.out.below hb); have S_Dh := Lib.hid (S_Dh.out.below hb); have S_Df := Lib.hid (S_Df.out.below hb); have RP := Lib.hid (RP.out.below hb)
  clear hb
  simp only
  obtain ⟨qa, hqa⟩ : ∃ q, q = decide (Dh = Dm) := ⟨_, rfl⟩
  have eqa : (ca == 0) = qa := by rw [hqa]; exact eqC_is _ _ _ Qca.out
  have Hqa := Lib.hid hqa
  clear hqa
  obtain ⟨qc, hqc⟩ : ∃ q, q = decide (Df = Dm) := ⟨_, rfl⟩
  have eqc : (cc == 0) = qc := by rw [hqc]; exact eqC_is _ _ _ Qcc.out
  have Hqc := Lib.hid hqc
  clear hqc
  obtain ⟨qd, hqd⟩ : ∃ q, q = decide (pr = Dm) := ⟨_, rfl⟩
  have eqd : (cd == 0) = qd := by rw [hqd]; exact eqC_is _ _ _ Qcd.out
  have Hqd := Lib.hid hqd
  clear hqd
  have hx1 : ∀ b : Bool, (b == b) = true := fun b => by cases b <;> rfl
  go_wp2_with fail
  have hs := same_c ADh ADm cDh cDm Dh Dm w12 S_Dh.out S_Dm.out
  rw [LDh.out, LDm.out, ← Hqa.out] at hs
  refine hs.mono ?_
  clear hs
  rintro e w' ⟨rfl, rfl⟩
  go_wp2_with fail
  have hs := same_c ADf ADm cDf cDm Df Dm w12 S_Df.out S_Dm.out
  rw [LDf.out, LDm.out, ← Hqc.out] at hs
  refine hs.mono ?_
  clear hs
  rintro e w' ⟨rfl, rfl⟩
  go_wp2_with fail
  have hs := same_c A ADm d cDm pr Dm w12 RP.out S_Dm.out
  rw [← HN.out, LDm.out, ← Hqd.out] at hs
  refine hs.mono ?_
  clear hs
  rintro e w' ⟨rfl, rfl⟩
  go_wp2_with fail
  go_ret
  exact ⟨rfl, B1.out.trans (HH.out.mono B1.out.size)⟩
end Go.Proofs.YteplaginenhfkaaDoor
