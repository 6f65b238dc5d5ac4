/-
  who: the chapter's example (works).
-/
import Derived.Test.YteplaginenhfkaaDoorWhoB
set_option linter.unusedVariables false
set_option linter.unusedSimpArgs false
namespace Go.Proofs.YteplaginenhfkaaDoor
open Go.RowKit

theorem bk_make (w : World) : BkA ((w.alloc (.map #[] 0)).alloc (.cells #[.map (some w.heap.size), .slice none 0 0] 66)) w.heap.size (w.heap.size + 1) w.heap.size (.slice none 0 0) [] :=
  ⟨blk_new _ (by simp), blk_old _ (blk_new _ rfl), World.ownsRow_nil _ _ _ 1, fun _ => rfl, (fun e he => by cases he), by omega, Nat.le_refl _⟩
theorem BkA.stays {w0 w1 w2 : World} {B p mp : Nat} {v : Value} {L : List Ent} (h : BkA w1 B p mp v L) (ho : OnlyS (bookS p mp v) w1 w2) (hb : Below B w0 w1) (hB : B ≤ w1.heap.size) : Below B w0 w2 :=
  OnlyS.below hb ho (fun k hk => by
    rcases hk with rfl | rfl | hk
    · exact h.hp
    · exact h.hm
    · exact (h.names_ne k hk).2.2.1) hB
def AddOk (w : World) (B p mp : Nat) (v : Value) (L : List Ent) (nm : ByteArray) (key : List UInt8) (fl li re : Int) (e : Ending) (w' : World) : Prop :=
  e = .returned (.int .i64 0) ∧ OnlyS (bookS p mp v) w w' ∧ ∃ v' blk cap, w.heap.size ≤ blk ∧ BkA w' B p mp v' (L ++ [⟨nm, blk, cap, key, fl, li, re⟩])
theorem AddPost.good {w w' : World} {B p mp : Nat} {v : Value} {L : List Ent} {nm : ByteArray} {key : List UInt8} {fl li re : Int} {e : Ending} (h : AddPost w B p mp v L nm key fl li re e w') (h0 : addS L nm key.length fl li re = 0) : AddOk w B p mp v L nm key fl li re e w' :=
  ⟨by rw [← h0]; exact h.1, h.2.1, h.2.2.2 h0⟩
def nmC : ByteArray := ⟨#[99]⟩
def nmS : ByteArray := ⟨#[115]⟩
theorem okC : okName nmC = true := by decide
theorem okS : okName nmS = true := by decide
theorem add_one (nm : ByteArray) (n : Nat) (fl li re : Int) (h1 : okName nm = true) (h2 : n = 16) (h3 : 0 ≤ fl ∧ fl ≤ 15) (h4 : 1 ≤ li ∧ li ≤ 1099511627776) (h5 : 1 ≤ re ∧ re ≤ 1099511627776) (L : List Ent) (hf : findE L nm = none) (hl : L.length ≤ 100) : addS L nm n fl li re = 0 := by
  rw [addS_ok L nm n fl li re h1 h2 ?_, hf, if_neg (by decide), if_neg (by omega)]
  rintro (h | h | h | h | h)
  · omega
  · omega
  · omega
  · omega
  · simp [okTime] at h
    omega
theorem field_key (s : ByteArray) (A : Option Addr) (n c : Nat) (fl li re : Int) (w : World) : (Instr.field 50 (.agg #[.string s, .slice A n c, .int .i64 fl, .int .i64 li, .int .i64 re]) 1).run Tryd.prog w = .ok (.slice A n c) w := by kernel_rfl
theorem grant_works : grantK ⟨1, 100, 100⟩ ⟨2, 60, 100⟩ nmC nmS 0 0 0 0 5 = (⟨nmC, nmS, 5, 65, 0, 0⟩, 0, 0) := by kernel_rfl
set_option maxRecDepth 100000 in
set_option maxHeartbeats 4000000 in
theorem works_c19 (w : World) (hT : Tab w) : Calls Tryd.prog 17 #[] w fun e w' => e = .returned (.bool true) ∧ Below w.heap.size w w' := by
  have HT := Lib.hid hT
  clear hT
  have hzt := zeroTick
  have hfk := field_key
  go_enter Tryd.func17, Tryd.ntmps17
  go_wp2_with fail
  refine (make_c w).mono ?_
  rintro e w1 ⟨rfl, hw1⟩
  obtain ⟨p, hp⟩ : ∃ p, p = w.heap.size + 1 := ⟨_, rfl⟩
  rw [← hp]
  have hbk := bk_make w
  rw [← hw1, ← hp] at hbk
  have BK1 := Lib.hid hbk
  have B1 := Lib.hid (show Below w.heap.size w w1 by rw [hw1]; exact below_alloc (below_alloc (Below.refl _ _) _) _)
  clear hbk hw1 hp
  go_wp2_with fail
  refine (person_c nmC 1 1 100 100 w1).mono ?_
  rintro e w2 ⟨g1, rfl, hr1, hg1, hb1⟩
  have R1 := Lib.hid hr1; have B2 := Lib.hid (B1.out.trans (hb1.mono B1.out.size)); have BK2 := Lib.hid (BK1.out.below hb1)
  clear hr1 hg1 hb1
  go_wp2_with fail
  refine (add_c w.heap.size p w.heap.size _ [] nmC (some ⟨g1, 0, none⟩) 16 (List.replicate 16 1) 1 100 100 w2 BK2.out B2.out.size (by decide) (by decide) R1.out (by decide)).mono ?_
  intro e w3 hpost
  obtain ⟨rfl, ho3, v3, k1, c1, hk1, hbk3⟩ := hpost.good (add_one nmC _ 1 100 100 okC rfl (by decide) (by decide) (by decide) [] rfl (by decide))
  obtain ⟨E1, hE1⟩ : ∃ E : Ent, E = ⟨nmC, k1, c1, List.replicate 16 1, 1, 100, 100⟩ := ⟨_, rfl⟩
  rw [← hE1, List.nil_append] at hbk3
  have HE1 := Lib.hid hE1; have BK3 := Lib.hid hbk3; have B3 := Lib.hid (BK2.out.stays ho3 B2.out B2.out.size)
  clear hpost ho3 hk1 hbk3 hE1
  go_wp2_with fail
  refine (person_c nmS 2 2 60 100 w3).mono ?_
  rintro e w4 ⟨g2, rfl, hr1, hg1, hb1⟩
  have R2 := Lib.hid hr1; have B4 := Lib.hid (B3.out.trans (hb1.mono B3.out.size)); have BK4 := Lib.hid (BK3.out.below hb1)
  clear hr1 hg1 hb1
  go_wp2_with fail
  refine (add_c w.heap.size p w.heap.size _ [E1] nmS (some ⟨g2, 0, none⟩) 16 (List.replicate 16 2) 2 60 100 w4 BK4.out B4.out.size (by decide) (by decide) R2.out (by simp)).mono ?_
  intro e w5 hpost
  obtain ⟨rfl, ho5, v5, k2, c2, hk2, hbk5⟩ := hpost.good (add_one nmS _ 2 60 100 okS rfl (by decide) (by decide) (by decide) [E1] (by rw [HE1.out]; rfl) (by simp))
  obtain ⟨E2, hE2⟩ : ∃ E : Ent, E = ⟨nmS, k2, c2, List.replicate 16 2, 2, 60, 100⟩ := ⟨_, rfl⟩
  rw [← hE2, show [E1] ++ [E2] = [E1, E2] from rfl] at hbk5
  have HE2 := Lib.hid hE2; have BK5 := Lib.hid hbk5; have B5 := Lib.hid (BK4.out.stays ho5 B4.out B4.out.size)
  have F1 := Lib.hid (show findE [E1, E2] nmC = some E1 by rw [hE2, HE1.out]; rfl)
  have F2 := Lib.hid (show findE [E1, E2] nmS = some E2 by rw [hE2, HE1.out]; rfl)
  have OK := Lib.hid (show ∀ e ∈ [E1, E2], e.ok by
    intro e he
    rw [hE2, HE1.out] at he
    simp at he
    rcases he with rfl | rfl <;> (unfold Ent.ok; simp))
  clear hpost ho5 hk2 hbk5 hE2
  go_wp2_with fail
  have hgc := grant_c w.heap.size p w.heap.size _ [E1, E2] nmC nmS none 0 0 0 0 0 0 5 w5 BK5.out OK.out
  rw [show grantK (lookE [E1, E2] nmC) (lookE [E1, E2] nmS) nmC nmS 0 0 0 0 5 = (⟨nmC, nmS, 5, 65, 0, 0⟩, 0, 0) by
    unfold lookE
    rw [F1.out, F2.out, HE1.out, HE2.out]
    exact grant_works] at hgc
  refine hgc.mono ?_
  clear hgc
  rintro e w6 ⟨rfl, hb6⟩
  have BK6 := Lib.hid (BK5.out.below hb6); have B6 := Lib.hid (B5.out.trans (hb6.mono B5.out.size))
  clear hb6
  unfold GT.val tkV
  simp only
  go_wp2_with fail
  obtain ⟨X6, hX6⟩ : ∃ X, X = w6.alloc (.cells #[.string nmC, .string nmS, .slice none 0 0, .int .i64 5, .int .i64 65, .int .i64 0, .int .i64 0] 39) := ⟨_, rfl⟩
  obtain ⟨t2, ht2⟩ : ∃ t2, t2 = w6.heap.size := ⟨_, rfl⟩
  have RX6 := Lib.hid (show X6.heap[t2]? = some (.cells #[.string nmC, .string nmS, .slice none 0 0, .int .i64 5, .int .i64 65, .int .i64 0, .int .i64 0] 39 (0, 0)) by rw [hX6, ht2]; exact blk_new _ rfl)
  have hbX : Below w6.heap.size w6 X6 := by rw [hX6]; exact below_alloc (Below.refl _ _) _
  have BKX := Lib.hid (BK6.out.below hbX); have BX6 := Lib.hid (B6.out.trans (hbX.mono B6.out.size))
  rw [← hX6, ← ht2]
  clear hX6 ht2 hbX
  refine (person_c nmC 1 1 1 1 X6).mono ?_
  rintro e w7 ⟨g3, rfl, hr1, hg1, hb1⟩
  have R3 := Lib.hid hr1; have H7 := Lib.hid hb1; have B7 := Lib.hid (BX6.out.trans (hb1.mono BX6.out.size)); have BK7 := Lib.hid (BKX.out.below hb1)
  have RX7 := Lib.hid (blk_below RX6.out hb1 (Array.getElem?_eq_some_iff.1 RX6.out).1)
  clear hr1 hg1 hb1
  unfold persV
  have hpc := proof_c (some ⟨g3, 0, none⟩) 16 (List.replicate 16 1) nmC 7 w7 (by decide) R3.out (HT.out.below B7.out)
  obtain ⟨D, hD⟩ : ∃ D, D = (proofS (List.replicate 16 1) nmC 7).1 := ⟨_, rfl⟩
  have hDl : D.length = 16 := by
    rw [hD]
    unfold proofS
    rw [if_neg (by simp [okC]; decide)]
    show (List.take 16 _).length = 16
    rw [List.length_take, Sen.hmac_length]
    rfl
  have hpe : proofS (List.replicate 16 1) nmC 7 = (D, 0) := by
    rw [hD]
    unfold proofS
    rw [if_neg (by simp [okC]; decide)]
  rw [hpe, show ((List.replicate 16 (1 : UInt8)).length) = 16 from rfl] at hpc
  have HD := Lib.hid hD; have DL := Lib.hid hDl; have HPC := Lib.hid hpc
  clear hD hDl hpe hpc
  go_wp2_with fail
  refine HPC.out.mono ?_
  rintro e w8 ⟨hb8, A8, c8, rfl, hc8, hr8, ha8⟩
  have hr8' : RB w8 A8 D := hr8
  have B8 := Lib.hid (B7.out.trans (hb8.mono B7.out.size)); have R8 := Lib.hid hr8'; have BK8 := Lib.hid (BK7.out.below hb8)
  have RX8 := Lib.hid (blk_below RX7.out hb8 (Array.getElem?_eq_some_iff.1 RX7.out).1)
  rw [show ((D, (0 : Int)) : List UInt8 × Int).1.length = 16 from DL.out, show ((D, (0 : Int)) : List UInt8 × Int).2 = 0 from rfl]
  clear hb8 hc8 hr8 ha8 hr8' HPC
  go_wp2_with fail
  have hk1 := check_c w.heap.size p w.heap.size _ [E1, E2] nmC 7 5 2 A8 c8 D w8 BK8.out (by decide) R8.out (HT.out.below B8.out)
  rw [show checkS [E1, E2] nmC 7 5 2 D = (0, 0) by
    unfold checkS
    rw [if_neg (by decide), F1.out, HE1.out]
    simp only
    rw [if_neg (by rw [← HD.out]; simp), if_neg (by decide)], DL.out] at hk1
  refine hk1.mono ?_
  clear hk1
  rintro e w9 ⟨rfl, hb9⟩
  have B9 := Lib.hid (B8.out.trans (hb9.mono B8.out.size)); have R9 := Lib.hid (R8.out.below hb9); have BK9 := Lib.hid (BK8.out.below hb9)
  have RX9 := Lib.hid (blk_below RX8.out hb9 (Array.getElem?_eq_some_iff.1 RX8.out).1)
  clear hb9
  simp only
  go_wp2_with fail
  have hk1 := check_c w.heap.size p w.heap.size _ [E1, E2] nmC 7 5 1 A8 c8 D w9 BK9.out (by decide) R9.out (HT.out.below B9.out)
  rw [show checkS [E1, E2] nmC 7 5 1 D = (37, 0) by
    unfold checkS
    rw [if_neg (by decide), F1.out, HE1.out]
    simp only
    rw [if_neg (by rw [← HD.out]; simp), if_pos (by decide)], DL.out] at hk1
  refine hk1.mono ?_
  clear hk1
  rintro e wa ⟨rfl, hba⟩
  have BA := Lib.hid (B9.out.trans (hba.mono B9.out.size))
  have RXA := blk_below RX9.out hba (Array.getElem?_eq_some_iff.1 RX9.out).1
  have z3 := cell_of_row wa t2 3 _ _ _ RXA
  have z4 := cell_of_row wa t2 4 _ _ _ RXA
  simp at z3 z4
  clear hba RXA
  simp only
  go_wp2_with fail
  go_ret
  exact ⟨rfl, BA.out⟩
end Go.Proofs.YteplaginenhfkaaDoor
