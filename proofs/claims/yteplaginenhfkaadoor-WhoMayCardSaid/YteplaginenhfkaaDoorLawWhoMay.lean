/-
  The walk of the statement WhoMay.
-/
import Derived.Test.YteplaginenhfkaaDoorWhoC
set_option linter.unusedVariables false
set_option linter.unusedSimpArgs false
namespace Go.Proofs.YteplaginenhfkaaDoor
open Go.RowKit

theorem may_one : ∀ c : Fin 16, bits .and .i64 (((c.val : Nat) : Int)) 1 = ((c.val : Nat) : Int) % 2 := by decide +kernel
theorem may_two : ∀ c : Fin 16, (bits .and .i64 (((c.val : Nat) : Int)) 2 = 0) ↔ ((c.val : Nat) : Int) / 2 % 2 = 0 := by decide +kernel
theorem may_all : ∀ c s f : Fin 16, (bits .andNot .i64 ((f.val : Nat) : Int) (bits .and .i64 (bits .and .i64 ((c.val : Nat) : Int) ((s.val : Nat) : Int)) 12) = 0) ↔
    (bits .and .i64 ((f.val : Nat) : Int) 3 = 0 ∧ bits .and .i64 (bits .and .i64 ((f.val : Nat) : Int) ((c.val : Nat) : Int)) ((s.val : Nat) : Int) = ((f.val : Nat) : Int)) := by decide +kernel
def wantZ (c s f y1 y2 : Int) : Int := if c % 2 = 0 then 6 else if s / 2 % 2 = 0 then 7 else if ¬ y1 = 0 ∨ ¬ y2 = f then 12 else 0
theorem may_code (c s f : Nat) (hc : c < 16) (hs : s < 16) (hf : f < 16) (now : Int) (hn : 0 ≤ now) :
    refusedS 0 0 (f : Int) (c : Int) 10 (s : Int) 30 now = wantZ c s f (bits .and .i64 (f : Int) 3) (bits .and .i64 (bits .and .i64 (f : Int) (c : Int)) (s : Int)) := by
  have h1 := may_one ⟨c, hc⟩
  have h2 := may_two ⟨s, hs⟩
  have h3 := may_all ⟨c, hc⟩ ⟨s, hs⟩ ⟨f, hf⟩
  simp only at h1 h2 h3
  unfold refusedS refusedZ wantZ
  rw [h1]
  by_cases e1 : (c : Int) % 2 = 0
  · rw [if_pos e1, if_pos e1]
  · rw [if_neg e1, if_neg e1]
    by_cases e2 : (s : Int) / 2 % 2 = 0
    · rw [if_pos (h2.2 e2), if_pos e2]
    · rw [if_neg (fun h => e2 (h2.1 h)), if_neg e2]
      by_cases e3 : bits .and .i64 (f : Int) 3 = 0 ∧ bits .and .i64 (bits .and .i64 (f : Int) (c : Int)) (s : Int) = (f : Int)
      · have e4 := h3.2 e3
        have e5 : ¬ ((if (30 : Int) < 10 then (30 : Int) else 10) < 0 - now) := by split <;> omega
        have e6 : ¬ ((0 : Int) ≠ 0 ∧ (0 : Int) ≤ if (0 : Int) < now then now else 0) := fun h => h.1 rfl
        have e7 : ¬ (¬ bits .and .i64 (f : Int) 3 = 0 ∨ ¬ bits .and .i64 (bits .and .i64 (f : Int) (c : Int)) (s : Int) = (f : Int)) := fun h => h.elim (fun h => h e3.1) (fun h => h e3.2)
        rw [if_neg (fun h => h e4), if_neg e5, if_neg e6, if_neg e7]
      · have e4 : ¬ bits .andNot .i64 (f : Int) (bits .and .i64 (bits .and .i64 (c : Int) (s : Int)) 12) = 0 := fun h => e3 (h3.1 h)
        have e7 : ¬ bits .and .i64 (f : Int) 3 = 0 ∨ ¬ bits .and .i64 (bits .and .i64 (f : Int) (c : Int)) (s : Int) = (f : Int) := by
          by_cases h : bits .and .i64 (f : Int) 3 = 0
          · exact Or.inr (fun h' => e3 ⟨h, h'⟩)
          · exact Or.inl h
        rw [if_pos e4, if_pos e7]
theorem grantK_ok {c s : Lk} {cl sv : ByteArray} {fr un re fl now : Int} (h1 : [now, fr, un, re].all okTime = true) (h2 : refusedS fr un fl c.fl c.li s.fl s.li now = 0) : grantK c s cl sv fr un re fl now = (grantT cl sv fr un re fl c.li c.re s.li s.re now, 0, 0) := by
  unfold grantK
  rw [if_neg (by rw [h1]; decide)]
  exact if_neg (fun h => h h2)
theorem grantK_no {c s : Lk} {cl sv : ByteArray} {fr un re fl now : Int} (h1 : [now, fr, un, re].all okTime = true) (h2 : ¬ refusedS fr un fl c.fl c.li s.fl s.li now = 0) : grantK c s cl sv fr un re fl now = (zeroT, refusedS fr un fl c.fl c.li s.fl s.li now, 0) := by
  unfold grantK
  rw [if_neg (by rw [h1]; decide)]
  exact if_pos h2
theorem grantK_code {c s : Lk} {cl sv : ByteArray} {fr un re fl now : Int} (h1 : [now, fr, un, re].all okTime = true) : ∃ T, grantK c s cl sv fr un re fl now = (T, refusedS fr un fl c.fl c.li s.fl s.li now, 0) := by
  by_cases h2 : refusedS fr un fl c.fl c.li s.fl s.li now = 0
  · exact ⟨_, by rw [grantK_ok h1 h2, h2]⟩
  · exact ⟨_, grantK_no h1 h2⟩
set_option maxRecDepth 100000 in
set_option maxHeartbeats 4000000 in
theorem law_who_may (x y z u : Int) (w : World) (hT : Tab w) :
    Calls Tryd.prog 7 #[.int .i64 x, .int .i64 y, .int .i64 z, .int .i64 u] w fun e w' => e = .returned (.bool true) ∧ Below w.heap.size w w' := by
  have HW := Lib.hid (works_c19 w hT)
  clear hT
  have hzt := zeroTick
  go_enter Tryd.func7, Tryd.ntmps7
  go_wp2_with fail
  refine HW.out.mono ?_
  rintro e w1 ⟨rfl, hb1⟩
  have B1 := Lib.hid hb1
  clear hb1
  go_wp2_with fail
  refine (among_c x 16 (by decide) (by decide) _).mono ?_
  rintro e w2' ⟨c, hc, rfl, rfl⟩
  go_wp2_with fail
  refine (among_c y 16 (by decide) (by decide) _).mono ?_
  rintro e w2' ⟨s, hs, rfl, rfl⟩
  go_wp2_with fail
  refine (among_c z 16 (by decide) (by decide) _).mono ?_
  rintro e w2' ⟨f, hf, rfl, rfl⟩
  go_wp2_with fail
  refine (among_c u 1000 (by decide) (by decide) _).mono ?_
  rintro e w2' ⟨t, ht, rfl, rfl⟩
  go_wp2_with fail
  refine (make_c w1).mono ?_
  rintro e w2 ⟨rfl, hw1⟩
  obtain ⟨p, hp⟩ : ∃ p, p = w1.heap.size + 1 := ⟨_, rfl⟩
  rw [← hp]
  have hbk := bk_make w1
  rw [← hw1, ← hp] at hbk
  have BK := Lib.hid hbk
  have HH := Lib.hid (show Below w1.heap.size w1 w2 by rw [hw1]; exact below_alloc (below_alloc (Below.refl _ _) _) _)
  clear hbk hw1 hp
  go_wp2_with fail
  refine (person_c nmC 1 (c : Int) 10 20 w2).mono ?_
  rintro e w3 ⟨g1, rfl, hr1, hg1, hb1⟩
  have R3 := Lib.hid hr1; have HH := Lib.hid (HH.out.trans (hb1.mono HH.out.size)); have BK := Lib.hid (BK.out.below hb1)
  clear hr1 hg1 hb1
  go_wp2_with fail
  refine (add_c w1.heap.size p w1.heap.size _ [] nmC (some ⟨g1, 0, none⟩) 16 (List.replicate 16 1) (c : Int) 10 20 w3 BK.out HH.out.size (by decide) (by decide) R3.out (by decide)).mono ?_
  intro e w4 hpost
  obtain ⟨rfl, ho, v3, k1, c1, hk1, hbk3⟩ := hpost.good (add_one nmC _ (c : Int) 10 20 okC rfl (by omega) (by decide) (by decide) [] rfl (by decide))
  obtain ⟨E1, hE1⟩ : ∃ E : Ent, E = ⟨nmC, k1, c1, List.replicate 16 1, c, 10, 20⟩ := ⟨_, rfl⟩
  rw [← hE1, List.nil_append] at hbk3
  have HE1 := Lib.hid hE1; have HH := Lib.hid (BK.out.stays ho HH.out HH.out.size); have BK := Lib.hid hbk3
  clear hpost ho hk1 hbk3 hE1
  go_wp2_with fail
  refine (person_c nmS 2 (s : Int) 30 40 w4).mono ?_
  rintro e w5 ⟨g2, rfl, hr1, hg1, hb1⟩
  have R5 := Lib.hid hr1; have HH := Lib.hid (HH.out.trans (hb1.mono HH.out.size)); have BK := Lib.hid (BK.out.below hb1)
  clear hr1 hg1 hb1
  go_wp2_with fail
  refine (add_c w1.heap.size p w1.heap.size _ [E1] nmS (some ⟨g2, 0, none⟩) 16 (List.replicate 16 2) (s : Int) 30 40 w5 BK.out HH.out.size (by decide) (by decide) R5.out (by simp)).mono ?_
  intro e w6 hpost
  obtain ⟨rfl, ho, v5, k2, c2, hk2, hbk5⟩ := hpost.good (add_one nmS _ (s : Int) 30 40 okS rfl (by omega) (by decide) (by decide) [E1] (by rw [HE1.out]; rfl) (by simp))
  obtain ⟨E2, hE2⟩ : ∃ E : Ent, E = ⟨nmS, k2, c2, List.replicate 16 2, s, 30, 40⟩ := ⟨_, rfl⟩
  rw [← hE2, show [E1] ++ [E2] = [E1, E2] from rfl] at hbk5
  have HE2 := Lib.hid hE2; have HH := Lib.hid (BK.out.stays ho HH.out HH.out.size); have BK := Lib.hid hbk5
  have F1 := Lib.hid (show findE [E1, E2] nmC = some E1 by rw [hE2, HE1.out]; rfl)
  have F2 := Lib.hid (show findE [E1, E2] nmS = some E2 by rw [hE2, HE1.out]; rfl)
  have OK := Lib.hid (show ∀ e ∈ [E1, E2], e.ok by
    intro e he
    rw [hE2, HE1.out] at he
    simp at he
    rcases he with rfl | rfl <;> (unfold Ent.ok; simp; omega))
  clear hpost ho hk2 hbk5 hE2
  go_wp2_with fail
  have hgc := grant_c w1.heap.size p w1.heap.size _ [E1, E2] nmC nmS none 0 0 0 0 0 (f : Int) (t : Int) w6 BK.out OK.out
  obtain ⟨T, hT⟩ := grantK_code (c := ⟨(c : Int), 10, 20⟩) (s := ⟨(s : Int), 30, 40⟩) (cl := nmC) (sv := nmS) (fr := 0) (un := 0) (re := 0) (fl := (f : Int)) (now := (t : Int)) (by simp [okTime]; omega)
  simp only at hT
  rw [show lookE [E1, E2] nmC = ⟨(c : Int), 10, 20⟩ by unfold lookE; rw [F1.out, HE1.out]; rfl, show lookE [E1, E2] nmS = ⟨(s : Int), 30, 40⟩ by unfold lookE; rw [F2.out, HE2.out]; rfl, hT, may_code c s f hc hs hf t (by omega)] at hgc
  obtain ⟨y1, hy1⟩ : ∃ y1, bits .and .i64 (f : Int) 3 = y1 := ⟨_, rfl⟩
  obtain ⟨y2, hy2⟩ : ∃ y1, bits .and .i64 (bits .and .i64 (f : Int) (c : Int)) (s : Int) = y1 := ⟨_, rfl⟩
  rw [hy1, hy2] at hgc
  obtain ⟨K, hK⟩ : ∃ K, K = wantZ c s f y1 y2 := ⟨_, rfl⟩
  rw [← hK] at hgc
  have HK := Lib.hid hK
  refine hgc.mono ?_
  clear hgc hK hT
  rintro e w7 ⟨rfl, hb⟩
  have HH := Lib.hid (HH.out.trans (hb.mono HH.out.size))
  clear hb
  unfold GT.val tkV
  simp only
  go_wp2
  all_goals
    go_ret
    have hk := HK.out
    unfold wantZ at hk
    have hB := B1.out.trans (HH.out.mono B1.out.size)
    refine ⟨congrArg (fun b => Ending.returned (Value.bool b)) (?_ : (K == _) = true), below_alloc hB _⟩
    clear HW B1 HH hB HK hzt
    simp_all
end Go.Proofs.YteplaginenhfkaaDoor
