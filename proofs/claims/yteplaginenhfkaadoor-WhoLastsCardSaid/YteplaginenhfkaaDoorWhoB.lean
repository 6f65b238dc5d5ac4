/-
  who: the walk of Grant on a book.
-/
import Derived.Test.YteplaginenhfkaaDoorWhoA
set_option linter.unusedVariables false
set_option linter.unusedSimpArgs false
namespace Go.Proofs.YteplaginenhfkaaDoor
open Go.RowKit

theorem lookV_lk (L : List Ent) (s : ByteArray) : ∃ nm A n c, lookV L s = persV nm A n c (lookE L s).fl (lookE L s).li (lookE L s).re := by
  unfold lookV lookE
  cases findE L s with
  | none => exact ⟨_, _, _, _, rfl⟩
  | some e => exact ⟨_, _, _, _, rfl⟩
def Ent.ok (e : Ent) : Prop := (0 ≤ e.fl ∧ e.fl ≤ 15) ∧ (1 ≤ e.li ∧ e.li ≤ 1099511627776) ∧ (1 ≤ e.re ∧ e.re ≤ 1099511627776)
theorem lookE_ok {L : List Ent} (h : ∀ e ∈ L, e.ok) (s : ByteArray) : (0 ≤ (lookE L s).fl ∧ (lookE L s).fl ≤ 15) ∧ (0 ≤ (lookE L s).li ∧ (lookE L s).li ≤ 1099511627776) ∧ (0 ≤ (lookE L s).re ∧ (lookE L s).re ≤ 1099511627776) := by
  unfold lookE
  cases hq : findE L s with
  | none => exact ⟨⟨by decide, by decide⟩, ⟨by decide, by decide⟩, by decide, by decide⟩
  | some e =>
    obtain ⟨a, ⟨b1, b2⟩, c1, c2⟩ := h e (List.mem_of_find?_eq_some hq)
    exact ⟨a, ⟨by show 0 ≤ e.li; omega, b2⟩, by show 0 ≤ e.re; omega, c2⟩
theorem grantT_eq {cl sv : ByteArray} {fr un re fl cli cre sli sre now F M R U Z1 Z2 z4 z5 : Int} (hF : mx fr now = F) (hM : mn cli sli = M) (hR : mn cre sre = R) (hU : (if un = 0 ∨ F + M < un then F + M else un) = U) (h1 : mn re (F + R) = Z1) (h2 : mx Z1 U = Z2)
    (h4 : bits .and .i64 fl 4 = z4) (h5 : bits .andNot .i64 fl 4 = z5) : grantT cl sv fr un re fl cli cre sli sre now = if z4 = 0 ∨ re = 0 then ⟨cl, sv, F, U, 0, z5⟩ else ⟨cl, sv, F, U, Z2, fl⟩ := by
  subst hF hM hR hU h1 h2 h4 h5
  rfl
theorem grantK_no2 {cl sv : ByteArray} {cfl cli cre sfl sli sre fr un re fl now rc : Int} (h1 : [now, fr, un, re].all okTime = true) (h2 : rc = refusedS fr un fl cfl cli sfl sli now) (h : ¬ rc = 0) : grantK ⟨cfl, cli, cre⟩ ⟨sfl, sli, sre⟩ cl sv fr un re fl now = (zeroT, rc, 0) := by
  subst h2
  unfold grantK
  rw [if_neg (by rw [h1]; decide)]
  exact if_pos h
theorem grantK_fin {cl sv : ByteArray} {cfl cli cre sfl sli sre fr un re fl now F M R U Z1 Z2 z4 z5 : Int} (h1 : [now, fr, un, re].all okTime = true) (h2 : refusedS fr un fl cfl cli sfl sli now = 0) (hF : mx fr now = F) (hM : mn cli sli = M) (hR : mn cre sre = R) (hU : (if un = 0 ∨ F + M < un then F + M else un) = U) (hZ1 : mn re (F + R) = Z1) (hZ2 : mx Z1 U = Z2)
    (h4 : bits .and .i64 fl 4 = z4) (h5 : bits .andNot .i64 fl 4 = z5) : grantK ⟨cfl, cli, cre⟩ ⟨sfl, sli, sre⟩ cl sv fr un re fl now = (if z4 = 0 ∨ re = 0 then ⟨cl, sv, F, U, 0, z5⟩ else ⟨cl, sv, F, U, Z2, fl⟩, 0, 0) := by
  rw [← grantT_eq (cl := cl) (sv := sv) (fl := fl) hF hM hR hU hZ1 hZ2 h4 h5]
  unfold grantK
  rw [if_neg (by rw [h1]; decide)]
  exact if_neg (fun h => h h2)
theorem GrantPost.mk {w w' : World} {o : GT × Int × Int} {t : GT} {a b : Int} (h : o = (t, a, b)) (hb : Below w.heap.size w w') : GrantPost w o (.returned (.tuple #[t.val, .int .i64 a, .int .i64 b])) w' := by
  subst h
  exact ⟨rfl, hb⟩
set_option maxRecDepth 100000 in
set_option maxHeartbeats 4000000 in
theorem grant_c (B p mp : Nat) (v : Value) (L : List Ent) (cl sv : ByteArray) (A : Option Addr) (n c : Nat) (fr un re fl now : Int) (w : World) (h : BkA w B p mp v L) (hok : ∀ e ∈ L, e.ok) :
    Calls Tryd.prog 18 #[.pointer (some ⟨p, 0, none⟩), tkV cl sv A n c fr un re fl, .int .i64 now] w (GrantPost w (grantK (lookE L cl) (lookE L sv) cl sv fr un re fl now)) := by
  obtain ⟨n1, A1, m1, k1, hl1⟩ := lookV_lk L cl
  obtain ⟨n2, A2, m2, k2, hl2⟩ := lookV_lk L sv
  obtain ⟨b1, b2, b3⟩ := lookE_ok hok cl
  obtain ⟨b4, b5, b6⟩ := lookE_ok hok sv
  obtain ⟨⟨cfl, cli, cre⟩, hlc⟩ : ∃ x, x = lookE L cl := ⟨_, rfl⟩
  obtain ⟨⟨sfl, sli, sre⟩, hls⟩ : ∃ x, x = lookE L sv := ⟨_, rfl⟩
  rw [← hlc] at hl1 b1 b2 b3 ⊢
  rw [← hls] at hl2 b4 b5 b6 ⊢
  simp only at b1 b2 b3 b4 b5 b6 hl1 hl2
  have HL1 := Lib.hid hl1; have HL2 := Lib.hid hl2
  have H := Lib.hid h
  have hz := zeroPers
  have hzt := zeroTick
  obtain ⟨o, ho⟩ : ∃ o, o = grantK ⟨cfl, cli, cre⟩ ⟨sfl, sli, sre⟩ cl sv fr un re fl now := ⟨_, rfl⟩
  rw [← ho]
  have HO := Lib.hid ho
  obtain ⟨t4, ht4⟩ : ∃ t4, t4 = w.heap.size := ⟨_, rfl⟩
  obtain ⟨X0, hX0⟩ : ∃ X0, X0 = (w.alloc (.cells #[.string cl, .string sv, .slice A n c, .int .i64 fr, .int .i64 un, .int .i64 re, .int .i64 fl] 39)).alloc (.cells #[.string ByteArray.empty, .string ByteArray.empty, .slice none 0 0, .int .i64 0, .int .i64 0, .int .i64 0, .int .i64 0] 39) := ⟨_, rfl⟩
  have HT4 := Lib.hid ht4
  have HX0 := Lib.hid hX0
  have BX0 := Lib.hid (show Below w.heap.size w X0 by rw [hX0]; exact below_alloc (below_alloc (Below.refl _ _) _) _)
  have RT := Lib.hid (show X0.heap[t4]? = some (.cells #[.string cl, .string sv, .slice A n c, .int .i64 fr, .int .i64 un, .int .i64 re, .int .i64 fl] 39 (0, 0)) by rw [hX0, ht4]; exact blk_old _ (blk_new _ rfl))
  have RZ := Lib.hid (show X0.heap[t4 + 1]? = some (.cells #[.string ByteArray.empty, .string ByteArray.empty, .slice none 0 0, .int .i64 0, .int .i64 0, .int .i64 0, .int .i64 0] 39 (0, 0)) by rw [hX0, ht4]; exact blk_new _ (by simp))
  have BK0 := Lib.hid (H.out.below BX0.out)
  have ZS := Lib.hid (show X0.heap.size = t4 + 2 by rw [hX0, ht4]; simp)
  have CT := Lib.hid (show ∀ W', Below X0.heap.size X0 W' → (W'.cell? ⟨t4, 0, none⟩ = some (.string cl) ∧ W'.cell? ⟨t4, 1, none⟩ = some (.string sv) ∧ W'.cell? ⟨t4, 2, none⟩ = some (.slice A n c) ∧ W'.cell? ⟨t4, 3, none⟩ = some (.int .i64 fr) ∧ W'.cell? ⟨t4, 4, none⟩ = some (.int .i64 un) ∧ W'.cell? ⟨t4, 5, none⟩ = some (.int .i64 re) ∧ W'.cell? ⟨t4, 6, none⟩ = some (.int .i64 fl)) from fun W' hW => by
    have hr := blk_below RT.out hW (Array.getElem?_eq_some_iff.1 RT.out).1
    refine ⟨?_, ?_, ?_, ?_, ?_, ?_, ?_⟩ <;> (rw [cell_of_row W' t4 _ _ _ _ hr]; rfl))
  clear hl1 hl2 hlc hls h hok ho ht4 hX0
  unfold tkV
  cases c1 : [now, fr, un, re].all okTime with
  | false =>
    have HO2 := Lib.hid (show o = (zeroT, 0, 2) by rw [HO.out]; unfold grantK; rw [if_pos c1])
    go_enter Tryd.func18, Tryd.ntmps18
    go_wp2_with fail
    rw [← HX0.out, ← HT4.out]
    refine (book_is p mp X0 BK0.out.cells.1).mono ?_
    rintro e w1 ⟨rfl, rfl⟩
    obtain ⟨ct0, ct1, ct2, ct3, ct4, ct5, ct6⟩ := CT.out X0 (Below.refl _ _)
    go_wp2_with fail
    clear ct0 ct1 ct2 ct3 ct4 ct5 ct6
    have hRI : RI (X0.alloc (.cells #[.int .i64 now, .int .i64 fr, .int .i64 un, .int .i64 re] 3)) (some ⟨X0.heap.size, 0, none⟩) [now, fr, un, re] := ri_four (blk_new _ rfl)
    refine (times_c (some ⟨X0.heap.size, 0, none⟩) 4 4 [now, fr, un, re] rfl (by decide) _ hRI).mono ?_
    rw [c1]
    rintro e w1 ⟨rfl, rfl⟩
    have hb1 : Below X0.heap.size X0 (X0.alloc (.cells #[.int .i64 now, .int .i64 fr, .int .i64 un, .int .i64 re] 3)) := below_alloc (Below.refl _ _) _
    have R1 := Lib.hid (blk_below RZ.out hb1 (Array.getElem?_eq_some_iff.1 RZ.out).1)
    have B1 := Lib.hid (BX0.out.trans (hb1.mono BX0.out.size))
    clear hb1 hRI
    go_wp2_with (with_reducible refine wpList_store_any rfl 39 _ _ rfl (t4 + 1) [.string ByteArray.empty, .string ByteArray.empty, .slice none 0 0, .int .i64 0, .int .i64 0, .int .i64 0, .int .i64 0] rfl rfl 39 _ R1.out 7 (by kernel_rfl) rfl rfl (by simp [Value.oneCell']) ?_ rfl)
    refine bodyPost_ret (v := .tuple #[.agg #[.string ByteArray.empty, .string ByteArray.empty, .slice none 0 0, .int .i64 0, .int .i64 0, .int .i64 0, .int .i64 0], .int .i64 0, .int .i64 2]) ?_ rfl ?_
    · exact (results_row_tmp2 (p := 6) (u := 7) (u2 := 8) (ty := 39) rfl _ _ (t4 + 1) #[.string ByteArray.empty, .string ByteArray.empty, .slice none 0 0, .int .i64 0, .int .i64 0, .int .i64 0, .int .i64 0] rfl (load_tick _ _ _ (0, 0) (setRow_heap _ _ _ _ _ _ R1.out) rfl)).trans rfl
    · exact GrantPost.mk (t := zeroT) HO2.out (below_setRow B1.out (by have := HT4.out; omega) _)
  | true =>
    have hbd : (0 ≤ now ∧ now ≤ 1099511627776) ∧ (0 ≤ fr ∧ fr ≤ 1099511627776) ∧ (0 ≤ un ∧ un ≤ 1099511627776) ∧ (0 ≤ re ∧ re ≤ 1099511627776) := by
      simpa [okTime] using c1
    obtain ⟨⟨q1, q2⟩, ⟨q3, q4⟩, ⟨q5, q6⟩, q7, q8⟩ := hbd
    go_enter Tryd.func18, Tryd.ntmps18
    go_wp2_with fail
    rw [← HX0.out, ← HT4.out]
    refine (book_is p mp X0 BK0.out.cells.1).mono ?_
    rintro e w1 ⟨rfl, rfl⟩
    obtain ⟨ct0, ct1, ct2, ct3, ct4, ct5, ct6⟩ := CT.out X0 (Below.refl _ _)
    go_wp2_with fail
    clear ct0 ct1 ct2 ct3 ct4 ct5 ct6
    have hRI : RI (X0.alloc (.cells #[.int .i64 now, .int .i64 fr, .int .i64 un, .int .i64 re] 3)) (some ⟨X0.heap.size, 0, none⟩) [now, fr, un, re] := ri_four (blk_new _ rfl)
    refine (times_c (some ⟨X0.heap.size, 0, none⟩) 4 4 [now, fr, un, re] rfl (by decide) _ hRI).mono ?_
    rw [c1]
    rintro e w1 ⟨rfl, rfl⟩
    have C1 := Lib.hid c1
    clear hRI c1
    obtain ⟨X, hX⟩ : ∃ X, X = X0.alloc (.cells #[.int .i64 now, .int .i64 fr, .int .i64 un, .int .i64 re] 3) := ⟨_, rfl⟩
    rw [← hX]
    have BX := Lib.hid (show Below X0.heap.size X0 X by rw [hX]; exact below_alloc (Below.refl _ _) _)
    clear hX
    go_wp2_with fail
    have HLK1 := Lib.hid (show ∀ W', Below X.heap.size X W' → (Instr.lookup 64 (.map (some mp)) (.string cl) false).run Tryd.prog W' = .ok (.agg #[.string n1, .slice A1 m1 k1, .int .i64 cfl, .int .i64 cli, .int .i64 cre]) W' from fun W' hW => by
      have hq := (run_look (BK0.out.below (BX.out.trans (hW.mono BX.out.size))).map cl).2
      rw [HL1.out] at hq
      exact hq)
    have HLK2 := Lib.hid (show ∀ W', Below X.heap.size X W' → (Instr.lookup 64 (.map (some mp)) (.string sv) false).run Tryd.prog W' = .ok (.agg #[.string n2, .slice A2 m2 k2, .int .i64 sfl, .int .i64 sli, .int .i64 sre]) W' from fun W' hW => by
      have hq := (run_look (BK0.out.below (BX.out.trans (hW.mono BX.out.size))).map sv).2
      rw [HL2.out] at hq
      exact hq)
    refine Last.region_hold2 (fun w' => Below X.heap.size X w') [0, 1, 2, 3, 4, 5, 6, 7, 8, 9, 10, 11, 12, 13] 14 15 [16, 17] [17] (by kernel_rfl) (by kernel_rfl) (fun d _ _ _ _ h => by cases d <;> exact h) (below_drewN (Below.refl _ _) 1) ?_
    refine Last.hold_move _ _ rfl rfl rfl ?_
    refine Last.hold_read _ (.pointer (some ⟨p, 0, none⟩)) rfl rfl (fun W' _ => ?_) ?_
    · go_simp
    refine Last.hold_read _ (.pointer (some ⟨p, 0, none⟩)) rfl rfl (fun W' _ => ?_) ?_
    · go_simp
    refine Last.hold_read _ (.map (some mp)) rfl rfl (fun W' hW => ?_) ?_
    · have hc := (BK0.out.below (BX.out.trans (hW.mono BX.out.size))).cells.1
      go_simp
    refine Last.hold_read _ (.pointer (some ⟨t4, 0, none⟩)) rfl rfl (fun W' _ => ?_) ?_
    · go_simp
    refine Last.hold_read _ (.string cl) rfl rfl (fun W' hW => ?_) ?_
    · have hc := (CT.out W' (BX.out.trans (hW.mono BX.out.size))).1
      go_simp
    refine Last.hold_read _ (.agg #[.string n1, .slice A1 m1 k1, .int .i64 cfl, .int .i64 cli, .int .i64 cre]) rfl rfl (fun W' hW => ?_) ?_
    · have hc := HLK1.out W' hW
      go_simp
    refine Last.hold_move _ _ rfl rfl rfl ?_
    refine Last.hold_read _ (.pointer (some ⟨p, 0, none⟩)) rfl rfl (fun W' _ => ?_) ?_
    · go_simp
    refine Last.hold_read _ (.pointer (some ⟨p, 0, none⟩)) rfl rfl (fun W' _ => ?_) ?_
    · go_simp
    refine Last.hold_read _ (.map (some mp)) rfl rfl (fun W' hW => ?_) ?_
    · have hc := (BK0.out.below (BX.out.trans (hW.mono BX.out.size))).cells.1
      go_simp
    refine Last.hold_read _ (.pointer (some ⟨t4, 1, none⟩)) rfl rfl (fun W' _ => ?_) ?_
    · go_simp
    refine Last.hold_read _ (.string sv) rfl rfl (fun W' hW => ?_) ?_
    · have hc := (CT.out W' (BX.out.trans (hW.mono BX.out.size))).2.1
      go_simp
    refine Last.hold_read _ (.agg #[.string n2, .slice A2 m2 k2, .int .i64 sfl, .int .i64 sli, .int .i64 sre]) rfl rfl (fun W' hW => ?_) ?_
    · have hc := HLK2.out W' hW
      go_simp
    refine ⟨?_, ?_⟩
    · show Last.wpMid _ _ _ _ _ _ _ _
      refine Last.mid_run _ (.pointer (some ⟨X.heap.size, 0, none⟩)) ((X.drewN 1).alloc (.cells #[.string ByteArray.empty, .slice none 0 0, .int .i64 0, .int .i64 0, .int .i64 0] 50)) rfl rfl (by go_simp) (fun _ hS => below_alloc hS _) ?_
      refine Last.mid_run _ (.pointer (some ⟨X.heap.size + 1, 0, none⟩)) (((X.drewN 1).alloc (.cells #[.string ByteArray.empty, .slice none 0 0, .int .i64 0, .int .i64 0, .int .i64 0] 50)).alloc (.cells #[.string ByteArray.empty, .slice none 0 0, .int .i64 0, .int .i64 0, .int .i64 0] 50)) rfl rfl (by go_simp) (fun _ hS => below_alloc hS _) ?_
      refine Last.mid_store _ 50 _ _ rfl rfl rfl (X.heap.size) [.string n1, .slice A1 m1 k1, .int .i64 cfl, .int .i64 cli, .int .i64 cre] (by kernel_rfl) (by kernel_rfl) 50 _ (blk_old _ (blk_new _ rfl)) 5 (by kernel_rfl) rfl rfl (by simp [Value.oneCell']) rfl (fun _ hS => below_setRow hS (by omega) _) ?_
      refine Last.mid_store _ 50 _ _ rfl rfl rfl (X.heap.size + 1) [.string n2, .slice A2 m2 k2, .int .i64 sfl, .int .i64 sli, .int .i64 sre] (by kernel_rfl) (by kernel_rfl) 50 _ ((setRow_other _ _ _ _ (by omega)).trans (blk_new _ (by simp))) 5 (by kernel_rfl) rfl rfl (by simp [Value.oneCell']) rfl (fun _ hS => below_setRow hS (by omega) _) ?_
      refine Last.mid_tail 18 (by kernel_rfl) (by decide) ?_
      simp only [List.drop_succ_cons, List.drop_zero]
      obtain ⟨X2, hX2⟩ : ∃ X2, X2 = ((((X.drewN 1).alloc (.cells #[.string ByteArray.empty, .slice none 0 0, .int .i64 0, .int .i64 0, .int .i64 0] 50)).alloc (.cells #[.string ByteArray.empty, .slice none 0 0, .int .i64 0, .int .i64 0, .int .i64 0] 50)).setRow (X.heap.size) [.string n1, .slice A1 m1 k1, .int .i64 cfl, .int .i64 cli, .int .i64 cre].toArray).setRow (X.heap.size + 1) [.string n2, .slice A2 m2 k2, .int .i64 sfl, .int .i64 sli, .int .i64 sre].toArray := ⟨_, rfl⟩
      have B2 := Lib.hid (show Below X.heap.size X X2 by rw [hX2]; exact below_setRow (below_setRow (below_alloc (below_alloc (below_drewN (Below.refl _ _) 1) _) _) (by omega) _) (by omega) _)
      have R9 := Lib.hid (show X2.heap[X.heap.size]? = some (.cells [.string n1, .slice A1 m1 k1, .int .i64 cfl, .int .i64 cli, .int .i64 cre].toArray 50 (0, 0)) by rw [hX2]; exact (setRow_other _ _ _ _ (by omega)).trans (setRow_heap _ _ _ _ _ _ (blk_old _ (blk_new _ rfl))))
      have R10 := Lib.hid (show X2.heap[X.heap.size + 1]? = some (.cells [.string n2, .slice A2 m2 k2, .int .i64 sfl, .int .i64 sli, .int .i64 sre].toArray 50 (0, 0)) by rw [hX2]; exact setRow_heap _ _ _ _ _ _ ((setRow_other _ _ _ _ (by omega)).trans (blk_new _ (by simp))))
      rw [← hX2]
      clear hX2
      obtain ⟨p10, hp10⟩ : ∃ p, p = X.heap.size + 1 := ⟨_, rfl⟩
      obtain ⟨p9, hp9⟩ : ∃ p, p = X.heap.size := ⟨_, rfl⟩
      rw [← hp10] at R10 ⊢
      rw [← hp9] at R9 ⊢
      have NE := Lib.hid (show p9 ≠ p10 ∧ p9 ≠ t4 ∧ p10 ≠ t4 ∧ p9 ≠ t4 + 1 ∧ p10 ≠ t4 + 1 by have := ZS.out; have := BX.out.size; omega)
      clear hp9 hp10
      obtain ⟨ct0, ct1, ct2, ct3, ct4, ct5, ct6⟩ := CT.out X2 (BX.out.trans (B2.out.mono BX.out.size))
      have hc9 := fun j => cell_of_row X2 p9 j _ _ _ R9.out
      have hc10 := fun j => cell_of_row X2 p10 j _ _ _ R10.out
      have u0 := hc9 0
      have u1 := hc9 1
      have u2 := hc9 2
      have u3 := hc9 3
      have u4 := hc9 4
      have v0 := hc10 0
      have v1 := hc10 1
      have v2 := hc10 2
      have v3 := hc10 3
      have v4 := hc10 4
      simp at u0 u1 u2 u3 u4 v0 v1 v2 v3 v4
      clear hc9 hc10
      go_wp2_with fail
      refine (refused_c cl sv A n c fr un re fl n1 A1 m1 k1 cfl cli cre n2 A2 m2 k2 sfl sli sre now X2 q3 q4 q1 q2).mono ?_
      rintro e w3 ⟨rfl, hb3⟩
      clear ct0 ct1 ct2 ct3 ct4 ct5 ct6 u0 u1 u2 u3 u4 v0 v1 v2 v3 v4
      obtain ⟨rc, hrc⟩ : ∃ rc, rc = refusedS fr un fl cfl cli sfl sli now := ⟨_, rfl⟩
      rw [← hrc]
      have HRC := Lib.hid hrc
      have hb2 : Below X0.heap.size X0 w3 := BX.out.trans ((B2.out.trans (hb3.mono B2.out.size)).mono BX.out.size)
      have B3 := Lib.hid (BX0.out.trans (hb2.mono BX0.out.size))
      have RT3 := Lib.hid (blk_below RT.out hb2 (Array.getElem?_eq_some_iff.1 RT.out).1)
      have RZ3 := Lib.hid (blk_below RZ.out hb2 (Array.getElem?_eq_some_iff.1 RZ.out).1)
      have S9 := Lib.hid (blk_below R9.out hb3 (Array.getElem?_eq_some_iff.1 R9.out).1)
      have S10 := Lib.hid (blk_below R10.out hb3 (Array.getElem?_eq_some_iff.1 R10.out).1)
      clear hrc hb2 hb3
      by_cases d1 : rc = 0
      · subst d1
        rw [← row_same RT3.out]
        have hset := fun cs i v => row_set RT3.out cs i v
        have hcell := fun cs j => row_cell RT3.out cs j
        have hfro := fun cs j => row_frozen RT3.out cs j
        have y9 : ∀ cs, (w3.setRow t4 cs).cell? ⟨p9, 3, none⟩ = some (.int .i64 cli) := fun cs => cell_of_row _ p9 3 _ _ _ ((setRow_other w3 t4 p9 cs NE.out.2.1).trans S9.out)
        have y9' : ∀ cs, (w3.setRow t4 cs).cell? ⟨p9, 4, none⟩ = some (.int .i64 cre) := fun cs => cell_of_row _ p9 4 _ _ _ ((setRow_other w3 t4 p9 cs NE.out.2.1).trans S9.out)
        have y10 : ∀ cs, (w3.setRow t4 cs).cell? ⟨p10, 3, none⟩ = some (.int .i64 sli) := fun cs => cell_of_row _ p10 3 _ _ _ ((setRow_other w3 t4 p10 cs NE.out.2.2.1).trans S10.out)
        have y10' : ∀ cs, (w3.setRow t4 cs).cell? ⟨p10, 4, none⟩ = some (.int .i64 sre) := fun cs => cell_of_row _ p10 4 _ _ _ ((setRow_other w3 t4 p10 cs NE.out.2.2.1).trans S10.out)
        have HZR := Lib.hid (fun cs => (setRow_other w3 t4 (t4 + 1) cs (by omega)).trans RZ3.out)
        obtain ⟨F, hF⟩ : ∃ F, (if fr < now then now else fr) = F := ⟨_, rfl⟩
        obtain ⟨M, hM⟩ : ∃ F, (if sli < cli then sli else cli) = F := ⟨_, rfl⟩
        obtain ⟨R, hR⟩ : ∃ F, (if sre < cre then sre else cre) = F := ⟨_, rfl⟩
        have hF0 : 0 ≤ F ∧ F ≤ 1099511627776 := by rw [← hF]; split <;> omega
        have hM0 : 0 ≤ M ∧ M ≤ 1099511627776 := by rw [← hM]; split <;> omega
        have hR0 : 0 ≤ R ∧ R ≤ 1099511627776 := by rw [← hR]; split <;> omega
        obtain ⟨hF1, hF2⟩ := hF0
        obtain ⟨hM1, hM2⟩ := hM0
        obtain ⟨hR1, hR2⟩ := hR0
        obtain ⟨Z1, hZ1⟩ : ∃ F', (if F + R < re then F + R else re) = F' := ⟨_, rfl⟩
        obtain ⟨z4, hz4⟩ : ∃ z, bits .and .i64 fl 4 = z := ⟨_, rfl⟩
        obtain ⟨z5, hz5⟩ : ∃ z, bits .andNot .i64 fl 4 = z := ⟨_, rfl⟩
        have HF := Lib.hid (show mx fr now = F from hF); have HM := Lib.hid (show mn cli sli = M from hM); have HR := Lib.hid (show mn cre sre = R from hR); have HZ1 := Lib.hid (show mn re (F + R) = Z1 from hZ1); have HZ4 := Lib.hid hz4; have HZ5 := Lib.hid hz5
        by_cases e1 : un = 0
        · subst e1
          have HU := Lib.hid (show (if (0 : Int) = 0 ∨ F + M < 0 then F + M else 0) = F + M from if_pos (Or.inl rfl))
          obtain ⟨Z2, hZ2⟩ : ∃ Z2, (if Z1 < F + M then F + M else Z1) = Z2 := ⟨_, rfl⟩
          have HZ2 := Lib.hid (show mx Z1 (F + M) = Z2 from hZ2)
          by_cases f1 : z4 = 0
          · have F1 := Lib.hid f1
            subst f1
            go_wp2_with (with_reducible refine wpList_store_any rfl 39 _ _ rfl (t4 + 1) [.string cl, .string sv, .slice none 0 0, .int .i64 F, .int .i64 (F + M), .int .i64 0, .int .i64 z5] rfl rfl 39 _ (HZR.out _) 7 (by kernel_rfl) rfl rfl (by simp [Value.oneCell']) ?_ rfl)
            refine bodyPost_ret (v := .tuple #[.agg #[.string cl, .string sv, .slice none 0 0, .int .i64 F, .int .i64 (F + M), .int .i64 0, .int .i64 z5], .int .i64 0, .int .i64 0]) ?_ rfl ?_
            · exact (results_row_tmp2 (p := 6) (u := 7) (u2 := 8) (ty := 39) rfl _ _ (t4 + 1) #[.string cl, .string sv, .slice none 0 0, .int .i64 F, .int .i64 (F + M), .int .i64 0, .int .i64 z5] rfl (load_tick _ _ _ (0, 0) (setRow_heap _ _ _ _ _ _ (HZR.out #[.string cl, .string sv, .slice none 0 0, .int .i64 F, .int .i64 (F + M), .int .i64 0, .int .i64 z5])) rfl)).trans rfl
            · exact GrantPost.mk (t := ⟨cl, sv, F, F + M, 0, z5⟩) (HO.out.trans ((grantK_fin C1.out HRC.out.symm HF.out HM.out HR.out HU.out HZ1.out HZ2.out HZ4.out HZ5.out).trans (congrArg (fun x => (x, (0 : Int), (0 : Int))) (if_pos (Or.inl rfl))))) (below_setRow (below_setRow B3.out (by have := HT4.out; omega) _) (by have := HT4.out; omega) _)
          · have g1 : (z4 == 0) = false := by simpa using f1
            by_cases f2 : re = 0
            · subst f2
              go_wp2_with (with_reducible refine wpList_store_any rfl 39 _ _ rfl (t4 + 1) [.string cl, .string sv, .slice none 0 0, .int .i64 F, .int .i64 (F + M), .int .i64 0, .int .i64 z5] rfl rfl 39 _ (HZR.out _) 7 (by kernel_rfl) rfl rfl (by simp [Value.oneCell']) ?_ rfl)
              refine bodyPost_ret (v := .tuple #[.agg #[.string cl, .string sv, .slice none 0 0, .int .i64 F, .int .i64 (F + M), .int .i64 0, .int .i64 z5], .int .i64 0, .int .i64 0]) ?_ rfl ?_
              · exact (results_row_tmp2 (p := 6) (u := 7) (u2 := 8) (ty := 39) rfl _ _ (t4 + 1) #[.string cl, .string sv, .slice none 0 0, .int .i64 F, .int .i64 (F + M), .int .i64 0, .int .i64 z5] rfl (load_tick _ _ _ (0, 0) (setRow_heap _ _ _ _ _ _ (HZR.out #[.string cl, .string sv, .slice none 0 0, .int .i64 F, .int .i64 (F + M), .int .i64 0, .int .i64 z5])) rfl)).trans rfl
              · exact GrantPost.mk (t := ⟨cl, sv, F, F + M, 0, z5⟩) (HO.out.trans ((grantK_fin C1.out HRC.out.symm HF.out HM.out HR.out HU.out HZ1.out HZ2.out HZ4.out HZ5.out).trans (congrArg (fun x => (x, (0 : Int), (0 : Int))) (if_pos (Or.inr rfl))))) (below_setRow (below_setRow B3.out (by have := HT4.out; omega) _) (by have := HT4.out; omega) _)
            · have F1 := Lib.hid f1; have F2 := Lib.hid f2
              have g2 : (re == 0) = false := by simpa using f2
              go_wp2_with (with_reducible refine wpList_store_any rfl 39 _ _ rfl (t4 + 1) [.string cl, .string sv, .slice none 0 0, .int .i64 F, .int .i64 (F + M), .int .i64 Z2, .int .i64 fl] rfl rfl 39 _ (HZR.out _) 7 (by kernel_rfl) rfl rfl (by simp [Value.oneCell']) ?_ rfl)
              refine bodyPost_ret (v := .tuple #[.agg #[.string cl, .string sv, .slice none 0 0, .int .i64 F, .int .i64 (F + M), .int .i64 Z2, .int .i64 fl], .int .i64 0, .int .i64 0]) ?_ rfl ?_
              · exact (results_row_tmp2 (p := 6) (u := 7) (u2 := 8) (ty := 39) rfl _ _ (t4 + 1) #[.string cl, .string sv, .slice none 0 0, .int .i64 F, .int .i64 (F + M), .int .i64 Z2, .int .i64 fl] rfl (load_tick _ _ _ (0, 0) (setRow_heap _ _ _ _ _ _ (HZR.out #[.string cl, .string sv, .slice none 0 0, .int .i64 F, .int .i64 (F + M), .int .i64 Z2, .int .i64 fl])) rfl)).trans rfl
              · exact GrantPost.mk (t := ⟨cl, sv, F, F + M, Z2, fl⟩) (HO.out.trans ((grantK_fin C1.out HRC.out.symm HF.out HM.out HR.out HU.out HZ1.out HZ2.out HZ4.out HZ5.out).trans (congrArg (fun x => (x, (0 : Int), (0 : Int))) (if_neg (fun hh => hh.elim F1.out F2.out))))) (below_setRow (below_setRow B3.out (by have := HT4.out; omega) _) (by have := HT4.out; omega) _)
        · have g0 : (un == 0) = false := by simpa using e1
          by_cases e2 : F + M < un
          · have HU := Lib.hid (show (if un = 0 ∨ F + M < un then F + M else un) = F + M from if_pos (Or.inr e2))
            obtain ⟨Z2, hZ2⟩ : ∃ Z2, (if Z1 < F + M then F + M else Z1) = Z2 := ⟨_, rfl⟩
            have HZ2 := Lib.hid (show mx Z1 (F + M) = Z2 from hZ2)
            by_cases f1 : z4 = 0
            · have F1 := Lib.hid f1
              subst f1
              go_wp2_with (with_reducible refine wpList_store_any rfl 39 _ _ rfl (t4 + 1) [.string cl, .string sv, .slice none 0 0, .int .i64 F, .int .i64 (F + M), .int .i64 0, .int .i64 z5] rfl rfl 39 _ (HZR.out _) 7 (by kernel_rfl) rfl rfl (by simp [Value.oneCell']) ?_ rfl)
              refine bodyPost_ret (v := .tuple #[.agg #[.string cl, .string sv, .slice none 0 0, .int .i64 F, .int .i64 (F + M), .int .i64 0, .int .i64 z5], .int .i64 0, .int .i64 0]) ?_ rfl ?_
              · exact (results_row_tmp2 (p := 6) (u := 7) (u2 := 8) (ty := 39) rfl _ _ (t4 + 1) #[.string cl, .string sv, .slice none 0 0, .int .i64 F, .int .i64 (F + M), .int .i64 0, .int .i64 z5] rfl (load_tick _ _ _ (0, 0) (setRow_heap _ _ _ _ _ _ (HZR.out #[.string cl, .string sv, .slice none 0 0, .int .i64 F, .int .i64 (F + M), .int .i64 0, .int .i64 z5])) rfl)).trans rfl
              · exact GrantPost.mk (t := ⟨cl, sv, F, F + M, 0, z5⟩) (HO.out.trans ((grantK_fin C1.out HRC.out.symm HF.out HM.out HR.out HU.out HZ1.out HZ2.out HZ4.out HZ5.out).trans (congrArg (fun x => (x, (0 : Int), (0 : Int))) (if_pos (Or.inl rfl))))) (below_setRow (below_setRow B3.out (by have := HT4.out; omega) _) (by have := HT4.out; omega) _)
            · have g1 : (z4 == 0) = false := by simpa using f1
              by_cases f2 : re = 0
              · subst f2
                go_wp2_with (with_reducible refine wpList_store_any rfl 39 _ _ rfl (t4 + 1) [.string cl, .string sv, .slice none 0 0, .int .i64 F, .int .i64 (F + M), .int .i64 0, .int .i64 z5] rfl rfl 39 _ (HZR.out _) 7 (by kernel_rfl) rfl rfl (by simp [Value.oneCell']) ?_ rfl)
                refine bodyPost_ret (v := .tuple #[.agg #[.string cl, .string sv, .slice none 0 0, .int .i64 F, .int .i64 (F + M), .int .i64 0, .int .i64 z5], .int .i64 0, .int .i64 0]) ?_ rfl ?_
                · exact (results_row_tmp2 (p := 6) (u := 7) (u2 := 8) (ty := 39) rfl _ _ (t4 + 1) #[.string cl, .string sv, .slice none 0 0, .int .i64 F, .int .i64 (F + M), .int .i64 0, .int .i64 z5] rfl (load_tick _ _ _ (0, 0) (setRow_heap _ _ _ _ _ _ (HZR.out #[.string cl, .string sv, .slice none 0 0, .int .i64 F, .int .i64 (F + M), .int .i64 0, .int .i64 z5])) rfl)).trans rfl
                · exact GrantPost.mk (t := ⟨cl, sv, F, F + M, 0, z5⟩) (HO.out.trans ((grantK_fin C1.out HRC.out.symm HF.out HM.out HR.out HU.out HZ1.out HZ2.out HZ4.out HZ5.out).trans (congrArg (fun x => (x, (0 : Int), (0 : Int))) (if_pos (Or.inr rfl))))) (below_setRow (below_setRow B3.out (by have := HT4.out; omega) _) (by have := HT4.out; omega) _)
              · have F1 := Lib.hid f1; have F2 := Lib.hid f2
                have g2 : (re == 0) = false := by simpa using f2
                go_wp2_with (with_reducible refine wpList_store_any rfl 39 _ _ rfl (t4 + 1) [.string cl, .string sv, .slice none 0 0, .int .i64 F, .int .i64 (F + M), .int .i64 Z2, .int .i64 fl] rfl rfl 39 _ (HZR.out _) 7 (by kernel_rfl) rfl rfl (by simp [Value.oneCell']) ?_ rfl)
                refine bodyPost_ret (v := .tuple #[.agg #[.string cl, .string sv, .slice none 0 0, .int .i64 F, .int .i64 (F + M), .int .i64 Z2, .int .i64 fl], .int .i64 0, .int .i64 0]) ?_ rfl ?_
                · exact (results_row_tmp2 (p := 6) (u := 7) (u2 := 8) (ty := 39) rfl _ _ (t4 + 1) #[.string cl, .string sv, .slice none 0 0, .int .i64 F, .int .i64 (F + M), .int .i64 Z2, .int .i64 fl] rfl (load_tick _ _ _ (0, 0) (setRow_heap _ _ _ _ _ _ (HZR.out #[.string cl, .string sv, .slice none 0 0, .int .i64 F, .int .i64 (F + M), .int .i64 Z2, .int .i64 fl])) rfl)).trans rfl
                · exact GrantPost.mk (t := ⟨cl, sv, F, F + M, Z2, fl⟩) (HO.out.trans ((grantK_fin C1.out HRC.out.symm HF.out HM.out HR.out HU.out HZ1.out HZ2.out HZ4.out HZ5.out).trans (congrArg (fun x => (x, (0 : Int), (0 : Int))) (if_neg (fun hh => hh.elim F1.out F2.out))))) (below_setRow (below_setRow B3.out (by have := HT4.out; omega) _) (by have := HT4.out; omega) _)
          · have HU := Lib.hid (show (if un = 0 ∨ F + M < un then F + M else un) = un from if_neg (fun hh => hh.elim e1 e2))
            obtain ⟨Z2, hZ2⟩ : ∃ Z2, (if Z1 < un then un else Z1) = Z2 := ⟨_, rfl⟩
            have HZ2 := Lib.hid (show mx Z1 (un) = Z2 from hZ2)
            by_cases f1 : z4 = 0
            · have F1 := Lib.hid f1
              subst f1
              go_wp2_with (with_reducible refine wpList_store_any rfl 39 _ _ rfl (t4 + 1) [.string cl, .string sv, .slice none 0 0, .int .i64 F, .int .i64 (un), .int .i64 0, .int .i64 z5] rfl rfl 39 _ (HZR.out _) 7 (by kernel_rfl) rfl rfl (by simp [Value.oneCell']) ?_ rfl)
              refine bodyPost_ret (v := .tuple #[.agg #[.string cl, .string sv, .slice none 0 0, .int .i64 F, .int .i64 (un), .int .i64 0, .int .i64 z5], .int .i64 0, .int .i64 0]) ?_ rfl ?_
              · exact (results_row_tmp2 (p := 6) (u := 7) (u2 := 8) (ty := 39) rfl _ _ (t4 + 1) #[.string cl, .string sv, .slice none 0 0, .int .i64 F, .int .i64 (un), .int .i64 0, .int .i64 z5] rfl (load_tick _ _ _ (0, 0) (setRow_heap _ _ _ _ _ _ (HZR.out #[.string cl, .string sv, .slice none 0 0, .int .i64 F, .int .i64 (un), .int .i64 0, .int .i64 z5])) rfl)).trans rfl
              · exact GrantPost.mk (t := ⟨cl, sv, F, un, 0, z5⟩) (HO.out.trans ((grantK_fin C1.out HRC.out.symm HF.out HM.out HR.out HU.out HZ1.out HZ2.out HZ4.out HZ5.out).trans (congrArg (fun x => (x, (0 : Int), (0 : Int))) (if_pos (Or.inl rfl))))) (below_setRow (below_setRow B3.out (by have := HT4.out; omega) _) (by have := HT4.out; omega) _)
            · have g1 : (z4 == 0) = false := by simpa using f1
              by_cases f2 : re = 0
              · subst f2
                go_wp2_with (with_reducible refine wpList_store_any rfl 39 _ _ rfl (t4 + 1) [.string cl, .string sv, .slice none 0 0, .int .i64 F, .int .i64 (un), .int .i64 0, .int .i64 z5] rfl rfl 39 _ (HZR.out _) 7 (by kernel_rfl) rfl rfl (by simp [Value.oneCell']) ?_ rfl)
                refine bodyPost_ret (v := .tuple #[.agg #[.string cl, .string sv, .slice none 0 0, .int .i64 F, .int .i64 (un), .int .i64 0, .int .i64 z5], .int .i64 0, .int .i64 0]) ?_ rfl ?_
                · exact (results_row_tmp2 (p := 6) (u := 7) (u2 := 8) (ty := 39) rfl _ _ (t4 + 1) #[.string cl, .string sv, .slice none 0 0, .int .i64 F, .int .i64 (un), .int .i64 0, .int .i64 z5] rfl (load_tick _ _ _ (0, 0) (setRow_heap _ _ _ _ _ _ (HZR.out #[.string cl, .string sv, .slice none 0 0, .int .i64 F, .int .i64 (un), .int .i64 0, .int .i64 z5])) rfl)).trans rfl
                · exact GrantPost.mk (t := ⟨cl, sv, F, un, 0, z5⟩) (HO.out.trans ((grantK_fin C1.out HRC.out.symm HF.out HM.out HR.out HU.out HZ1.out HZ2.out HZ4.out HZ5.out).trans (congrArg (fun x => (x, (0 : Int), (0 : Int))) (if_pos (Or.inr rfl))))) (below_setRow (below_setRow B3.out (by have := HT4.out; omega) _) (by have := HT4.out; omega) _)
              · have F1 := Lib.hid f1; have F2 := Lib.hid f2
                have g2 : (re == 0) = false := by simpa using f2
                go_wp2_with (with_reducible refine wpList_store_any rfl 39 _ _ rfl (t4 + 1) [.string cl, .string sv, .slice none 0 0, .int .i64 F, .int .i64 (un), .int .i64 Z2, .int .i64 fl] rfl rfl 39 _ (HZR.out _) 7 (by kernel_rfl) rfl rfl (by simp [Value.oneCell']) ?_ rfl)
                refine bodyPost_ret (v := .tuple #[.agg #[.string cl, .string sv, .slice none 0 0, .int .i64 F, .int .i64 (un), .int .i64 Z2, .int .i64 fl], .int .i64 0, .int .i64 0]) ?_ rfl ?_
                · exact (results_row_tmp2 (p := 6) (u := 7) (u2 := 8) (ty := 39) rfl _ _ (t4 + 1) #[.string cl, .string sv, .slice none 0 0, .int .i64 F, .int .i64 (un), .int .i64 Z2, .int .i64 fl] rfl (load_tick _ _ _ (0, 0) (setRow_heap _ _ _ _ _ _ (HZR.out #[.string cl, .string sv, .slice none 0 0, .int .i64 F, .int .i64 (un), .int .i64 Z2, .int .i64 fl])) rfl)).trans rfl
                · exact GrantPost.mk (t := ⟨cl, sv, F, un, Z2, fl⟩) (HO.out.trans ((grantK_fin C1.out HRC.out.symm HF.out HM.out HR.out HU.out HZ1.out HZ2.out HZ4.out HZ5.out).trans (congrArg (fun x => (x, (0 : Int), (0 : Int))) (if_neg (fun hh => hh.elim F1.out F2.out))))) (below_setRow (below_setRow B3.out (by have := HT4.out; omega) _) (by have := HT4.out; omega) _)
      · have g3 : (rc != 0) = true := by simpa using d1
        go_wp2_with (with_reducible refine wpList_store_any rfl 39 _ _ rfl (t4 + 1) [.string ByteArray.empty, .string ByteArray.empty, .slice none 0 0, .int .i64 0, .int .i64 0, .int .i64 0, .int .i64 0] rfl rfl 39 _ RZ3.out 7 (by kernel_rfl) rfl rfl (by simp [Value.oneCell']) ?_ rfl)
        refine bodyPost_ret (v := .tuple #[.agg #[.string ByteArray.empty, .string ByteArray.empty, .slice none 0 0, .int .i64 0, .int .i64 0, .int .i64 0, .int .i64 0], .int .i64 rc, .int .i64 0]) ?_ rfl ?_
        · exact (results_row_tmp2 (p := 6) (u := 7) (u2 := 8) (ty := 39) rfl _ _ (t4 + 1) #[.string ByteArray.empty, .string ByteArray.empty, .slice none 0 0, .int .i64 0, .int .i64 0, .int .i64 0, .int .i64 0] rfl (load_tick _ _ _ (0, 0) (setRow_heap _ _ _ _ _ _ RZ3.out) rfl)).trans rfl
        · exact GrantPost.mk (t := zeroT) (HO.out.trans (grantK_no2 C1.out HRC.out d1)) (below_setRow B3.out (by have := HT4.out; omega) _)
    · show Last.wpMid _ _ _ _ _ _ _ _
      refine Last.mid_run _ (.pointer (some ⟨X.heap.size, 0, none⟩)) ((X.drewN 1).alloc (.cells #[.string ByteArray.empty, .slice none 0 0, .int .i64 0, .int .i64 0, .int .i64 0] 50)) rfl rfl (by go_simp) (fun _ hS => below_alloc hS _) ?_
      refine Last.mid_run _ (.pointer (some ⟨X.heap.size + 1, 0, none⟩)) (((X.drewN 1).alloc (.cells #[.string ByteArray.empty, .slice none 0 0, .int .i64 0, .int .i64 0, .int .i64 0] 50)).alloc (.cells #[.string ByteArray.empty, .slice none 0 0, .int .i64 0, .int .i64 0, .int .i64 0] 50)) rfl rfl (by go_simp) (fun _ hS => below_alloc hS _) ?_
      refine Last.mid_store _ 50 _ _ rfl rfl rfl (X.heap.size + 1) [.string n1, .slice A1 m1 k1, .int .i64 cfl, .int .i64 cli, .int .i64 cre] (by kernel_rfl) (by kernel_rfl) 50 _ (blk_new _ (by simp)) 5 (by kernel_rfl) rfl rfl (by simp [Value.oneCell']) rfl (fun _ hS => below_setRow hS (by omega) _) ?_
      refine Last.mid_store _ 50 _ _ rfl rfl rfl (X.heap.size) [.string n2, .slice A2 m2 k2, .int .i64 sfl, .int .i64 sli, .int .i64 sre] (by kernel_rfl) (by kernel_rfl) 50 _ ((setRow_other _ _ _ _ (by omega)).trans (blk_old _ (blk_new _ rfl))) 5 (by kernel_rfl) rfl rfl (by simp [Value.oneCell']) rfl (fun _ hS => below_setRow hS (by omega) _) ?_
      refine Last.mid_tail 18 (by kernel_rfl) (by decide) ?_
      simp only [List.drop_succ_cons, List.drop_zero]
      obtain ⟨X2, hX2⟩ : ∃ X2, X2 = ((((X.drewN 1).alloc (.cells #[.string ByteArray.empty, .slice none 0 0, .int .i64 0, .int .i64 0, .int .i64 0] 50)).alloc (.cells #[.string ByteArray.empty, .slice none 0 0, .int .i64 0, .int .i64 0, .int .i64 0] 50)).setRow (X.heap.size + 1) [.string n1, .slice A1 m1 k1, .int .i64 cfl, .int .i64 cli, .int .i64 cre].toArray).setRow (X.heap.size) [.string n2, .slice A2 m2 k2, .int .i64 sfl, .int .i64 sli, .int .i64 sre].toArray := ⟨_, rfl⟩
      have B2 := Lib.hid (show Below X.heap.size X X2 by rw [hX2]; exact below_setRow (below_setRow (below_alloc (below_alloc (below_drewN (Below.refl _ _) 1) _) _) (by omega) _) (by omega) _)
      have R9 := Lib.hid (show X2.heap[X.heap.size + 1]? = some (.cells [.string n1, .slice A1 m1 k1, .int .i64 cfl, .int .i64 cli, .int .i64 cre].toArray 50 (0, 0)) by rw [hX2]; exact (setRow_other _ _ _ _ (by omega)).trans (setRow_heap _ _ _ _ _ _ (blk_new _ (by simp))))
      have R10 := Lib.hid (show X2.heap[X.heap.size]? = some (.cells [.string n2, .slice A2 m2 k2, .int .i64 sfl, .int .i64 sli, .int .i64 sre].toArray 50 (0, 0)) by rw [hX2]; exact setRow_heap _ _ _ _ _ _ ((setRow_other _ _ _ _ (by omega)).trans (blk_old _ (blk_new _ rfl))))
      rw [← hX2]
      clear hX2
      obtain ⟨p9, hp9⟩ : ∃ p, p = X.heap.size + 1 := ⟨_, rfl⟩
      obtain ⟨p10, hp10⟩ : ∃ p, p = X.heap.size := ⟨_, rfl⟩
      rw [← hp9] at R9 ⊢
      rw [← hp10] at R10 ⊢
      have NE := Lib.hid (show p9 ≠ p10 ∧ p9 ≠ t4 ∧ p10 ≠ t4 ∧ p9 ≠ t4 + 1 ∧ p10 ≠ t4 + 1 by have := ZS.out; have := BX.out.size; omega)
      clear hp9 hp10
      obtain ⟨ct0, ct1, ct2, ct3, ct4, ct5, ct6⟩ := CT.out X2 (BX.out.trans (B2.out.mono BX.out.size))
      have hc9 := fun j => cell_of_row X2 p9 j _ _ _ R9.out
      have hc10 := fun j => cell_of_row X2 p10 j _ _ _ R10.out
      have u0 := hc9 0
      have u1 := hc9 1
      have u2 := hc9 2
      have u3 := hc9 3
      have u4 := hc9 4
      have v0 := hc10 0
      have v1 := hc10 1
      have v2 := hc10 2
      have v3 := hc10 3
      have v4 := hc10 4
      simp at u0 u1 u2 u3 u4 v0 v1 v2 v3 v4
      clear hc9 hc10
      go_wp2_with fail
      refine (refused_c cl sv A n c fr un re fl n1 A1 m1 k1 cfl cli cre n2 A2 m2 k2 sfl sli sre now X2 q3 q4 q1 q2).mono ?_
      rintro e w3 ⟨rfl, hb3⟩
      clear ct0 ct1 ct2 ct3 ct4 ct5 ct6 u0 u1 u2 u3 u4 v0 v1 v2 v3 v4
      obtain ⟨rc, hrc⟩ : ∃ rc, rc = refusedS fr un fl cfl cli sfl sli now := ⟨_, rfl⟩
      rw [← hrc]
      have HRC := Lib.hid hrc
      have hb2 : Below X0.heap.size X0 w3 := BX.out.trans ((B2.out.trans (hb3.mono B2.out.size)).mono BX.out.size)
      have B3 := Lib.hid (BX0.out.trans (hb2.mono BX0.out.size))
      have RT3 := Lib.hid (blk_below RT.out hb2 (Array.getElem?_eq_some_iff.1 RT.out).1)
      have RZ3 := Lib.hid (blk_below RZ.out hb2 (Array.getElem?_eq_some_iff.1 RZ.out).1)
      have S9 := Lib.hid (blk_below R9.out hb3 (Array.getElem?_eq_some_iff.1 R9.out).1)
      have S10 := Lib.hid (blk_below R10.out hb3 (Array.getElem?_eq_some_iff.1 R10.out).1)
      clear hrc hb2 hb3
      by_cases d1 : rc = 0
      · subst d1
        rw [← row_same RT3.out]
        have hset := fun cs i v => row_set RT3.out cs i v
        have hcell := fun cs j => row_cell RT3.out cs j
        have hfro := fun cs j => row_frozen RT3.out cs j
        have y9 : ∀ cs, (w3.setRow t4 cs).cell? ⟨p9, 3, none⟩ = some (.int .i64 cli) := fun cs => cell_of_row _ p9 3 _ _ _ ((setRow_other w3 t4 p9 cs NE.out.2.1).trans S9.out)
        have y9' : ∀ cs, (w3.setRow t4 cs).cell? ⟨p9, 4, none⟩ = some (.int .i64 cre) := fun cs => cell_of_row _ p9 4 _ _ _ ((setRow_other w3 t4 p9 cs NE.out.2.1).trans S9.out)
        have y10 : ∀ cs, (w3.setRow t4 cs).cell? ⟨p10, 3, none⟩ = some (.int .i64 sli) := fun cs => cell_of_row _ p10 3 _ _ _ ((setRow_other w3 t4 p10 cs NE.out.2.2.1).trans S10.out)
        have y10' : ∀ cs, (w3.setRow t4 cs).cell? ⟨p10, 4, none⟩ = some (.int .i64 sre) := fun cs => cell_of_row _ p10 4 _ _ _ ((setRow_other w3 t4 p10 cs NE.out.2.2.1).trans S10.out)
        have HZR := Lib.hid (fun cs => (setRow_other w3 t4 (t4 + 1) cs (by omega)).trans RZ3.out)
        obtain ⟨F, hF⟩ : ∃ F, (if fr < now then now else fr) = F := ⟨_, rfl⟩
        obtain ⟨M, hM⟩ : ∃ F, (if sli < cli then sli else cli) = F := ⟨_, rfl⟩
        obtain ⟨R, hR⟩ : ∃ F, (if sre < cre then sre else cre) = F := ⟨_, rfl⟩
        have hF0 : 0 ≤ F ∧ F ≤ 1099511627776 := by rw [← hF]; split <;> omega
        have hM0 : 0 ≤ M ∧ M ≤ 1099511627776 := by rw [← hM]; split <;> omega
        have hR0 : 0 ≤ R ∧ R ≤ 1099511627776 := by rw [← hR]; split <;> omega
        obtain ⟨hF1, hF2⟩ := hF0
        obtain ⟨hM1, hM2⟩ := hM0
        obtain ⟨hR1, hR2⟩ := hR0
        obtain ⟨Z1, hZ1⟩ : ∃ F', (if F + R < re then F + R else re) = F' := ⟨_, rfl⟩
        obtain ⟨z4, hz4⟩ : ∃ z, bits .and .i64 fl 4 = z := ⟨_, rfl⟩
        obtain ⟨z5, hz5⟩ : ∃ z, bits .andNot .i64 fl 4 = z := ⟨_, rfl⟩
        have HF := Lib.hid (show mx fr now = F from hF); have HM := Lib.hid (show mn cli sli = M from hM); have HR := Lib.hid (show mn cre sre = R from hR); have HZ1 := Lib.hid (show mn re (F + R) = Z1 from hZ1); have HZ4 := Lib.hid hz4; have HZ5 := Lib.hid hz5
        by_cases e1 : un = 0
        · subst e1
          have HU := Lib.hid (show (if (0 : Int) = 0 ∨ F + M < 0 then F + M else 0) = F + M from if_pos (Or.inl rfl))
          obtain ⟨Z2, hZ2⟩ : ∃ Z2, (if Z1 < F + M then F + M else Z1) = Z2 := ⟨_, rfl⟩
          have HZ2 := Lib.hid (show mx Z1 (F + M) = Z2 from hZ2)
          by_cases f1 : z4 = 0
          · have F1 := Lib.hid f1
            subst f1
            go_wp2_with (with_reducible refine wpList_store_any rfl 39 _ _ rfl (t4 + 1) [.string cl, .string sv, .slice none 0 0, .int .i64 F, .int .i64 (F + M), .int .i64 0, .int .i64 z5] rfl rfl 39 _ (HZR.out _) 7 (by kernel_rfl) rfl rfl (by simp [Value.oneCell']) ?_ rfl)
            refine bodyPost_ret (v := .tuple #[.agg #[.string cl, .string sv, .slice none 0 0, .int .i64 F, .int .i64 (F + M), .int .i64 0, .int .i64 z5], .int .i64 0, .int .i64 0]) ?_ rfl ?_
            · exact (results_row_tmp2 (p := 6) (u := 7) (u2 := 8) (ty := 39) rfl _ _ (t4 + 1) #[.string cl, .string sv, .slice none 0 0, .int .i64 F, .int .i64 (F + M), .int .i64 0, .int .i64 z5] rfl (load_tick _ _ _ (0, 0) (setRow_heap _ _ _ _ _ _ (HZR.out #[.string cl, .string sv, .slice none 0 0, .int .i64 F, .int .i64 (F + M), .int .i64 0, .int .i64 z5])) rfl)).trans rfl
            · exact GrantPost.mk (t := ⟨cl, sv, F, F + M, 0, z5⟩) (HO.out.trans ((grantK_fin C1.out HRC.out.symm HF.out HM.out HR.out HU.out HZ1.out HZ2.out HZ4.out HZ5.out).trans (congrArg (fun x => (x, (0 : Int), (0 : Int))) (if_pos (Or.inl rfl))))) (below_setRow (below_setRow B3.out (by have := HT4.out; omega) _) (by have := HT4.out; omega) _)
          · have g1 : (z4 == 0) = false := by simpa using f1
            by_cases f2 : re = 0
            · subst f2
              go_wp2_with (with_reducible refine wpList_store_any rfl 39 _ _ rfl (t4 + 1) [.string cl, .string sv, .slice none 0 0, .int .i64 F, .int .i64 (F + M), .int .i64 0, .int .i64 z5] rfl rfl 39 _ (HZR.out _) 7 (by kernel_rfl) rfl rfl (by simp [Value.oneCell']) ?_ rfl)
              refine bodyPost_ret (v := .tuple #[.agg #[.string cl, .string sv, .slice none 0 0, .int .i64 F, .int .i64 (F + M), .int .i64 0, .int .i64 z5], .int .i64 0, .int .i64 0]) ?_ rfl ?_
              · exact (results_row_tmp2 (p := 6) (u := 7) (u2 := 8) (ty := 39) rfl _ _ (t4 + 1) #[.string cl, .string sv, .slice none 0 0, .int .i64 F, .int .i64 (F + M), .int .i64 0, .int .i64 z5] rfl (load_tick _ _ _ (0, 0) (setRow_heap _ _ _ _ _ _ (HZR.out #[.string cl, .string sv, .slice none 0 0, .int .i64 F, .int .i64 (F + M), .int .i64 0, .int .i64 z5])) rfl)).trans rfl
              · exact GrantPost.mk (t := ⟨cl, sv, F, F + M, 0, z5⟩) (HO.out.trans ((grantK_fin C1.out HRC.out.symm HF.out HM.out HR.out HU.out HZ1.out HZ2.out HZ4.out HZ5.out).trans (congrArg (fun x => (x, (0 : Int), (0 : Int))) (if_pos (Or.inr rfl))))) (below_setRow (below_setRow B3.out (by have := HT4.out; omega) _) (by have := HT4.out; omega) _)
            · have F1 := Lib.hid f1; have F2 := Lib.hid f2
              have g2 : (re == 0) = false := by simpa using f2
              go_wp2_with (with_reducible refine wpList_store_any rfl 39 _ _ rfl (t4 + 1) [.string cl, .string sv, .slice none 0 0, .int .i64 F, .int .i64 (F + M), .int .i64 Z2, .int .i64 fl] rfl rfl 39 _ (HZR.out _) 7 (by kernel_rfl) rfl rfl (by simp [Value.oneCell']) ?_ rfl)
              refine bodyPost_ret (v := .tuple #[.agg #[.string cl, .string sv, .slice none 0 0, .int .i64 F, .int .i64 (F + M), .int .i64 Z2, .int .i64 fl], .int .i64 0, .int .i64 0]) ?_ rfl ?_
              · exact (results_row_tmp2 (p := 6) (u := 7) (u2 := 8) (ty := 39) rfl _ _ (t4 + 1) #[.string cl, .string sv, .slice none 0 0, .int .i64 F, .int .i64 (F + M), .int .i64 Z2, .int .i64 fl] rfl (load_tick _ _ _ (0, 0) (setRow_heap _ _ _ _ _ _ (HZR.out #[.string cl, .string sv, .slice none 0 0, .int .i64 F, .int .i64 (F + M), .int .i64 Z2, .int .i64 fl])) rfl)).trans rfl
              · exact GrantPost.mk (t := ⟨cl, sv, F, F + M, Z2, fl⟩) (HO.out.trans ((grantK_fin C1.out HRC.out.symm HF.out HM.out HR.out HU.out HZ1.out HZ2.out HZ4.out HZ5.out).trans (congrArg (fun x => (x, (0 : Int), (0 : Int))) (if_neg (fun hh => hh.elim F1.out F2.out))))) (below_setRow (below_setRow B3.out (by have := HT4.out; omega) _) (by have := HT4.out; omega) _)
        · have g0 : (un == 0) = false := by simpa using e1
          by_cases e2 : F + M < un
          · have HU := Lib.hid (show (if un = 0 ∨ F + M < un then F + M else un) = F + M from if_pos (Or.inr e2))
            obtain ⟨Z2, hZ2⟩ : ∃ Z2, (if Z1 < F + M then F + M else Z1) = Z2 := ⟨_, rfl⟩
            have HZ2 := Lib.hid (show mx Z1 (F + M) = Z2 from hZ2)
            by_cases f1 : z4 = 0
            · have F1 := Lib.hid f1
              subst f1
              go_wp2_with (with_reducible refine wpList_store_any rfl 39 _ _ rfl (t4 + 1) [.string cl, .string sv, .slice none 0 0, .int .i64 F, .int .i64 (F + M), .int .i64 0, .int .i64 z5] rfl rfl 39 _ (HZR.out _) 7 (by kernel_rfl) rfl rfl (by simp [Value.oneCell']) ?_ rfl)
              refine bodyPost_ret (v := .tuple #[.agg #[.string cl, .string sv, .slice none 0 0, .int .i64 F, .int .i64 (F + M), .int .i64 0, .int .i64 z5], .int .i64 0, .int .i64 0]) ?_ rfl ?_
              · exact (results_row_tmp2 (p := 6) (u := 7) (u2 := 8) (ty := 39) rfl _ _ (t4 + 1) #[.string cl, .string sv, .slice none 0 0, .int .i64 F, .int .i64 (F + M), .int .i64 0, .int .i64 z5] rfl (load_tick _ _ _ (0, 0) (setRow_heap _ _ _ _ _ _ (HZR.out #[.string cl, .string sv, .slice none 0 0, .int .i64 F, .int .i64 (F + M), .int .i64 0, .int .i64 z5])) rfl)).trans rfl
              · exact GrantPost.mk (t := ⟨cl, sv, F, F + M, 0, z5⟩) (HO.out.trans ((grantK_fin C1.out HRC.out.symm HF.out HM.out HR.out HU.out HZ1.out HZ2.out HZ4.out HZ5.out).trans (congrArg (fun x => (x, (0 : Int), (0 : Int))) (if_pos (Or.inl rfl))))) (below_setRow (below_setRow B3.out (by have := HT4.out; omega) _) (by have := HT4.out; omega) _)
            · have g1 : (z4 == 0) = false := by simpa using f1
              by_cases f2 : re = 0
              · subst f2
                go_wp2_with (with_reducible refine wpList_store_any rfl 39 _ _ rfl (t4 + 1) [.string cl, .string sv, .slice none 0 0, .int .i64 F, .int .i64 (F + M), .int .i64 0, .int .i64 z5] rfl rfl 39 _ (HZR.out _) 7 (by kernel_rfl) rfl rfl (by simp [Value.oneCell']) ?_ rfl)
                refine bodyPost_ret (v := .tuple #[.agg #[.string cl, .string sv, .slice none 0 0, .int .i64 F, .int .i64 (F + M), .int .i64 0, .int .i64 z5], .int .i64 0, .int .i64 0]) ?_ rfl ?_
                · exact (results_row_tmp2 (p := 6) (u := 7) (u2 := 8) (ty := 39) rfl _ _ (t4 + 1) #[.string cl, .string sv, .slice none 0 0, .int .i64 F, .int .i64 (F + M), .int .i64 0, .int .i64 z5] rfl (load_tick _ _ _ (0, 0) (setRow_heap _ _ _ _ _ _ (HZR.out #[.string cl, .string sv, .slice none 0 0, .int .i64 F, .int .i64 (F + M), .int .i64 0, .int .i64 z5])) rfl)).trans rfl
                · exact GrantPost.mk (t := ⟨cl, sv, F, F + M, 0, z5⟩) (HO.out.trans ((grantK_fin C1.out HRC.out.symm HF.out HM.out HR.out HU.out HZ1.out HZ2.out HZ4.out HZ5.out).trans (congrArg (fun x => (x, (0 : Int), (0 : Int))) (if_pos (Or.inr rfl))))) (below_setRow (below_setRow B3.out (by have := HT4.out; omega) _) (by have := HT4.out; omega) _)
              · have F1 := Lib.hid f1; have F2 := Lib.hid f2
                have g2 : (re == 0) = false := by simpa using f2
                go_wp2_with (with_reducible refine wpList_store_any rfl 39 _ _ rfl (t4 + 1) [.string cl, .string sv, .slice none 0 0, .int .i64 F, .int .i64 (F + M), .int .i64 Z2, .int .i64 fl] rfl rfl 39 _ (HZR.out _) 7 (by kernel_rfl) rfl rfl (by simp [Value.oneCell']) ?_ rfl)
                refine bodyPost_ret (v := .tuple #[.agg #[.string cl, .string sv, .slice none 0 0, .int .i64 F, .int .i64 (F + M), .int .i64 Z2, .int .i64 fl], .int .i64 0, .int .i64 0]) ?_ rfl ?_
                · exact (results_row_tmp2 (p := 6) (u := 7) (u2 := 8) (ty := 39) rfl _ _ (t4 + 1) #[.string cl, .string sv, .slice none 0 0, .int .i64 F, .int .i64 (F + M), .int .i64 Z2, .int .i64 fl] rfl (load_tick _ _ _ (0, 0) (setRow_heap _ _ _ _ _ _ (HZR.out #[.string cl, .string sv, .slice none 0 0, .int .i64 F, .int .i64 (F + M), .int .i64 Z2, .int .i64 fl])) rfl)).trans rfl
                · exact GrantPost.mk (t := ⟨cl, sv, F, F + M, Z2, fl⟩) (HO.out.trans ((grantK_fin C1.out HRC.out.symm HF.out HM.out HR.out HU.out HZ1.out HZ2.out HZ4.out HZ5.out).trans (congrArg (fun x => (x, (0 : Int), (0 : Int))) (if_neg (fun hh => hh.elim F1.out F2.out))))) (below_setRow (below_setRow B3.out (by have := HT4.out; omega) _) (by have := HT4.out; omega) _)
          · have HU := Lib.hid (show (if un = 0 ∨ F + M < un then F + M else un) = un from if_neg (fun hh => hh.elim e1 e2))
            obtain ⟨Z2, hZ2⟩ : ∃ Z2, (if Z1 < un then un else Z1) = Z2 := ⟨_, rfl⟩
            have HZ2 := Lib.hid (show mx Z1 (un) = Z2 from hZ2)
            by_cases f1 : z4 = 0
            · have F1 := Lib.hid f1
              subst f1
              go_wp2_with (with_reducible refine wpList_store_any rfl 39 _ _ rfl (t4 + 1) [.string cl, .string sv, .slice none 0 0, .int .i64 F, .int .i64 (un), .int .i64 0, .int .i64 z5] rfl rfl 39 _ (HZR.out _) 7 (by kernel_rfl) rfl rfl (by simp [Value.oneCell']) ?_ rfl)
              refine bodyPost_ret (v := .tuple #[.agg #[.string cl, .string sv, .slice none 0 0, .int .i64 F, .int .i64 (un), .int .i64 0, .int .i64 z5], .int .i64 0, .int .i64 0]) ?_ rfl ?_
              · exact (results_row_tmp2 (p := 6) (u := 7) (u2 := 8) (ty := 39) rfl _ _ (t4 + 1) #[.string cl, .string sv, .slice none 0 0, .int .i64 F, .int .i64 (un), .int .i64 0, .int .i64 z5] rfl (load_tick _ _ _ (0, 0) (setRow_heap _ _ _ _ _ _ (HZR.out #[.string cl, .string sv, .slice none 0 0, .int .i64 F, .int .i64 (un), .int .i64 0, .int .i64 z5])) rfl)).trans rfl
              · exact GrantPost.mk (t := ⟨cl, sv, F, un, 0, z5⟩) (HO.out.trans ((grantK_fin C1.out HRC.out.symm HF.out HM.out HR.out HU.out HZ1.out HZ2.out HZ4.out HZ5.out).trans (congrArg (fun x => (x, (0 : Int), (0 : Int))) (if_pos (Or.inl rfl))))) (below_setRow (below_setRow B3.out (by have := HT4.out; omega) _) (by have := HT4.out; omega) _)
            · have g1 : (z4 == 0) = false := by simpa using f1
              by_cases f2 : re = 0
              · subst f2
                go_wp2_with (with_reducible refine wpList_store_any rfl 39 _ _ rfl (t4 + 1) [.string cl, .string sv, .slice none 0 0, .int .i64 F, .int .i64 (un), .int .i64 0, .int .i64 z5] rfl rfl 39 _ (HZR.out _) 7 (by kernel_rfl) rfl rfl (by simp [Value.oneCell']) ?_ rfl)
                refine bodyPost_ret (v := .tuple #[.agg #[.string cl, .string sv, .slice none 0 0, .int .i64 F, .int .i64 (un), .int .i64 0, .int .i64 z5], .int .i64 0, .int .i64 0]) ?_ rfl ?_
                · exact (results_row_tmp2 (p := 6) (u := 7) (u2 := 8) (ty := 39) rfl _ _ (t4 + 1) #[.string cl, .string sv, .slice none 0 0, .int .i64 F, .int .i64 (un), .int .i64 0, .int .i64 z5] rfl (load_tick _ _ _ (0, 0) (setRow_heap _ _ _ _ _ _ (HZR.out #[.string cl, .string sv, .slice none 0 0, .int .i64 F, .int .i64 (un), .int .i64 0, .int .i64 z5])) rfl)).trans rfl
                · exact GrantPost.mk (t := ⟨cl, sv, F, un, 0, z5⟩) (HO.out.trans ((grantK_fin C1.out HRC.out.symm HF.out HM.out HR.out HU.out HZ1.out HZ2.out HZ4.out HZ5.out).trans (congrArg (fun x => (x, (0 : Int), (0 : Int))) (if_pos (Or.inr rfl))))) (below_setRow (below_setRow B3.out (by have := HT4.out; omega) _) (by have := HT4.out; omega) _)
              · have F1 := Lib.hid f1; have F2 := Lib.hid f2
                have g2 : (re == 0) = false := by simpa using f2
                go_wp2_with (with_reducible refine wpList_store_any rfl 39 _ _ rfl (t4 + 1) [.string cl, .string sv, .slice none 0 0, .int .i64 F, .int .i64 (un), .int .i64 Z2, .int .i64 fl] rfl rfl 39 _ (HZR.out _) 7 (by kernel_rfl) rfl rfl (by simp [Value.oneCell']) ?_ rfl)
                refine bodyPost_ret (v := .tuple #[.agg #[.string cl, .string sv, .slice none 0 0, .int .i64 F, .int .i64 (un), .int .i64 Z2, .int .i64 fl], .int .i64 0, .int .i64 0]) ?_ rfl ?_
                · exact (results_row_tmp2 (p := 6) (u := 7) (u2 := 8) (ty := 39) rfl _ _ (t4 + 1) #[.string cl, .string sv, .slice none 0 0, .int .i64 F, .int .i64 (un), .int .i64 Z2, .int .i64 fl] rfl (load_tick _ _ _ (0, 0) (setRow_heap _ _ _ _ _ _ (HZR.out #[.string cl, .string sv, .slice none 0 0, .int .i64 F, .int .i64 (un), .int .i64 Z2, .int .i64 fl])) rfl)).trans rfl
                · exact GrantPost.mk (t := ⟨cl, sv, F, un, Z2, fl⟩) (HO.out.trans ((grantK_fin C1.out HRC.out.symm HF.out HM.out HR.out HU.out HZ1.out HZ2.out HZ4.out HZ5.out).trans (congrArg (fun x => (x, (0 : Int), (0 : Int))) (if_neg (fun hh => hh.elim F1.out F2.out))))) (below_setRow (below_setRow B3.out (by have := HT4.out; omega) _) (by have := HT4.out; omega) _)
      · have g3 : (rc != 0) = true := by simpa using d1
        go_wp2_with (with_reducible refine wpList_store_any rfl 39 _ _ rfl (t4 + 1) [.string ByteArray.empty, .string ByteArray.empty, .slice none 0 0, .int .i64 0, .int .i64 0, .int .i64 0, .int .i64 0] rfl rfl 39 _ RZ3.out 7 (by kernel_rfl) rfl rfl (by simp [Value.oneCell']) ?_ rfl)
        refine bodyPost_ret (v := .tuple #[.agg #[.string ByteArray.empty, .string ByteArray.empty, .slice none 0 0, .int .i64 0, .int .i64 0, .int .i64 0, .int .i64 0], .int .i64 rc, .int .i64 0]) ?_ rfl ?_
        · exact (results_row_tmp2 (p := 6) (u := 7) (u2 := 8) (ty := 39) rfl _ _ (t4 + 1) #[.string ByteArray.empty, .string ByteArray.empty, .slice none 0 0, .int .i64 0, .int .i64 0, .int .i64 0, .int .i64 0] rfl (load_tick _ _ _ (0, 0) (setRow_heap _ _ _ _ _ _ RZ3.out) rfl)).trans rfl
        · exact GrantPost.mk (t := zeroT) (HO.out.trans (grantK_no2 C1.out HRC.out d1)) (below_setRow B3.out (by have := HT4.out; omega) _)
end Go.Proofs.YteplaginenhfkaaDoor
