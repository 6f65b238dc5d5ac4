/-
  who: the walk of the reference's Grant.
-/
import Derived.Test.YteplaginenhfkaaDoorWhoM
set_option linter.unusedVariables false
set_option linter.unusedSimpArgs false
namespace Go.Proofs.YteplaginenhfkaaDoor
open Go.RowKit

set_option maxRecDepth 100000 in
theorem rbit_c (x k : Int) (hk : k = 1 ∨ k = 2 ∨ k = 4 ∨ k = 8) (h0 : 0 ≤ x) (h1 : x ≤ 15) (w : World) : Calls Tryd.prog 43 #[.int .i64 x, .int .i64 k] w fun e w' => e = .returned (.bool (bitB x k)) ∧ w = w' := by
  rcases hk with rfl | rfl | rfl | rfl
  all_goals
    go_enter Tryd.func43, Tryd.ntmps43
    go_wp2
    go_ret
    exact ⟨congrArg (fun b => Ending.returned (Value.bool b)) (by simp [bitB]), rfl⟩
theorem grantK_bad {c s : Lk} {cl sv : ByteArray} {fr un re fl now : Int} (h : [now, fr, un, re].all okTime = false) : grantK c s cl sv fr un re fl now = (zeroT, 0, 2) := by
  unfold grantK
  rw [if_pos h]
theorem grantK_no3 {c s : Lk} {cl sv : ByteArray} {fr un re fl now rc : Int} (h1 : [now, fr, un, re].all okTime = true) (h2 : rc = refusedS fr un fl c.fl c.li s.fl s.li now) (h : ¬ rc = 0) : grantK c s cl sv fr un re fl now = (zeroT, rc, 0) := by
  subst h2
  unfold grantK
  rw [if_neg (by rw [h1]; decide)]
  exact if_pos h
set_option maxRecDepth 100000 in
set_option maxHeartbeats 8000000 in
theorem rgrant_c (B q : Nat) (v : Value) (M : List Ent) (cl sv : ByteArray) (A : Option Addr) (n c : Nat) (fr un re fl now : Int) (w : World) (h : RbA w B q v M) (hM : M.length ≤ 1000) (hok : ∀ e ∈ M, e.ok) (hfl : -9223372036854775808 ≤ fl ∧ fl ≤ 9223372036854775807) :
    Calls Tryd.prog 19 #[.pointer (some ⟨q, 0, none⟩), tkV cl sv A n c fr un re fl, .int .i64 now] w (GrantPost w (grantK (lookE M cl) (lookE M sv) cl sv fr un re fl now)) := by
  have hz := zeroRPers
  have hzt := zeroTick
  have H := Lib.hid h; have HMM := Lib.hid hM; have HOK := Lib.hid hok; have HFL := Lib.hid hfl
  obtain ⟨o, ho⟩ : ∃ o, o = grantK (lookE M cl) (lookE M sv) cl sv fr un re fl now := ⟨_, rfl⟩
  rw [← ho]
  have HO := Lib.hid ho
  obtain ⟨t4, ht4⟩ : ∃ t4, t4 = w.heap.size := ⟨_, rfl⟩
  obtain ⟨X0, hX0⟩ : ∃ X0, X0 = (w.alloc (.cells #[.string cl, .string sv, .slice A n c, .int .i64 fr, .int .i64 un, .int .i64 re, .int .i64 fl] 39)).alloc (.cells #[.string ByteArray.empty, .string ByteArray.empty, .slice none 0 0, .int .i64 0, .int .i64 0, .int .i64 0, .int .i64 0] 39) := ⟨_, rfl⟩
  have HT4 := Lib.hid ht4
  have HX0 := Lib.hid hX0
  have BX0 := Lib.hid (show Below w.heap.size w X0 by rw [hX0]; exact below_alloc (below_alloc (Below.refl _ _) _) _)
  have RT := Lib.hid (show X0.heap[t4]? = some (.cells #[.string cl, .string sv, .slice A n c, .int .i64 fr, .int .i64 un, .int .i64 re, .int .i64 fl] 39 (0, 0)) by rw [hX0, ht4]; exact blk_old _ (blk_new _ rfl))
  have RZ := Lib.hid (show X0.heap[t4 + 1]? = some (.cells [.string ByteArray.empty, .string ByteArray.empty, .slice none 0 0, .int .i64 0, .int .i64 0, .int .i64 0, .int .i64 0].toArray 39 (0, 0)) by rw [hX0, ht4]; exact blk_new _ (by simp))
  have RA0 := Lib.hid (H.out.below BX0.out)
  have CT := Lib.hid (show ∀ W', Below X0.heap.size X0 W' → (W'.cell? ⟨t4, 0, none⟩ = some (.string cl) ∧ W'.cell? ⟨t4, 1, none⟩ = some (.string sv) ∧ W'.cell? ⟨t4, 2, none⟩ = some (.slice A n c) ∧ W'.cell? ⟨t4, 3, none⟩ = some (.int .i64 fr) ∧ W'.cell? ⟨t4, 4, none⟩ = some (.int .i64 un) ∧ W'.cell? ⟨t4, 5, none⟩ = some (.int .i64 re) ∧ W'.cell? ⟨t4, 6, none⟩ = some (.int .i64 fl)) from fun W' hW => by
    have hr := blk_below RT.out hW (Array.getElem?_eq_some_iff.1 RT.out).1
    refine ⟨?_, ?_, ?_, ?_, ?_, ?_, ?_⟩ <;> (rw [cell_of_row W' t4 _ _ _ _ hr]; rfl))
  unfold tkV
  clear h hM hok hfl ho ht4 hX0
  go_enter Tryd.func19, Tryd.ntmps19
  obtain ⟨ct0, ct1, ct2, ct3, ct4, ct5, ct6⟩ := CT.out X0 (Below.refl _ _)
  rw [HX0.out, HT4.out] at ct0 ct1 ct2 ct3 ct4 ct5 ct6
  go_wp2_with fail
  rw [← HX0.out, ← HT4.out]
  rw [← HX0.out, ← HT4.out] at ct0 ct1 ct2 ct3 ct4 ct5 ct6
  refine (ref_time_c now _).mono ?_
  rintro e w' ⟨rfl, rfl⟩
  cases c1 : okTime now with
  | false =>
    go_wp2_with (with_reducible refine wpList_store_any rfl 39 _ _ rfl (t4 + 1) [.string ByteArray.empty, .string ByteArray.empty, .slice none 0 0, .int .i64 0, .int .i64 0, .int .i64 0, .int .i64 0] rfl rfl 39 _ (RZ.out) 7 (by kernel_rfl) rfl rfl (by simp [Value.oneCell']) ?_ rfl)
    refine bodyPost_ret (v := .tuple #[.agg #[.string ByteArray.empty, .string ByteArray.empty, .slice none 0 0, .int .i64 0, .int .i64 0, .int .i64 0, .int .i64 0], .int .i64 0, .int .i64 2]) ?_ rfl ?_
    · exact (results_row_tmp2 (p := 6) (u := 7) (u2 := 8) (ty := 39) rfl _ _ (t4 + 1) #[.string ByteArray.empty, .string ByteArray.empty, .slice none 0 0, .int .i64 0, .int .i64 0, .int .i64 0, .int .i64 0] rfl (load_tick _ _ _ (0, 0) (setRow_heap _ _ _ _ _ _ (RZ.out)) rfl)).trans rfl
    · exact GrantPost.mk (t := zeroT) (HO.out.trans (grantK_bad (by simp [c1]))) (below_setRow (BX0.out) (by have := HT4.out; omega) _)
  | true =>
    go_wp2_with fail
    refine (ref_time_c fr _).mono ?_
    rintro e w' ⟨rfl, rfl⟩
    cases c2 : okTime fr with
    | false =>
      go_wp2_with (with_reducible refine wpList_store_any rfl 39 _ _ rfl (t4 + 1) [.string ByteArray.empty, .string ByteArray.empty, .slice none 0 0, .int .i64 0, .int .i64 0, .int .i64 0, .int .i64 0] rfl rfl 39 _ (RZ.out) 7 (by kernel_rfl) rfl rfl (by simp [Value.oneCell']) ?_ rfl)
      refine bodyPost_ret (v := .tuple #[.agg #[.string ByteArray.empty, .string ByteArray.empty, .slice none 0 0, .int .i64 0, .int .i64 0, .int .i64 0, .int .i64 0], .int .i64 0, .int .i64 2]) ?_ rfl ?_
      · exact (results_row_tmp2 (p := 6) (u := 7) (u2 := 8) (ty := 39) rfl _ _ (t4 + 1) #[.string ByteArray.empty, .string ByteArray.empty, .slice none 0 0, .int .i64 0, .int .i64 0, .int .i64 0, .int .i64 0] rfl (load_tick _ _ _ (0, 0) (setRow_heap _ _ _ _ _ _ (RZ.out)) rfl)).trans rfl
      · exact GrantPost.mk (t := zeroT) (HO.out.trans (grantK_bad (by simp [c2]))) (below_setRow (BX0.out) (by have := HT4.out; omega) _)
    | true =>
      go_wp2_with fail
      refine (ref_time_c un _).mono ?_
      rintro e w' ⟨rfl, rfl⟩
      cases c3 : okTime un with
      | false =>
        go_wp2_with (with_reducible refine wpList_store_any rfl 39 _ _ rfl (t4 + 1) [.string ByteArray.empty, .string ByteArray.empty, .slice none 0 0, .int .i64 0, .int .i64 0, .int .i64 0, .int .i64 0] rfl rfl 39 _ (RZ.out) 7 (by kernel_rfl) rfl rfl (by simp [Value.oneCell']) ?_ rfl)
        refine bodyPost_ret (v := .tuple #[.agg #[.string ByteArray.empty, .string ByteArray.empty, .slice none 0 0, .int .i64 0, .int .i64 0, .int .i64 0, .int .i64 0], .int .i64 0, .int .i64 2]) ?_ rfl ?_
        · exact (results_row_tmp2 (p := 6) (u := 7) (u2 := 8) (ty := 39) rfl _ _ (t4 + 1) #[.string ByteArray.empty, .string ByteArray.empty, .slice none 0 0, .int .i64 0, .int .i64 0, .int .i64 0, .int .i64 0] rfl (load_tick _ _ _ (0, 0) (setRow_heap _ _ _ _ _ _ (RZ.out)) rfl)).trans rfl
        · exact GrantPost.mk (t := zeroT) (HO.out.trans (grantK_bad (by simp [c3]))) (below_setRow (BX0.out) (by have := HT4.out; omega) _)
      | true =>
        go_wp2_with fail
        refine (ref_time_c re _).mono ?_
        rintro e w' ⟨rfl, rfl⟩
        cases c4 : okTime re with
        | false =>
          go_wp2_with (with_reducible refine wpList_store_any rfl 39 _ _ rfl (t4 + 1) [.string ByteArray.empty, .string ByteArray.empty, .slice none 0 0, .int .i64 0, .int .i64 0, .int .i64 0, .int .i64 0] rfl rfl 39 _ (RZ.out) 7 (by kernel_rfl) rfl rfl (by simp [Value.oneCell']) ?_ rfl)
          refine bodyPost_ret (v := .tuple #[.agg #[.string ByteArray.empty, .string ByteArray.empty, .slice none 0 0, .int .i64 0, .int .i64 0, .int .i64 0, .int .i64 0], .int .i64 0, .int .i64 2]) ?_ rfl ?_
          · exact (results_row_tmp2 (p := 6) (u := 7) (u2 := 8) (ty := 39) rfl _ _ (t4 + 1) #[.string ByteArray.empty, .string ByteArray.empty, .slice none 0 0, .int .i64 0, .int .i64 0, .int .i64 0, .int .i64 0] rfl (load_tick _ _ _ (0, 0) (setRow_heap _ _ _ _ _ _ (RZ.out)) rfl)).trans rfl
          · exact GrantPost.mk (t := zeroT) (HO.out.trans (grantK_bad (by simp [c4]))) (below_setRow (BX0.out) (by have := HT4.out; omega) _)
        | true =>
          have C1 := Lib.hid (show [now, fr, un, re].all okTime = true by simp [c1, c2, c3, c4])
          have hbd : (0 ≤ now ∧ now ≤ 1099511627776) ∧ (0 ≤ fr ∧ fr ≤ 1099511627776) ∧ (0 ≤ un ∧ un ≤ 1099511627776) ∧ (0 ≤ re ∧ re ≤ 1099511627776) := ⟨of_decide_eq_true c1, of_decide_eq_true c2, of_decide_eq_true c3, of_decide_eq_true c4⟩
          obtain ⟨⟨q1, q2⟩, ⟨q3, q4⟩, ⟨q5, q6⟩, q7, q8⟩ := hbd
          clear c1 c2 c3 c4
          go_wp2_with fail
          refine (rfind_c B q v M cl X0 RA0.out HMM.out).mono ?_
          clear ct0 ct1 ct2 ct3 ct4 ct5 ct6
          intro e w3 hpost
          obtain ⟨hb3, hp1, hp2⟩ := hpost
          have H3 := Lib.hid hb3; have B3 := Lib.hid (BX0.out.trans (hb3.mono BX0.out.size)); have RZ3 := Lib.hid (blk_below RZ.out hb3 (Array.getElem?_eq_some_iff.1 RZ.out).1)
          cases hf : findE M cl with
          | none =>
            obtain rfl := hp1 hf
            have HRC := Lib.hid (show refusedS fr un fl (lookE M cl).fl (lookE M cl).li (lookE M sv).fl (lookE M sv).li now = 6 from ref_six (by unfold lookE; rw [hf]; decide) (by unfold lookE; rw [hf]; decide))
            unfold noneV persV
            clear hp1 hp2 hb3 hf
            go_wp2_with (with_reducible refine wpList_store_any rfl 39 _ _ rfl (t4 + 1) [.string ByteArray.empty, .string ByteArray.empty, .slice none 0 0, .int .i64 0, .int .i64 0, .int .i64 0, .int .i64 0] rfl rfl 39 _ (blk_old _ RZ3.out) 7 (by kernel_rfl) rfl rfl (by simp [Value.oneCell']) ?_ rfl)
            refine bodyPost_ret (v := .tuple #[.agg #[.string ByteArray.empty, .string ByteArray.empty, .slice none 0 0, .int .i64 0, .int .i64 0, .int .i64 0, .int .i64 0], .int .i64 6, .int .i64 0]) ?_ rfl ?_
            · exact (results_row_tmp2 (p := 6) (u := 7) (u2 := 8) (ty := 39) rfl _ _ (t4 + 1) #[.string ByteArray.empty, .string ByteArray.empty, .slice none 0 0, .int .i64 0, .int .i64 0, .int .i64 0, .int .i64 0] rfl (load_tick _ _ _ (0, 0) (setRow_heap _ _ _ _ _ _ (blk_old _ RZ3.out)) rfl)).trans rfl
            · exact GrantPost.mk (t := zeroT) (HO.out.trans (grantK_no3 C1.out (HRC.out.symm) (by decide))) (below_setRow (below_alloc B3.out _) (by have := HT4.out; omega) _)
          | some x =>
            obtain ⟨A2, d2, rfl, _, _⟩ := hp2 x hf
            have hxo := HOK.out x (List.mem_of_find?_eq_some hf)
            have HLC := Lib.hid (show lookE M cl = x.lk by unfold lookE; rw [hf]; rfl)
            obtain ⟨xn, xb, xc, xk, cfl, cli, cre⟩ := x
            obtain ⟨a1, ⟨a2, a3⟩, a4, a5⟩ := hxo
            simp only at a1 a2 a3 a4 a5
            have BC := Lib.hid a1
            have HLC2 := Lib.hid (show lookE M cl = ⟨cfl, cli, cre⟩ from HLC.out)
            simp only
            obtain ⟨k2, hk2⟩ : ∃ k, k = xk.length := ⟨_, rfl⟩
            rw [← hk2]
            unfold persV
            clear hp1 hp2 hb3 hf a1 HLC hk2
            have a6 : 0 ≤ cli := by omega
            have a7 : 0 ≤ cre := by omega
            go_wp2_with fail
            obtain ⟨X4, hX4⟩ : ∃ X, X = w3.alloc (.cells #[.string xn, .slice A2 k2 d2, .int .i64 cfl, .int .i64 cli, .int .i64 cre] 45) := ⟨_, rfl⟩
            obtain ⟨p9, hp9⟩ : ∃ p, p = w3.heap.size := ⟨_, rfl⟩
            rw [← hX4, ← hp9]
            have hb4 : Below w3.heap.size w3 X4 := by rw [hX4]; exact below_alloc (Below.refl _ _) _
            have H4 := Lib.hid (H3.out.trans (hb4.mono H3.out.size)); have B4 := Lib.hid (B3.out.trans (hb4.mono B3.out.size)); have RZ4 := Lib.hid (blk_below RZ3.out hb4 (Array.getElem?_eq_some_iff.1 RZ3.out).1)
            have R9 := Lib.hid (show X4.heap[p9]? = some (.cells [.string xn, .slice A2 k2 d2, .int .i64 cfl, .int .i64 cli, .int .i64 cre].toArray 45 (0, 0)) by rw [hX4, hp9]; exact blk_new _ rfl)
            clear hX4 hp9 hb4
            refine (rbit_c cfl 1 (by decide) BC.out.1 BC.out.2 X4).mono ?_
            rintro e w' ⟨rfl, rfl⟩
            cases b1 : bitB cfl 1 with
            | false =>
              have HRC := Lib.hid (show refusedS fr un fl (lookE M cl).fl (lookE M cl).li (lookE M sv).fl (lookE M sv).li now = 6 by rw [HLC2.out]; exact ref_six BC.out b1)
              go_wp2_with (with_reducible refine wpList_store_any rfl 39 _ _ rfl (t4 + 1) [.string ByteArray.empty, .string ByteArray.empty, .slice none 0 0, .int .i64 0, .int .i64 0, .int .i64 0, .int .i64 0] rfl rfl 39 _ (RZ4.out) 7 (by kernel_rfl) rfl rfl (by simp [Value.oneCell']) ?_ rfl)
              refine bodyPost_ret (v := .tuple #[.agg #[.string ByteArray.empty, .string ByteArray.empty, .slice none 0 0, .int .i64 0, .int .i64 0, .int .i64 0, .int .i64 0], .int .i64 6, .int .i64 0]) ?_ rfl ?_
              · exact (results_row_tmp2 (p := 6) (u := 7) (u2 := 8) (ty := 39) rfl _ _ (t4 + 1) #[.string ByteArray.empty, .string ByteArray.empty, .slice none 0 0, .int .i64 0, .int .i64 0, .int .i64 0, .int .i64 0] rfl (load_tick _ _ _ (0, 0) (setRow_heap _ _ _ _ _ _ (RZ4.out)) rfl)).trans rfl
              · exact GrantPost.mk (t := zeroT) (HO.out.trans (grantK_no3 C1.out (HRC.out.symm) (by decide))) (below_setRow (B4.out) (by have := HT4.out; omega) _)
            | true =>
              have BC1 := Lib.hid b1
              clear b1
              obtain ⟨ct0, ct1, ct2, ct3, ct4, ct5, ct6⟩ := CT.out X4 H4.out
              go_wp2_with fail
              refine (rfind_c B q v M sv X4 (RA0.out.below H4.out) HMM.out).mono ?_
              clear ct0 ct1 ct2 ct3 ct4 ct5 ct6
              intro e w5 hpost
              obtain ⟨hb5, hp1, hp2⟩ := hpost
              have H5 := Lib.hid (H4.out.trans (hb5.mono H4.out.size)); have B5 := Lib.hid (B4.out.trans (hb5.mono B4.out.size)); have RZ5 := Lib.hid (blk_below RZ4.out hb5 (Array.getElem?_eq_some_iff.1 RZ4.out).1); have R95 := Lib.hid (blk_below R9.out hb5 (Array.getElem?_eq_some_iff.1 R9.out).1)
              cases hf : findE M sv with
              | none =>
                obtain rfl := hp1 hf
                have HRC := Lib.hid (show refusedS fr un fl (lookE M cl).fl (lookE M cl).li (lookE M sv).fl (lookE M sv).li now = 7 by rw [HLC2.out]; exact ref_seven BC.out (by unfold lookE; rw [hf]; decide) BC1.out (by unfold lookE; rw [hf]; decide))
                unfold noneV persV
                clear hp1 hp2 hb5 hf
                go_wp2_with (with_reducible refine wpList_store_any rfl 39 _ _ rfl (t4 + 1) [.string ByteArray.empty, .string ByteArray.empty, .slice none 0 0, .int .i64 0, .int .i64 0, .int .i64 0, .int .i64 0] rfl rfl 39 _ (blk_old _ RZ5.out) 7 (by kernel_rfl) rfl rfl (by simp [Value.oneCell']) ?_ rfl)
                refine bodyPost_ret (v := .tuple #[.agg #[.string ByteArray.empty, .string ByteArray.empty, .slice none 0 0, .int .i64 0, .int .i64 0, .int .i64 0, .int .i64 0], .int .i64 7, .int .i64 0]) ?_ rfl ?_
                · exact (results_row_tmp2 (p := 6) (u := 7) (u2 := 8) (ty := 39) rfl _ _ (t4 + 1) #[.string ByteArray.empty, .string ByteArray.empty, .slice none 0 0, .int .i64 0, .int .i64 0, .int .i64 0, .int .i64 0] rfl (load_tick _ _ _ (0, 0) (setRow_heap _ _ _ _ _ _ (blk_old _ RZ5.out)) rfl)).trans rfl
                · exact GrantPost.mk (t := zeroT) (HO.out.trans (grantK_no3 C1.out (HRC.out.symm) (by decide))) (below_setRow (below_alloc B5.out _) (by have := HT4.out; omega) _)
              | some y =>
                obtain ⟨A5, d5, rfl, _, _⟩ := hp2 y hf
                have hyo := HOK.out y (List.mem_of_find?_eq_some hf)
                have HLS := Lib.hid (show lookE M sv = y.lk by unfold lookE; rw [hf]; rfl)
                obtain ⟨yn, yb, yc, yk, sfl, sli, sre⟩ := y
                obtain ⟨s1, ⟨s2, s3⟩, s4, s5⟩ := hyo
                simp only at s1 s2 s3 s4 s5
                have BS := Lib.hid s1
                have HO2 := Lib.hid (show o = grantK ⟨cfl, cli, cre⟩ ⟨sfl, sli, sre⟩ cl sv fr un re fl now by rw [HO.out, HLC2.out, show lookE M sv = ⟨sfl, sli, sre⟩ from HLS.out])
                simp only
                obtain ⟨k5, hk5⟩ : ∃ k, k = yk.length := ⟨_, rfl⟩
                rw [← hk5]
                unfold persV
                clear hp1 hp2 hb5 hf s1 HLS hk5
                clear HO
                have HO := HO2
                have s6 : 0 ≤ sli := by omega
                have s7 : 0 ≤ sre := by omega
                go_wp2_with fail
                obtain ⟨X6, hX6⟩ : ∃ X, X = w5.alloc (.cells #[.string yn, .slice A5 k5 d5, .int .i64 sfl, .int .i64 sli, .int .i64 sre] 45) := ⟨_, rfl⟩
                obtain ⟨p11, hp11⟩ : ∃ p, p = w5.heap.size := ⟨_, rfl⟩
                rw [← hX6, ← hp11]
                have hb6 : Below w5.heap.size w5 X6 := by rw [hX6]; exact below_alloc (Below.refl _ _) _
                have H6 := Lib.hid (H5.out.trans (hb6.mono H5.out.size)); have B6 := Lib.hid (B5.out.trans (hb6.mono B5.out.size)); have RZ6 := Lib.hid (blk_below RZ5.out hb6 (Array.getElem?_eq_some_iff.1 RZ5.out).1); have R96 := Lib.hid (blk_below R95.out hb6 (Array.getElem?_eq_some_iff.1 R95.out).1)
                have R11 := Lib.hid (show X6.heap[p11]? = some (.cells [.string yn, .slice A5 k5 d5, .int .i64 sfl, .int .i64 sli, .int .i64 sre].toArray 45 (0, 0)) by rw [hX6, hp11]; exact blk_new _ rfl)
                clear hX6 hp11 hb6
                refine (rbit_c sfl 2 (by decide) BS.out.1 BS.out.2 X6).mono ?_
                rintro e w' ⟨rfl, rfl⟩
                cases b2 : bitB sfl 2 with
                | false =>
                  have HRC := Lib.hid (show refusedS fr un fl cfl cli sfl sli now = 7 from ref_seven BC.out BS.out BC1.out b2)
                  go_wp2_with (with_reducible refine wpList_store_any rfl 39 _ _ rfl (t4 + 1) [.string ByteArray.empty, .string ByteArray.empty, .slice none 0 0, .int .i64 0, .int .i64 0, .int .i64 0, .int .i64 0] rfl rfl 39 _ (RZ6.out) 7 (by kernel_rfl) rfl rfl (by simp [Value.oneCell']) ?_ rfl)
                  refine bodyPost_ret (v := .tuple #[.agg #[.string ByteArray.empty, .string ByteArray.empty, .slice none 0 0, .int .i64 0, .int .i64 0, .int .i64 0, .int .i64 0], .int .i64 7, .int .i64 0]) ?_ rfl ?_
                  · exact (results_row_tmp2 (p := 6) (u := 7) (u2 := 8) (ty := 39) rfl _ _ (t4 + 1) #[.string ByteArray.empty, .string ByteArray.empty, .slice none 0 0, .int .i64 0, .int .i64 0, .int .i64 0, .int .i64 0] rfl (load_tick _ _ _ (0, 0) (setRow_heap _ _ _ _ _ _ (RZ6.out)) rfl)).trans rfl
                  · exact GrantPost.mk (t := zeroT) (HO.out.trans (grantK_no2 C1.out (HRC.out.symm) (by decide))) (below_setRow (B6.out) (by have := HT4.out; omega) _)
                | true =>
                  have BS2 := Lib.hid b2
                  clear b2
                  obtain ⟨F, hF⟩ : ∃ F, (if fr < now then now else fr) = F := ⟨_, rfl⟩
                  obtain ⟨Mn, hM⟩ : ∃ F, (if sli < cli then sli else cli) = F := ⟨_, rfl⟩
                  obtain ⟨Rn, hR⟩ : ∃ F, (if sre < cre then sre else cre) = F := ⟨_, rfl⟩
                  have hF0 : 0 ≤ F ∧ F ≤ 1099511627776 := by rw [← hF]; split <;> omega
                  have hM0 : 0 ≤ Mn ∧ Mn ≤ 1099511627776 := by rw [← hM]; split <;> omega
                  have hR0 : 0 ≤ Rn ∧ Rn ≤ 1099511627776 := by rw [← hR]; split <;> omega
                  obtain ⟨hF1, hF2⟩ := hF0
                  obtain ⟨hM1, hM2⟩ := hM0
                  obtain ⟨hR1, hR2⟩ := hR0
                  obtain ⟨Z1, hZ1⟩ : ∃ F', (if F + Rn < re then F + Rn else re) = F' := ⟨_, rfl⟩
                  have HF := Lib.hid (show mx fr now = F from hF); have HM := Lib.hid (show mn cli sli = Mn from hM); have HR := Lib.hid (show mn cre sre = Rn from hR); have HZ1 := Lib.hid (show mn re (F + Rn) = Z1 from hZ1)
                  have u3 : X6.cell? ⟨p9, 3, none⟩ = some (.int .i64 cli) := cell_of_row X6 p9 3 _ _ _ R96.out
                  have u4 : X6.cell? ⟨p9, 4, none⟩ = some (.int .i64 cre) := cell_of_row X6 p9 4 _ _ _ R96.out
                  have v3 : X6.cell? ⟨p11, 3, none⟩ = some (.int .i64 sli) := cell_of_row X6 p11 3 _ _ _ R11.out
                  have v4 : X6.cell? ⟨p11, 4, none⟩ = some (.int .i64 sre) := cell_of_row X6 p11 4 _ _ _ R11.out
                  go_wp2_with fail
                  go_quiet (fail)
                  clear u3 u4 v3 v4
                  obtain ⟨Y, hY⟩ : ∃ Y, Y = X6.drewN nq := ⟨_, rfl⟩
                  have hbY : Below X6.heap.size X6 Y := by rw [hY]; exact below_drewN (Below.refl _ _) _
                  have BWY := Lib.hid (B6.out.trans (hbY.mono B6.out.size)); have RZY := Lib.hid (blk_below RZ6.out hbY (Array.getElem?_eq_some_iff.1 RZ6.out).1)
                  have H7 := Lib.hid (H6.out.trans (hbY.mono H6.out.size))
                  have u2 : Y.cell? ⟨p9, 2, none⟩ = some (.int .i64 cfl) := cell_of_row Y p9 2 _ _ _ (blk_below R96.out hbY (Array.getElem?_eq_some_iff.1 R96.out).1)
                  have v2 : Y.cell? ⟨p11, 2, none⟩ = some (.int .i64 sfl) := cell_of_row Y p11 2 _ _ _ (blk_below R11.out hbY (Array.getElem?_eq_some_iff.1 R11.out).1)
                  rw [← hY]
                  clear hY hbY
                  obtain ⟨ct0, ct1, ct2, ct3, ct4, ct5, ct6⟩ := CT.out Y H7.out
                  have hlt := World.block_lt_of_cell? Y _ ct4
                  have ka4 := fun o => ((below_alloc (Below.refl Y.heap.size Y) o).cell (p := ⟨t4, 4, none⟩) hlt).trans ct4
                  have ka5 := fun o => ((below_alloc (Below.refl Y.heap.size Y) o).cell (p := ⟨t4, 5, none⟩) hlt).trans ct5
                  have ka6 := fun o => ((below_alloc (Below.refl Y.heap.size Y) o).cell (p := ⟨t4, 6, none⟩) hlt).trans ct6
                  clear hlt
                  by_cases f0 : fl = 0
                  · subst f0
                    go_wp2_with fail
                    refine (rbit_c (0 : Int) 4 (by decide) (by decide) (by decide) _).mono ?_
                    rintro e w' ⟨rfl, rfl⟩
                    rw [show bitB (0 : Int) 4 = false from by decide]
                    go_wp2_with fail
                    refine (rbit_c (0 : Int) 8 (by decide) (by decide) (by decide) _).mono ?_
                    rintro e w' ⟨rfl, rfl⟩
                    rw [show bitB (0 : Int) 8 = false from by decide]
                    have COV := Lib.hid (show coverB ((4 * ((0 : Fin 4).val) : Nat) : Int) cfl sfl = true from (show coverB (0 : Int) cfl sfl = true by simp [coverB, show bitB (0 : Int) 4 = false from by decide, show bitB (0 : Int) 8 = false from by decide]))
                    by_cases e1 : now + Mn < fr
                    · have E1 := Lib.hid e1
                      go_wp2_with (with_reducible refine wpList_store_any rfl 39 _ _ rfl (t4 + 1) [.string ByteArray.empty, .string ByteArray.empty, .slice none 0 0, .int .i64 0, .int .i64 0, .int .i64 0, .int .i64 0] rfl rfl 39 _ (RZY.out) 7 (by kernel_rfl) rfl rfl (by simp [Value.oneCell']) ?_ rfl)
                      refine bodyPost_ret (v := .tuple #[.agg #[.string ByteArray.empty, .string ByteArray.empty, .slice none 0 0, .int .i64 0, .int .i64 0, .int .i64 0, .int .i64 0], .int .i64 12, .int .i64 0]) ?_ rfl ?_
                      · exact (results_row_tmp2 (p := 6) (u := 7) (u2 := 8) (ty := 39) rfl _ _ (t4 + 1) #[.string ByteArray.empty, .string ByteArray.empty, .slice none 0 0, .int .i64 0, .int .i64 0, .int .i64 0, .int .i64 0] rfl (load_tick _ _ _ (0, 0) (setRow_heap _ _ _ _ _ _ (RZY.out)) rfl)).trans rfl
                      · exact GrantPost.mk (t := zeroT) (HO.out.trans (grantK_no2 C1.out (((show refusedS fr un (0 : Int) cfl cli sfl sli now = _ from ref_rest 0 BC.out BS.out BC1.out BS2.out COV.out).trans (if_pos (by rw [HM.out]; have := E1.out; omega))).symm) (by decide))) (below_setRow (BWY.out) (by have := HT4.out; omega) _)
                    · have E1 := Lib.hid e1
                      by_cases e2 : un = 0
                      · subst e2
                        have HRC0 := Lib.hid (show refusedS fr 0 (0 : Int) cfl cli sfl sli now = 0 from (ref_rest 0 BC.out BS.out BC1.out BS2.out COV.out).trans ((if_neg (by rw [HM.out]; have := E1.out; omega)).trans (if_neg (fun h => h.1 rfl))))
                        have HU := Lib.hid (show (if (0 : Int) = 0 ∨ F + Mn < 0 then F + Mn else 0) = F + Mn from if_pos (Or.inl rfl))
                        obtain ⟨Z2, hZ2⟩ : ∃ Z2, (if Z1 < F + Mn then F + Mn else Z1) = Z2 := ⟨_, rfl⟩
                        have HZ2 := Lib.hid (show mx Z1 (F + Mn) = Z2 from hZ2)
                        go_wp2_with fail
                        refine (rbit_c (0 : Int) 4 (by decide) (by decide) (by decide) _).mono ?_
                        rintro e w' ⟨rfl, rfl⟩
                        rw [show bitB (0 : Int) 4 = false from by decide]
                        go_wp2_with fail
                        refine (rbit_c (0 : Int) 4 (by decide) (by decide) (by decide) _).mono ?_
                        rintro e w' ⟨rfl, rfl⟩
                        rw [show bitB (0 : Int) 4 = false from by decide]
                        go_wp2_with (with_reducible refine wpList_store_any rfl 39 _ _ rfl (t4 + 1) [.string cl, .string sv, .slice none 0 0, .int .i64 F, .int .i64 (F + Mn), .int .i64 0, .int .i64 0] rfl rfl 39 _ (blk_old _ RZY.out) 7 (by kernel_rfl) rfl rfl (by simp [Value.oneCell']) ?_ rfl)
                        refine bodyPost_ret (v := .tuple #[.agg #[.string cl, .string sv, .slice none 0 0, .int .i64 F, .int .i64 (F + Mn), .int .i64 0, .int .i64 0], .int .i64 0, .int .i64 0]) ?_ rfl ?_
                        · exact (results_row_tmp2 (p := 6) (u := 7) (u2 := 8) (ty := 39) rfl _ _ (t4 + 1) #[.string cl, .string sv, .slice none 0 0, .int .i64 F, .int .i64 (F + Mn), .int .i64 0, .int .i64 0] rfl (load_tick _ _ _ (0, 0) (setRow_heap _ _ _ _ _ _ (blk_old _ RZY.out)) rfl)).trans rfl
                        · exact GrantPost.mk (t := ⟨cl, sv, F, F + Mn, 0, 0⟩) (HO.out.trans ((grantK_fin C1.out (HRC0.out) HF.out HM.out HR.out HU.out HZ1.out HZ2.out (z4 := bits .and .i64 (0 : Int) 4) rfl (z5 := bits .andNot .i64 (0 : Int) 4) rfl).trans (congrArg (fun x => (x, (0 : Int), (0 : Int))) ((if_pos (Or.inl (by decide +kernel))).trans (congrArg (fun z => (⟨cl, sv, F, F + Mn, 0, z⟩ : GT)) (show bits .andNot .i64 (0 : Int) 4 = 0 by decide +kernel)))))) (below_setRow (below_alloc BWY.out _) (by have := HT4.out; omega) _)
                      · have g0 : (un == 0) = false := by simpa using e2
                        have g1 : (un != 0) = true := by simpa using e2
                        have E2 := Lib.hid e2
                        by_cases e3 : un ≤ F
                        · have E3 := Lib.hid e3
                          go_wp2_with (with_reducible refine wpList_store_any rfl 39 _ _ rfl (t4 + 1) [.string ByteArray.empty, .string ByteArray.empty, .slice none 0 0, .int .i64 0, .int .i64 0, .int .i64 0, .int .i64 0] rfl rfl 39 _ (RZY.out) 7 (by kernel_rfl) rfl rfl (by simp [Value.oneCell']) ?_ rfl)
                          refine bodyPost_ret (v := .tuple #[.agg #[.string ByteArray.empty, .string ByteArray.empty, .slice none 0 0, .int .i64 0, .int .i64 0, .int .i64 0, .int .i64 0], .int .i64 12, .int .i64 0]) ?_ rfl ?_
                          · exact (results_row_tmp2 (p := 6) (u := 7) (u2 := 8) (ty := 39) rfl _ _ (t4 + 1) #[.string ByteArray.empty, .string ByteArray.empty, .slice none 0 0, .int .i64 0, .int .i64 0, .int .i64 0, .int .i64 0] rfl (load_tick _ _ _ (0, 0) (setRow_heap _ _ _ _ _ _ (RZY.out)) rfl)).trans rfl
                          · exact GrantPost.mk (t := zeroT) (HO.out.trans (grantK_no2 C1.out (((show refusedS fr un (0 : Int) cfl cli sfl sli now = _ from ref_rest 0 BC.out BS.out BC1.out BS2.out COV.out).trans ((if_neg (by rw [HM.out]; have := E1.out; omega)).trans (if_pos ⟨E2.out, by rw [HF.out]; exact E3.out⟩))).symm) (by decide))) (below_setRow (BWY.out) (by have := HT4.out; omega) _)
                        · have E3 := Lib.hid e3
                          have HRC0 := Lib.hid (show refusedS fr un (0 : Int) cfl cli sfl sli now = 0 from (ref_rest 0 BC.out BS.out BC1.out BS2.out COV.out).trans ((if_neg (by rw [HM.out]; have := E1.out; omega)).trans (if_neg (fun h => E3.out (by rw [← HF.out]; exact h.2)))))
                          by_cases e4 : un < F + Mn
                          · have E4 := Lib.hid e4
                            have HU := Lib.hid (show (if un = 0 ∨ F + Mn < un then F + Mn else un) = un from if_neg (fun h => h.elim E2.out (by have := E4.out; omega)))
                            obtain ⟨Z2, hZ2⟩ : ∃ Z2, (if Z1 < un then un else Z1) = Z2 := ⟨_, rfl⟩
                            have HZ2 := Lib.hid (show mx Z1 (un) = Z2 from hZ2)
                            go_wp2_with fail
                            refine (rbit_c (0 : Int) 4 (by decide) (by decide) (by decide) _).mono ?_
                            rintro e w' ⟨rfl, rfl⟩
                            rw [show bitB (0 : Int) 4 = false from by decide]
                            go_wp2_with fail
                            refine (rbit_c (0 : Int) 4 (by decide) (by decide) (by decide) _).mono ?_
                            rintro e w' ⟨rfl, rfl⟩
                            rw [show bitB (0 : Int) 4 = false from by decide]
                            go_wp2_with (with_reducible refine wpList_store_any rfl 39 _ _ rfl (t4 + 1) [.string cl, .string sv, .slice none 0 0, .int .i64 F, .int .i64 (un), .int .i64 0, .int .i64 0] rfl rfl 39 _ (blk_old _ RZY.out) 7 (by kernel_rfl) rfl rfl (by simp [Value.oneCell']) ?_ rfl)
                            refine bodyPost_ret (v := .tuple #[.agg #[.string cl, .string sv, .slice none 0 0, .int .i64 F, .int .i64 (un), .int .i64 0, .int .i64 0], .int .i64 0, .int .i64 0]) ?_ rfl ?_
                            · exact (results_row_tmp2 (p := 6) (u := 7) (u2 := 8) (ty := 39) rfl _ _ (t4 + 1) #[.string cl, .string sv, .slice none 0 0, .int .i64 F, .int .i64 (un), .int .i64 0, .int .i64 0] rfl (load_tick _ _ _ (0, 0) (setRow_heap _ _ _ _ _ _ (blk_old _ RZY.out)) rfl)).trans rfl
                            · exact GrantPost.mk (t := ⟨cl, sv, F, un, 0, 0⟩) (HO.out.trans ((grantK_fin C1.out (HRC0.out) HF.out HM.out HR.out HU.out HZ1.out HZ2.out (z4 := bits .and .i64 (0 : Int) 4) rfl (z5 := bits .andNot .i64 (0 : Int) 4) rfl).trans (congrArg (fun x => (x, (0 : Int), (0 : Int))) ((if_pos (Or.inl (by decide +kernel))).trans (congrArg (fun z => (⟨cl, sv, F, un, 0, z⟩ : GT)) (show bits .andNot .i64 (0 : Int) 4 = 0 by decide +kernel)))))) (below_setRow (below_alloc BWY.out _) (by have := HT4.out; omega) _)
                          · have E4 := Lib.hid e4
                            have HU := Lib.hid (show (if un = 0 ∨ F + Mn < un then F + Mn else un) = F + Mn from (show _ = F + Mn by have h2 := E4.out; split <;> omega))
                            obtain ⟨Z2, hZ2⟩ : ∃ Z2, (if Z1 < F + Mn then F + Mn else Z1) = Z2 := ⟨_, rfl⟩
                            have HZ2 := Lib.hid (show mx Z1 (F + Mn) = Z2 from hZ2)
                            go_wp2_with fail
                            refine (rbit_c (0 : Int) 4 (by decide) (by decide) (by decide) _).mono ?_
                            rintro e w' ⟨rfl, rfl⟩
                            rw [show bitB (0 : Int) 4 = false from by decide]
                            go_wp2_with fail
                            refine (rbit_c (0 : Int) 4 (by decide) (by decide) (by decide) _).mono ?_
                            rintro e w' ⟨rfl, rfl⟩
                            rw [show bitB (0 : Int) 4 = false from by decide]
                            go_wp2_with (with_reducible refine wpList_store_any rfl 39 _ _ rfl (t4 + 1) [.string cl, .string sv, .slice none 0 0, .int .i64 F, .int .i64 (F + Mn), .int .i64 0, .int .i64 0] rfl rfl 39 _ (blk_old _ RZY.out) 7 (by kernel_rfl) rfl rfl (by simp [Value.oneCell']) ?_ rfl)
                            refine bodyPost_ret (v := .tuple #[.agg #[.string cl, .string sv, .slice none 0 0, .int .i64 F, .int .i64 (F + Mn), .int .i64 0, .int .i64 0], .int .i64 0, .int .i64 0]) ?_ rfl ?_
                            · exact (results_row_tmp2 (p := 6) (u := 7) (u2 := 8) (ty := 39) rfl _ _ (t4 + 1) #[.string cl, .string sv, .slice none 0 0, .int .i64 F, .int .i64 (F + Mn), .int .i64 0, .int .i64 0] rfl (load_tick _ _ _ (0, 0) (setRow_heap _ _ _ _ _ _ (blk_old _ RZY.out)) rfl)).trans rfl
                            · exact GrantPost.mk (t := ⟨cl, sv, F, F + Mn, 0, 0⟩) (HO.out.trans ((grantK_fin C1.out (HRC0.out) HF.out HM.out HR.out HU.out HZ1.out HZ2.out (z4 := bits .and .i64 (0 : Int) 4) rfl (z5 := bits .andNot .i64 (0 : Int) 4) rfl).trans (congrArg (fun x => (x, (0 : Int), (0 : Int))) ((if_pos (Or.inl (by decide +kernel))).trans (congrArg (fun z => (⟨cl, sv, F, F + Mn, 0, z⟩ : GT)) (show bits .andNot .i64 (0 : Int) 4 = 0 by decide +kernel)))))) (below_setRow (below_alloc BWY.out _) (by have := HT4.out; omega) _)
                  · by_cases f4 : fl = 4
                    · subst f4
                      clear f0
                      go_wp2_with fail
                      refine (rbit_c (4 : Int) 4 (by decide) (by decide) (by decide) _).mono ?_
                      rintro e w' ⟨rfl, rfl⟩
                      rw [show bitB (4 : Int) 4 = true from by decide]
                      go_wp2_with fail
                      refine (rbit_c cfl 4 (by decide) BC.out.1 BC.out.2 _).mono ?_
                      rintro e w' ⟨rfl, rfl⟩
                      cases c4 : bitB cfl 4 with
                      | false =>
                        have NCOV := Lib.hid (show coverB ((4 * ((1 : Fin 4).val) : Nat) : Int) cfl sfl = false from (show coverB (4 : Int) cfl sfl = false by simp [coverB, show bitB (4 : Int) 4 = true from by decide, show bitB (4 : Int) 8 = false from by decide, c4]))
                        go_wp2_with (with_reducible refine wpList_store_any rfl 39 _ _ rfl (t4 + 1) [.string ByteArray.empty, .string ByteArray.empty, .slice none 0 0, .int .i64 0, .int .i64 0, .int .i64 0, .int .i64 0] rfl rfl 39 _ (RZY.out) 7 (by kernel_rfl) rfl rfl (by simp [Value.oneCell']) ?_ rfl)
                        refine bodyPost_ret (v := .tuple #[.agg #[.string ByteArray.empty, .string ByteArray.empty, .slice none 0 0, .int .i64 0, .int .i64 0, .int .i64 0, .int .i64 0], .int .i64 12, .int .i64 0]) ?_ rfl ?_
                        · exact (results_row_tmp2 (p := 6) (u := 7) (u2 := 8) (ty := 39) rfl _ _ (t4 + 1) #[.string ByteArray.empty, .string ByteArray.empty, .slice none 0 0, .int .i64 0, .int .i64 0, .int .i64 0, .int .i64 0] rfl (load_tick _ _ _ (0, 0) (setRow_heap _ _ _ _ _ _ (RZY.out)) rfl)).trans rfl
                        · exact GrantPost.mk (t := zeroT) (HO.out.trans (grantK_no2 C1.out ((show refusedS fr un (4 : Int) cfl cli sfl sli now = _ from ref_cover 1 BC.out BS.out BC1.out BS2.out NCOV.out).symm) (by decide))) (below_setRow (BWY.out) (by have := HT4.out; omega) _)
                      | true =>
                        go_wp2_with fail
                        refine (rbit_c sfl 4 (by decide) BS.out.1 BS.out.2 _).mono ?_
                        rintro e w' ⟨rfl, rfl⟩
                        cases s4 : bitB sfl 4 with
                        | false =>
                          have NCOV := Lib.hid (show coverB ((4 * ((1 : Fin 4).val) : Nat) : Int) cfl sfl = false from (show coverB (4 : Int) cfl sfl = false by simp [coverB, show bitB (4 : Int) 4 = true from by decide, show bitB (4 : Int) 8 = false from by decide, s4]))
                          go_wp2_with (with_reducible refine wpList_store_any rfl 39 _ _ rfl (t4 + 1) [.string ByteArray.empty, .string ByteArray.empty, .slice none 0 0, .int .i64 0, .int .i64 0, .int .i64 0, .int .i64 0] rfl rfl 39 _ (RZY.out) 7 (by kernel_rfl) rfl rfl (by simp [Value.oneCell']) ?_ rfl)
                          refine bodyPost_ret (v := .tuple #[.agg #[.string ByteArray.empty, .string ByteArray.empty, .slice none 0 0, .int .i64 0, .int .i64 0, .int .i64 0, .int .i64 0], .int .i64 12, .int .i64 0]) ?_ rfl ?_
                          · exact (results_row_tmp2 (p := 6) (u := 7) (u2 := 8) (ty := 39) rfl _ _ (t4 + 1) #[.string ByteArray.empty, .string ByteArray.empty, .slice none 0 0, .int .i64 0, .int .i64 0, .int .i64 0, .int .i64 0] rfl (load_tick _ _ _ (0, 0) (setRow_heap _ _ _ _ _ _ (RZY.out)) rfl)).trans rfl
                          · exact GrantPost.mk (t := zeroT) (HO.out.trans (grantK_no2 C1.out ((show refusedS fr un (4 : Int) cfl cli sfl sli now = _ from ref_cover 1 BC.out BS.out BC1.out BS2.out NCOV.out).symm) (by decide))) (below_setRow (BWY.out) (by have := HT4.out; omega) _)
                        | true =>
                          go_wp2_with fail
                          refine (rbit_c (4 : Int) 8 (by decide) (by decide) (by decide) _).mono ?_
                          rintro e w' ⟨rfl, rfl⟩
                          rw [show bitB (4 : Int) 8 = false from by decide]
                          have COV := Lib.hid (show coverB ((4 * ((1 : Fin 4).val) : Nat) : Int) cfl sfl = true from (show coverB (4 : Int) cfl sfl = true by simp [coverB, show bitB (4 : Int) 4 = true from by decide, show bitB (4 : Int) 8 = false from by decide, c4, s4]))
                          by_cases e1 : now + Mn < fr
                          · have E1 := Lib.hid e1
                            go_wp2_with (with_reducible refine wpList_store_any rfl 39 _ _ rfl (t4 + 1) [.string ByteArray.empty, .string ByteArray.empty, .slice none 0 0, .int .i64 0, .int .i64 0, .int .i64 0, .int .i64 0] rfl rfl 39 _ (RZY.out) 7 (by kernel_rfl) rfl rfl (by simp [Value.oneCell']) ?_ rfl)
                            refine bodyPost_ret (v := .tuple #[.agg #[.string ByteArray.empty, .string ByteArray.empty, .slice none 0 0, .int .i64 0, .int .i64 0, .int .i64 0, .int .i64 0], .int .i64 12, .int .i64 0]) ?_ rfl ?_
                            · exact (results_row_tmp2 (p := 6) (u := 7) (u2 := 8) (ty := 39) rfl _ _ (t4 + 1) #[.string ByteArray.empty, .string ByteArray.empty, .slice none 0 0, .int .i64 0, .int .i64 0, .int .i64 0, .int .i64 0] rfl (load_tick _ _ _ (0, 0) (setRow_heap _ _ _ _ _ _ (RZY.out)) rfl)).trans rfl
                            · exact GrantPost.mk (t := zeroT) (HO.out.trans (grantK_no2 C1.out (((show refusedS fr un (4 : Int) cfl cli sfl sli now = _ from ref_rest 1 BC.out BS.out BC1.out BS2.out COV.out).trans (if_pos (by rw [HM.out]; have := E1.out; omega))).symm) (by decide))) (below_setRow (BWY.out) (by have := HT4.out; omega) _)
                          · have E1 := Lib.hid e1
                            by_cases e2 : un = 0
                            · subst e2
                              have HRC0 := Lib.hid (show refusedS fr 0 (4 : Int) cfl cli sfl sli now = 0 from (ref_rest 1 BC.out BS.out BC1.out BS2.out COV.out).trans ((if_neg (by rw [HM.out]; have := E1.out; omega)).trans (if_neg (fun h => h.1 rfl))))
                              have HU := Lib.hid (show (if (0 : Int) = 0 ∨ F + Mn < 0 then F + Mn else 0) = F + Mn from if_pos (Or.inl rfl))
                              obtain ⟨Z2, hZ2⟩ : ∃ Z2, (if Z1 < F + Mn then F + Mn else Z1) = Z2 := ⟨_, rfl⟩
                              have HZ2 := Lib.hid (show mx Z1 (F + Mn) = Z2 from hZ2)
                              go_wp2_with fail
                              refine (rbit_c (4 : Int) 4 (by decide) (by decide) (by decide) _).mono ?_
                              rintro e w' ⟨rfl, rfl⟩
                              rw [show bitB (4 : Int) 4 = true from by decide]
                              by_cases r0 : re = 0
                              · subst r0
                                go_wp2_with fail
                                refine (rbit_c (4 : Int) 4 (by decide) (by decide) (by decide) _).mono ?_
                                rintro e w' ⟨rfl, rfl⟩
                                rw [show bitB (4 : Int) 4 = true from by decide]
                                go_wp2_with (with_reducible refine wpList_store_any rfl 39 _ _ rfl (t4 + 1) [.string cl, .string sv, .slice none 0 0, .int .i64 F, .int .i64 (F + Mn), .int .i64 0, .int .i64 0] rfl rfl 39 _ (blk_old _ RZY.out) 7 (by kernel_rfl) rfl rfl (by simp [Value.oneCell']) ?_ rfl)
                                refine bodyPost_ret (v := .tuple #[.agg #[.string cl, .string sv, .slice none 0 0, .int .i64 F, .int .i64 (F + Mn), .int .i64 0, .int .i64 0], .int .i64 0, .int .i64 0]) ?_ rfl ?_
                                · exact (results_row_tmp2 (p := 6) (u := 7) (u2 := 8) (ty := 39) rfl _ _ (t4 + 1) #[.string cl, .string sv, .slice none 0 0, .int .i64 F, .int .i64 (F + Mn), .int .i64 0, .int .i64 0] rfl (load_tick _ _ _ (0, 0) (setRow_heap _ _ _ _ _ _ (blk_old _ RZY.out)) rfl)).trans rfl
                                · exact GrantPost.mk (t := ⟨cl, sv, F, F + Mn, 0, 0⟩) (HO.out.trans ((grantK_fin C1.out (HRC0.out) HF.out HM.out HR.out HU.out HZ1.out HZ2.out (z4 := bits .and .i64 (4 : Int) 4) rfl (z5 := bits .andNot .i64 (4 : Int) 4) rfl).trans (congrArg (fun x => (x, (0 : Int), (0 : Int))) ((if_pos (Or.inr rfl)).trans (congrArg (fun z => (⟨cl, sv, F, F + Mn, 0, z⟩ : GT)) (show bits .andNot .i64 (4 : Int) 4 = 0 by decide +kernel)))))) (below_setRow (below_alloc BWY.out _) (by have := HT4.out; omega) _)
                              · have r1 : (re != 0) = true := by simpa using r0
                                have R0 := Lib.hid r0
                                go_wp2_with (with_reducible refine wpList_store_any rfl 39 _ _ rfl (t4 + 1) [.string cl, .string sv, .slice none 0 0, .int .i64 F, .int .i64 (F + Mn), .int .i64 Z2, .int .i64 4] rfl rfl 39 _ (blk_old _ RZY.out) 7 (by kernel_rfl) rfl rfl (by simp [Value.oneCell']) ?_ rfl)
                                refine bodyPost_ret (v := .tuple #[.agg #[.string cl, .string sv, .slice none 0 0, .int .i64 F, .int .i64 (F + Mn), .int .i64 Z2, .int .i64 4], .int .i64 0, .int .i64 0]) ?_ rfl ?_
                                · exact (results_row_tmp2 (p := 6) (u := 7) (u2 := 8) (ty := 39) rfl _ _ (t4 + 1) #[.string cl, .string sv, .slice none 0 0, .int .i64 F, .int .i64 (F + Mn), .int .i64 Z2, .int .i64 4] rfl (load_tick _ _ _ (0, 0) (setRow_heap _ _ _ _ _ _ (blk_old _ RZY.out)) rfl)).trans rfl
                                · exact GrantPost.mk (t := ⟨cl, sv, F, F + Mn, Z2, 4⟩) (HO.out.trans ((grantK_fin C1.out (HRC0.out) HF.out HM.out HR.out HU.out HZ1.out HZ2.out (z4 := bits .and .i64 (4 : Int) 4) rfl (z5 := bits .andNot .i64 (4 : Int) 4) rfl).trans (congrArg (fun x => (x, (0 : Int), (0 : Int))) (if_neg (fun hh => hh.elim (by decide +kernel) R0.out))))) (below_setRow (below_alloc BWY.out _) (by have := HT4.out; omega) _)
                            · have g0 : (un == 0) = false := by simpa using e2
                              have g1 : (un != 0) = true := by simpa using e2
                              have E2 := Lib.hid e2
                              by_cases e3 : un ≤ F
                              · have E3 := Lib.hid e3
                                go_wp2_with (with_reducible refine wpList_store_any rfl 39 _ _ rfl (t4 + 1) [.string ByteArray.empty, .string ByteArray.empty, .slice none 0 0, .int .i64 0, .int .i64 0, .int .i64 0, .int .i64 0] rfl rfl 39 _ (RZY.out) 7 (by kernel_rfl) rfl rfl (by simp [Value.oneCell']) ?_ rfl)
                                refine bodyPost_ret (v := .tuple #[.agg #[.string ByteArray.empty, .string ByteArray.empty, .slice none 0 0, .int .i64 0, .int .i64 0, .int .i64 0, .int .i64 0], .int .i64 12, .int .i64 0]) ?_ rfl ?_
                                · exact (results_row_tmp2 (p := 6) (u := 7) (u2 := 8) (ty := 39) rfl _ _ (t4 + 1) #[.string ByteArray.empty, .string ByteArray.empty, .slice none 0 0, .int .i64 0, .int .i64 0, .int .i64 0, .int .i64 0] rfl (load_tick _ _ _ (0, 0) (setRow_heap _ _ _ _ _ _ (RZY.out)) rfl)).trans rfl
                                · exact GrantPost.mk (t := zeroT) (HO.out.trans (grantK_no2 C1.out (((show refusedS fr un (4 : Int) cfl cli sfl sli now = _ from ref_rest 1 BC.out BS.out BC1.out BS2.out COV.out).trans ((if_neg (by rw [HM.out]; have := E1.out; omega)).trans (if_pos ⟨E2.out, by rw [HF.out]; exact E3.out⟩))).symm) (by decide))) (below_setRow (BWY.out) (by have := HT4.out; omega) _)
                              · have E3 := Lib.hid e3
                                have HRC0 := Lib.hid (show refusedS fr un (4 : Int) cfl cli sfl sli now = 0 from (ref_rest 1 BC.out BS.out BC1.out BS2.out COV.out).trans ((if_neg (by rw [HM.out]; have := E1.out; omega)).trans (if_neg (fun h => E3.out (by rw [← HF.out]; exact h.2)))))
                                by_cases e4 : un < F + Mn
                                · have E4 := Lib.hid e4
                                  have HU := Lib.hid (show (if un = 0 ∨ F + Mn < un then F + Mn else un) = un from if_neg (fun h => h.elim E2.out (by have := E4.out; omega)))
                                  obtain ⟨Z2, hZ2⟩ : ∃ Z2, (if Z1 < un then un else Z1) = Z2 := ⟨_, rfl⟩
                                  have HZ2 := Lib.hid (show mx Z1 (un) = Z2 from hZ2)
                                  go_wp2_with fail
                                  refine (rbit_c (4 : Int) 4 (by decide) (by decide) (by decide) _).mono ?_
                                  rintro e w' ⟨rfl, rfl⟩
                                  rw [show bitB (4 : Int) 4 = true from by decide]
                                  by_cases r0 : re = 0
                                  · subst r0
                                    go_wp2_with fail
                                    refine (rbit_c (4 : Int) 4 (by decide) (by decide) (by decide) _).mono ?_
                                    rintro e w' ⟨rfl, rfl⟩
                                    rw [show bitB (4 : Int) 4 = true from by decide]
                                    go_wp2_with (with_reducible refine wpList_store_any rfl 39 _ _ rfl (t4 + 1) [.string cl, .string sv, .slice none 0 0, .int .i64 F, .int .i64 (un), .int .i64 0, .int .i64 0] rfl rfl 39 _ (blk_old _ RZY.out) 7 (by kernel_rfl) rfl rfl (by simp [Value.oneCell']) ?_ rfl)
                                    refine bodyPost_ret (v := .tuple #[.agg #[.string cl, .string sv, .slice none 0 0, .int .i64 F, .int .i64 (un), .int .i64 0, .int .i64 0], .int .i64 0, .int .i64 0]) ?_ rfl ?_
                                    · exact (results_row_tmp2 (p := 6) (u := 7) (u2 := 8) (ty := 39) rfl _ _ (t4 + 1) #[.string cl, .string sv, .slice none 0 0, .int .i64 F, .int .i64 (un), .int .i64 0, .int .i64 0] rfl (load_tick _ _ _ (0, 0) (setRow_heap _ _ _ _ _ _ (blk_old _ RZY.out)) rfl)).trans rfl
                                    · exact GrantPost.mk (t := ⟨cl, sv, F, un, 0, 0⟩) (HO.out.trans ((grantK_fin C1.out (HRC0.out) HF.out HM.out HR.out HU.out HZ1.out HZ2.out (z4 := bits .and .i64 (4 : Int) 4) rfl (z5 := bits .andNot .i64 (4 : Int) 4) rfl).trans (congrArg (fun x => (x, (0 : Int), (0 : Int))) ((if_pos (Or.inr rfl)).trans (congrArg (fun z => (⟨cl, sv, F, un, 0, z⟩ : GT)) (show bits .andNot .i64 (4 : Int) 4 = 0 by decide +kernel)))))) (below_setRow (below_alloc BWY.out _) (by have := HT4.out; omega) _)
                                  · have r1 : (re != 0) = true := by simpa using r0
                                    have R0 := Lib.hid r0
                                    go_wp2_with (with_reducible refine wpList_store_any rfl 39 _ _ rfl (t4 + 1) [.string cl, .string sv, .slice none 0 0, .int .i64 F, .int .i64 (un), .int .i64 Z2, .int .i64 4] rfl rfl 39 _ (blk_old _ RZY.out) 7 (by kernel_rfl) rfl rfl (by simp [Value.oneCell']) ?_ rfl)
                                    refine bodyPost_ret (v := .tuple #[.agg #[.string cl, .string sv, .slice none 0 0, .int .i64 F, .int .i64 (un), .int .i64 Z2, .int .i64 4], .int .i64 0, .int .i64 0]) ?_ rfl ?_
                                    · exact (results_row_tmp2 (p := 6) (u := 7) (u2 := 8) (ty := 39) rfl _ _ (t4 + 1) #[.string cl, .string sv, .slice none 0 0, .int .i64 F, .int .i64 (un), .int .i64 Z2, .int .i64 4] rfl (load_tick _ _ _ (0, 0) (setRow_heap _ _ _ _ _ _ (blk_old _ RZY.out)) rfl)).trans rfl
                                    · exact GrantPost.mk (t := ⟨cl, sv, F, un, Z2, 4⟩) (HO.out.trans ((grantK_fin C1.out (HRC0.out) HF.out HM.out HR.out HU.out HZ1.out HZ2.out (z4 := bits .and .i64 (4 : Int) 4) rfl (z5 := bits .andNot .i64 (4 : Int) 4) rfl).trans (congrArg (fun x => (x, (0 : Int), (0 : Int))) (if_neg (fun hh => hh.elim (by decide +kernel) R0.out))))) (below_setRow (below_alloc BWY.out _) (by have := HT4.out; omega) _)
                                · have E4 := Lib.hid e4
                                  have HU := Lib.hid (show (if un = 0 ∨ F + Mn < un then F + Mn else un) = F + Mn from (show _ = F + Mn by have h2 := E4.out; split <;> omega))
                                  obtain ⟨Z2, hZ2⟩ : ∃ Z2, (if Z1 < F + Mn then F + Mn else Z1) = Z2 := ⟨_, rfl⟩
                                  have HZ2 := Lib.hid (show mx Z1 (F + Mn) = Z2 from hZ2)
                                  go_wp2_with fail
                                  refine (rbit_c (4 : Int) 4 (by decide) (by decide) (by decide) _).mono ?_
                                  rintro e w' ⟨rfl, rfl⟩
                                  rw [show bitB (4 : Int) 4 = true from by decide]
                                  by_cases r0 : re = 0
                                  · subst r0
                                    go_wp2_with fail
                                    refine (rbit_c (4 : Int) 4 (by decide) (by decide) (by decide) _).mono ?_
                                    rintro e w' ⟨rfl, rfl⟩
                                    rw [show bitB (4 : Int) 4 = true from by decide]
                                    go_wp2_with (with_reducible refine wpList_store_any rfl 39 _ _ rfl (t4 + 1) [.string cl, .string sv, .slice none 0 0, .int .i64 F, .int .i64 (F + Mn), .int .i64 0, .int .i64 0] rfl rfl 39 _ (blk_old _ RZY.out) 7 (by kernel_rfl) rfl rfl (by simp [Value.oneCell']) ?_ rfl)
                                    refine bodyPost_ret (v := .tuple #[.agg #[.string cl, .string sv, .slice none 0 0, .int .i64 F, .int .i64 (F + Mn), .int .i64 0, .int .i64 0], .int .i64 0, .int .i64 0]) ?_ rfl ?_
                                    · exact (results_row_tmp2 (p := 6) (u := 7) (u2 := 8) (ty := 39) rfl _ _ (t4 + 1) #[.string cl, .string sv, .slice none 0 0, .int .i64 F, .int .i64 (F + Mn), .int .i64 0, .int .i64 0] rfl (load_tick _ _ _ (0, 0) (setRow_heap _ _ _ _ _ _ (blk_old _ RZY.out)) rfl)).trans rfl
                                    · exact GrantPost.mk (t := ⟨cl, sv, F, F + Mn, 0, 0⟩) (HO.out.trans ((grantK_fin C1.out (HRC0.out) HF.out HM.out HR.out HU.out HZ1.out HZ2.out (z4 := bits .and .i64 (4 : Int) 4) rfl (z5 := bits .andNot .i64 (4 : Int) 4) rfl).trans (congrArg (fun x => (x, (0 : Int), (0 : Int))) ((if_pos (Or.inr rfl)).trans (congrArg (fun z => (⟨cl, sv, F, F + Mn, 0, z⟩ : GT)) (show bits .andNot .i64 (4 : Int) 4 = 0 by decide +kernel)))))) (below_setRow (below_alloc BWY.out _) (by have := HT4.out; omega) _)
                                  · have r1 : (re != 0) = true := by simpa using r0
                                    have R0 := Lib.hid r0
                                    go_wp2_with (with_reducible refine wpList_store_any rfl 39 _ _ rfl (t4 + 1) [.string cl, .string sv, .slice none 0 0, .int .i64 F, .int .i64 (F + Mn), .int .i64 Z2, .int .i64 4] rfl rfl 39 _ (blk_old _ RZY.out) 7 (by kernel_rfl) rfl rfl (by simp [Value.oneCell']) ?_ rfl)
                                    refine bodyPost_ret (v := .tuple #[.agg #[.string cl, .string sv, .slice none 0 0, .int .i64 F, .int .i64 (F + Mn), .int .i64 Z2, .int .i64 4], .int .i64 0, .int .i64 0]) ?_ rfl ?_
                                    · exact (results_row_tmp2 (p := 6) (u := 7) (u2 := 8) (ty := 39) rfl _ _ (t4 + 1) #[.string cl, .string sv, .slice none 0 0, .int .i64 F, .int .i64 (F + Mn), .int .i64 Z2, .int .i64 4] rfl (load_tick _ _ _ (0, 0) (setRow_heap _ _ _ _ _ _ (blk_old _ RZY.out)) rfl)).trans rfl
                                    · exact GrantPost.mk (t := ⟨cl, sv, F, F + Mn, Z2, 4⟩) (HO.out.trans ((grantK_fin C1.out (HRC0.out) HF.out HM.out HR.out HU.out HZ1.out HZ2.out (z4 := bits .and .i64 (4 : Int) 4) rfl (z5 := bits .andNot .i64 (4 : Int) 4) rfl).trans (congrArg (fun x => (x, (0 : Int), (0 : Int))) (if_neg (fun hh => hh.elim (by decide +kernel) R0.out))))) (below_setRow (below_alloc BWY.out _) (by have := HT4.out; omega) _)
                    · by_cases f8 : fl = 8
                      · subst f8
                        clear f0 f4
                        go_wp2_with fail
                        refine (rbit_c (8 : Int) 4 (by decide) (by decide) (by decide) _).mono ?_
                        rintro e w' ⟨rfl, rfl⟩
                        rw [show bitB (8 : Int) 4 = false from by decide]
                        go_wp2_with fail
                        refine (rbit_c (8 : Int) 8 (by decide) (by decide) (by decide) _).mono ?_
                        rintro e w' ⟨rfl, rfl⟩
                        rw [show bitB (8 : Int) 8 = true from by decide]
                        go_wp2_with fail
                        refine (rbit_c cfl 8 (by decide) BC.out.1 BC.out.2 _).mono ?_
                        rintro e w' ⟨rfl, rfl⟩
                        cases c8 : bitB cfl 8 with
                        | false =>
                          have NCOV := Lib.hid (show coverB ((4 * ((2 : Fin 4).val) : Nat) : Int) cfl sfl = false from (show coverB (8 : Int) cfl sfl = false by simp [coverB, show bitB (8 : Int) 4 = false from by decide, show bitB (8 : Int) 8 = true from by decide, c8]))
                          go_wp2_with (with_reducible refine wpList_store_any rfl 39 _ _ rfl (t4 + 1) [.string ByteArray.empty, .string ByteArray.empty, .slice none 0 0, .int .i64 0, .int .i64 0, .int .i64 0, .int .i64 0] rfl rfl 39 _ (RZY.out) 7 (by kernel_rfl) rfl rfl (by simp [Value.oneCell']) ?_ rfl)
                          refine bodyPost_ret (v := .tuple #[.agg #[.string ByteArray.empty, .string ByteArray.empty, .slice none 0 0, .int .i64 0, .int .i64 0, .int .i64 0, .int .i64 0], .int .i64 12, .int .i64 0]) ?_ rfl ?_
                          · exact (results_row_tmp2 (p := 6) (u := 7) (u2 := 8) (ty := 39) rfl _ _ (t4 + 1) #[.string ByteArray.empty, .string ByteArray.empty, .slice none 0 0, .int .i64 0, .int .i64 0, .int .i64 0, .int .i64 0] rfl (load_tick _ _ _ (0, 0) (setRow_heap _ _ _ _ _ _ (RZY.out)) rfl)).trans rfl
                          · exact GrantPost.mk (t := zeroT) (HO.out.trans (grantK_no2 C1.out ((show refusedS fr un (8 : Int) cfl cli sfl sli now = _ from ref_cover 2 BC.out BS.out BC1.out BS2.out NCOV.out).symm) (by decide))) (below_setRow (BWY.out) (by have := HT4.out; omega) _)
                        | true =>
                          go_wp2_with fail
                          refine (rbit_c sfl 8 (by decide) BS.out.1 BS.out.2 _).mono ?_
                          rintro e w' ⟨rfl, rfl⟩
                          cases s8 : bitB sfl 8 with
                          | false =>
                            have NCOV := Lib.hid (show coverB ((4 * ((2 : Fin 4).val) : Nat) : Int) cfl sfl = false from (show coverB (8 : Int) cfl sfl = false by simp [coverB, show bitB (8 : Int) 4 = false from by decide, show bitB (8 : Int) 8 = true from by decide, s8]))
                            go_wp2_with (with_reducible refine wpList_store_any rfl 39 _ _ rfl (t4 + 1) [.string ByteArray.empty, .string ByteArray.empty, .slice none 0 0, .int .i64 0, .int .i64 0, .int .i64 0, .int .i64 0] rfl rfl 39 _ (RZY.out) 7 (by kernel_rfl) rfl rfl (by simp [Value.oneCell']) ?_ rfl)
                            refine bodyPost_ret (v := .tuple #[.agg #[.string ByteArray.empty, .string ByteArray.empty, .slice none 0 0, .int .i64 0, .int .i64 0, .int .i64 0, .int .i64 0], .int .i64 12, .int .i64 0]) ?_ rfl ?_
                            · exact (results_row_tmp2 (p := 6) (u := 7) (u2 := 8) (ty := 39) rfl _ _ (t4 + 1) #[.string ByteArray.empty, .string ByteArray.empty, .slice none 0 0, .int .i64 0, .int .i64 0, .int .i64 0, .int .i64 0] rfl (load_tick _ _ _ (0, 0) (setRow_heap _ _ _ _ _ _ (RZY.out)) rfl)).trans rfl
                            · exact GrantPost.mk (t := zeroT) (HO.out.trans (grantK_no2 C1.out ((show refusedS fr un (8 : Int) cfl cli sfl sli now = _ from ref_cover 2 BC.out BS.out BC1.out BS2.out NCOV.out).symm) (by decide))) (below_setRow (BWY.out) (by have := HT4.out; omega) _)
                          | true =>
                            have COV := Lib.hid (show coverB ((4 * ((2 : Fin 4).val) : Nat) : Int) cfl sfl = true from (show coverB (8 : Int) cfl sfl = true by simp [coverB, show bitB (8 : Int) 4 = false from by decide, show bitB (8 : Int) 8 = true from by decide, c8, s8]))
                            by_cases e1 : now + Mn < fr
                            · have E1 := Lib.hid e1
                              go_wp2_with (with_reducible refine wpList_store_any rfl 39 _ _ rfl (t4 + 1) [.string ByteArray.empty, .string ByteArray.empty, .slice none 0 0, .int .i64 0, .int .i64 0, .int .i64 0, .int .i64 0] rfl rfl 39 _ (RZY.out) 7 (by kernel_rfl) rfl rfl (by simp [Value.oneCell']) ?_ rfl)
                              refine bodyPost_ret (v := .tuple #[.agg #[.string ByteArray.empty, .string ByteArray.empty, .slice none 0 0, .int .i64 0, .int .i64 0, .int .i64 0, .int .i64 0], .int .i64 12, .int .i64 0]) ?_ rfl ?_
                              · exact (results_row_tmp2 (p := 6) (u := 7) (u2 := 8) (ty := 39) rfl _ _ (t4 + 1) #[.string ByteArray.empty, .string ByteArray.empty, .slice none 0 0, .int .i64 0, .int .i64 0, .int .i64 0, .int .i64 0] rfl (load_tick _ _ _ (0, 0) (setRow_heap _ _ _ _ _ _ (RZY.out)) rfl)).trans rfl
                              · exact GrantPost.mk (t := zeroT) (HO.out.trans (grantK_no2 C1.out (((show refusedS fr un (8 : Int) cfl cli sfl sli now = _ from ref_rest 2 BC.out BS.out BC1.out BS2.out COV.out).trans (if_pos (by rw [HM.out]; have := E1.out; omega))).symm) (by decide))) (below_setRow (BWY.out) (by have := HT4.out; omega) _)
                            · have E1 := Lib.hid e1
                              by_cases e2 : un = 0
                              · subst e2
                                have HRC0 := Lib.hid (show refusedS fr 0 (8 : Int) cfl cli sfl sli now = 0 from (ref_rest 2 BC.out BS.out BC1.out BS2.out COV.out).trans ((if_neg (by rw [HM.out]; have := E1.out; omega)).trans (if_neg (fun h => h.1 rfl))))
                                have HU := Lib.hid (show (if (0 : Int) = 0 ∨ F + Mn < 0 then F + Mn else 0) = F + Mn from if_pos (Or.inl rfl))
                                obtain ⟨Z2, hZ2⟩ : ∃ Z2, (if Z1 < F + Mn then F + Mn else Z1) = Z2 := ⟨_, rfl⟩
                                have HZ2 := Lib.hid (show mx Z1 (F + Mn) = Z2 from hZ2)
                                go_wp2_with fail
                                refine (rbit_c (8 : Int) 4 (by decide) (by decide) (by decide) _).mono ?_
                                rintro e w' ⟨rfl, rfl⟩
                                rw [show bitB (8 : Int) 4 = false from by decide]
                                go_wp2_with fail
                                refine (rbit_c (8 : Int) 4 (by decide) (by decide) (by decide) _).mono ?_
                                rintro e w' ⟨rfl, rfl⟩
                                rw [show bitB (8 : Int) 4 = false from by decide]
                                go_wp2_with (with_reducible refine wpList_store_any rfl 39 _ _ rfl (t4 + 1) [.string cl, .string sv, .slice none 0 0, .int .i64 F, .int .i64 (F + Mn), .int .i64 0, .int .i64 8] rfl rfl 39 _ (blk_old _ RZY.out) 7 (by kernel_rfl) rfl rfl (by simp [Value.oneCell']) ?_ rfl)
                                refine bodyPost_ret (v := .tuple #[.agg #[.string cl, .string sv, .slice none 0 0, .int .i64 F, .int .i64 (F + Mn), .int .i64 0, .int .i64 8], .int .i64 0, .int .i64 0]) ?_ rfl ?_
                                · exact (results_row_tmp2 (p := 6) (u := 7) (u2 := 8) (ty := 39) rfl _ _ (t4 + 1) #[.string cl, .string sv, .slice none 0 0, .int .i64 F, .int .i64 (F + Mn), .int .i64 0, .int .i64 8] rfl (load_tick _ _ _ (0, 0) (setRow_heap _ _ _ _ _ _ (blk_old _ RZY.out)) rfl)).trans rfl
                                · exact GrantPost.mk (t := ⟨cl, sv, F, F + Mn, 0, 8⟩) (HO.out.trans ((grantK_fin C1.out (HRC0.out) HF.out HM.out HR.out HU.out HZ1.out HZ2.out (z4 := bits .and .i64 (8 : Int) 4) rfl (z5 := bits .andNot .i64 (8 : Int) 4) rfl).trans (congrArg (fun x => (x, (0 : Int), (0 : Int))) ((if_pos (Or.inl (by decide +kernel))).trans (congrArg (fun z => (⟨cl, sv, F, F + Mn, 0, z⟩ : GT)) (show bits .andNot .i64 (8 : Int) 4 = 8 by decide +kernel)))))) (below_setRow (below_alloc BWY.out _) (by have := HT4.out; omega) _)
                              · have g0 : (un == 0) = false := by simpa using e2
                                have g1 : (un != 0) = true := by simpa using e2
                                have E2 := Lib.hid e2
                                by_cases e3 : un ≤ F
                                · have E3 := Lib.hid e3
                                  go_wp2_with (with_reducible refine wpList_store_any rfl 39 _ _ rfl (t4 + 1) [.string ByteArray.empty, .string ByteArray.empty, .slice none 0 0, .int .i64 0, .int .i64 0, .int .i64 0, .int .i64 0] rfl rfl 39 _ (RZY.out) 7 (by kernel_rfl) rfl rfl (by simp [Value.oneCell']) ?_ rfl)
                                  refine bodyPost_ret (v := .tuple #[.agg #[.string ByteArray.empty, .string ByteArray.empty, .slice none 0 0, .int .i64 0, .int .i64 0, .int .i64 0, .int .i64 0], .int .i64 12, .int .i64 0]) ?_ rfl ?_
                                  · exact (results_row_tmp2 (p := 6) (u := 7) (u2 := 8) (ty := 39) rfl _ _ (t4 + 1) #[.string ByteArray.empty, .string ByteArray.empty, .slice none 0 0, .int .i64 0, .int .i64 0, .int .i64 0, .int .i64 0] rfl (load_tick _ _ _ (0, 0) (setRow_heap _ _ _ _ _ _ (RZY.out)) rfl)).trans rfl
                                  · exact GrantPost.mk (t := zeroT) (HO.out.trans (grantK_no2 C1.out (((show refusedS fr un (8 : Int) cfl cli sfl sli now = _ from ref_rest 2 BC.out BS.out BC1.out BS2.out COV.out).trans ((if_neg (by rw [HM.out]; have := E1.out; omega)).trans (if_pos ⟨E2.out, by rw [HF.out]; exact E3.out⟩))).symm) (by decide))) (below_setRow (BWY.out) (by have := HT4.out; omega) _)
                                · have E3 := Lib.hid e3
                                  have HRC0 := Lib.hid (show refusedS fr un (8 : Int) cfl cli sfl sli now = 0 from (ref_rest 2 BC.out BS.out BC1.out BS2.out COV.out).trans ((if_neg (by rw [HM.out]; have := E1.out; omega)).trans (if_neg (fun h => E3.out (by rw [← HF.out]; exact h.2)))))
                                  by_cases e4 : un < F + Mn
                                  · have E4 := Lib.hid e4
                                    have HU := Lib.hid (show (if un = 0 ∨ F + Mn < un then F + Mn else un) = un from if_neg (fun h => h.elim E2.out (by have := E4.out; omega)))
                                    obtain ⟨Z2, hZ2⟩ : ∃ Z2, (if Z1 < un then un else Z1) = Z2 := ⟨_, rfl⟩
                                    have HZ2 := Lib.hid (show mx Z1 (un) = Z2 from hZ2)
                                    go_wp2_with fail
                                    refine (rbit_c (8 : Int) 4 (by decide) (by decide) (by decide) _).mono ?_
                                    rintro e w' ⟨rfl, rfl⟩
                                    rw [show bitB (8 : Int) 4 = false from by decide]
                                    go_wp2_with fail
                                    refine (rbit_c (8 : Int) 4 (by decide) (by decide) (by decide) _).mono ?_
                                    rintro e w' ⟨rfl, rfl⟩
                                    rw [show bitB (8 : Int) 4 = false from by decide]
                                    go_wp2_with (with_reducible refine wpList_store_any rfl 39 _ _ rfl (t4 + 1) [.string cl, .string sv, .slice none 0 0, .int .i64 F, .int .i64 (un), .int .i64 0, .int .i64 8] rfl rfl 39 _ (blk_old _ RZY.out) 7 (by kernel_rfl) rfl rfl (by simp [Value.oneCell']) ?_ rfl)
                                    refine bodyPost_ret (v := .tuple #[.agg #[.string cl, .string sv, .slice none 0 0, .int .i64 F, .int .i64 (un), .int .i64 0, .int .i64 8], .int .i64 0, .int .i64 0]) ?_ rfl ?_
                                    · exact (results_row_tmp2 (p := 6) (u := 7) (u2 := 8) (ty := 39) rfl _ _ (t4 + 1) #[.string cl, .string sv, .slice none 0 0, .int .i64 F, .int .i64 (un), .int .i64 0, .int .i64 8] rfl (load_tick _ _ _ (0, 0) (setRow_heap _ _ _ _ _ _ (blk_old _ RZY.out)) rfl)).trans rfl
                                    · exact GrantPost.mk (t := ⟨cl, sv, F, un, 0, 8⟩) (HO.out.trans ((grantK_fin C1.out (HRC0.out) HF.out HM.out HR.out HU.out HZ1.out HZ2.out (z4 := bits .and .i64 (8 : Int) 4) rfl (z5 := bits .andNot .i64 (8 : Int) 4) rfl).trans (congrArg (fun x => (x, (0 : Int), (0 : Int))) ((if_pos (Or.inl (by decide +kernel))).trans (congrArg (fun z => (⟨cl, sv, F, un, 0, z⟩ : GT)) (show bits .andNot .i64 (8 : Int) 4 = 8 by decide +kernel)))))) (below_setRow (below_alloc BWY.out _) (by have := HT4.out; omega) _)
                                  · have E4 := Lib.hid e4
                                    have HU := Lib.hid (show (if un = 0 ∨ F + Mn < un then F + Mn else un) = F + Mn from (show _ = F + Mn by have h2 := E4.out; split <;> omega))
                                    obtain ⟨Z2, hZ2⟩ : ∃ Z2, (if Z1 < F + Mn then F + Mn else Z1) = Z2 := ⟨_, rfl⟩
                                    have HZ2 := Lib.hid (show mx Z1 (F + Mn) = Z2 from hZ2)
                                    go_wp2_with fail
                                    refine (rbit_c (8 : Int) 4 (by decide) (by decide) (by decide) _).mono ?_
                                    rintro e w' ⟨rfl, rfl⟩
                                    rw [show bitB (8 : Int) 4 = false from by decide]
                                    go_wp2_with fail
                                    refine (rbit_c (8 : Int) 4 (by decide) (by decide) (by decide) _).mono ?_
                                    rintro e w' ⟨rfl, rfl⟩
                                    rw [show bitB (8 : Int) 4 = false from by decide]
                                    go_wp2_with (with_reducible refine wpList_store_any rfl 39 _ _ rfl (t4 + 1) [.string cl, .string sv, .slice none 0 0, .int .i64 F, .int .i64 (F + Mn), .int .i64 0, .int .i64 8] rfl rfl 39 _ (blk_old _ RZY.out) 7 (by kernel_rfl) rfl rfl (by simp [Value.oneCell']) ?_ rfl)
                                    refine bodyPost_ret (v := .tuple #[.agg #[.string cl, .string sv, .slice none 0 0, .int .i64 F, .int .i64 (F + Mn), .int .i64 0, .int .i64 8], .int .i64 0, .int .i64 0]) ?_ rfl ?_
                                    · exact (results_row_tmp2 (p := 6) (u := 7) (u2 := 8) (ty := 39) rfl _ _ (t4 + 1) #[.string cl, .string sv, .slice none 0 0, .int .i64 F, .int .i64 (F + Mn), .int .i64 0, .int .i64 8] rfl (load_tick _ _ _ (0, 0) (setRow_heap _ _ _ _ _ _ (blk_old _ RZY.out)) rfl)).trans rfl
                                    · exact GrantPost.mk (t := ⟨cl, sv, F, F + Mn, 0, 8⟩) (HO.out.trans ((grantK_fin C1.out (HRC0.out) HF.out HM.out HR.out HU.out HZ1.out HZ2.out (z4 := bits .and .i64 (8 : Int) 4) rfl (z5 := bits .andNot .i64 (8 : Int) 4) rfl).trans (congrArg (fun x => (x, (0 : Int), (0 : Int))) ((if_pos (Or.inl (by decide +kernel))).trans (congrArg (fun z => (⟨cl, sv, F, F + Mn, 0, z⟩ : GT)) (show bits .andNot .i64 (8 : Int) 4 = 8 by decide +kernel)))))) (below_setRow (below_alloc BWY.out _) (by have := HT4.out; omega) _)
                      · by_cases f12 : fl = 12
                        · subst f12
                          clear f0 f4 f8
                          go_wp2_with fail
                          refine (rbit_c (12 : Int) 4 (by decide) (by decide) (by decide) _).mono ?_
                          rintro e w' ⟨rfl, rfl⟩
                          rw [show bitB (12 : Int) 4 = true from by decide]
                          go_wp2_with fail
                          refine (rbit_c cfl 4 (by decide) BC.out.1 BC.out.2 _).mono ?_
                          rintro e w' ⟨rfl, rfl⟩
                          cases c4 : bitB cfl 4 with
                          | false =>
                            have NCOV := Lib.hid (show coverB ((4 * ((3 : Fin 4).val) : Nat) : Int) cfl sfl = false from (show coverB (12 : Int) cfl sfl = false by simp [coverB, show bitB (12 : Int) 4 = true from by decide, show bitB (12 : Int) 8 = true from by decide, c4]))
                            go_wp2_with (with_reducible refine wpList_store_any rfl 39 _ _ rfl (t4 + 1) [.string ByteArray.empty, .string ByteArray.empty, .slice none 0 0, .int .i64 0, .int .i64 0, .int .i64 0, .int .i64 0] rfl rfl 39 _ (RZY.out) 7 (by kernel_rfl) rfl rfl (by simp [Value.oneCell']) ?_ rfl)
                            refine bodyPost_ret (v := .tuple #[.agg #[.string ByteArray.empty, .string ByteArray.empty, .slice none 0 0, .int .i64 0, .int .i64 0, .int .i64 0, .int .i64 0], .int .i64 12, .int .i64 0]) ?_ rfl ?_
                            · exact (results_row_tmp2 (p := 6) (u := 7) (u2 := 8) (ty := 39) rfl _ _ (t4 + 1) #[.string ByteArray.empty, .string ByteArray.empty, .slice none 0 0, .int .i64 0, .int .i64 0, .int .i64 0, .int .i64 0] rfl (load_tick _ _ _ (0, 0) (setRow_heap _ _ _ _ _ _ (RZY.out)) rfl)).trans rfl
                            · exact GrantPost.mk (t := zeroT) (HO.out.trans (grantK_no2 C1.out ((show refusedS fr un (12 : Int) cfl cli sfl sli now = _ from ref_cover 3 BC.out BS.out BC1.out BS2.out NCOV.out).symm) (by decide))) (below_setRow (BWY.out) (by have := HT4.out; omega) _)
                          | true =>
                            go_wp2_with fail
                            refine (rbit_c sfl 4 (by decide) BS.out.1 BS.out.2 _).mono ?_
                            rintro e w' ⟨rfl, rfl⟩
                            cases s4 : bitB sfl 4 with
                            | false =>
                              have NCOV := Lib.hid (show coverB ((4 * ((3 : Fin 4).val) : Nat) : Int) cfl sfl = false from (show coverB (12 : Int) cfl sfl = false by simp [coverB, show bitB (12 : Int) 4 = true from by decide, show bitB (12 : Int) 8 = true from by decide, s4]))
                              go_wp2_with (with_reducible refine wpList_store_any rfl 39 _ _ rfl (t4 + 1) [.string ByteArray.empty, .string ByteArray.empty, .slice none 0 0, .int .i64 0, .int .i64 0, .int .i64 0, .int .i64 0] rfl rfl 39 _ (RZY.out) 7 (by kernel_rfl) rfl rfl (by simp [Value.oneCell']) ?_ rfl)
                              refine bodyPost_ret (v := .tuple #[.agg #[.string ByteArray.empty, .string ByteArray.empty, .slice none 0 0, .int .i64 0, .int .i64 0, .int .i64 0, .int .i64 0], .int .i64 12, .int .i64 0]) ?_ rfl ?_
                              · exact (results_row_tmp2 (p := 6) (u := 7) (u2 := 8) (ty := 39) rfl _ _ (t4 + 1) #[.string ByteArray.empty, .string ByteArray.empty, .slice none 0 0, .int .i64 0, .int .i64 0, .int .i64 0, .int .i64 0] rfl (load_tick _ _ _ (0, 0) (setRow_heap _ _ _ _ _ _ (RZY.out)) rfl)).trans rfl
                              · exact GrantPost.mk (t := zeroT) (HO.out.trans (grantK_no2 C1.out ((show refusedS fr un (12 : Int) cfl cli sfl sli now = _ from ref_cover 3 BC.out BS.out BC1.out BS2.out NCOV.out).symm) (by decide))) (below_setRow (BWY.out) (by have := HT4.out; omega) _)
                            | true =>
                              go_wp2_with fail
                              refine (rbit_c (12 : Int) 8 (by decide) (by decide) (by decide) _).mono ?_
                              rintro e w' ⟨rfl, rfl⟩
                              rw [show bitB (12 : Int) 8 = true from by decide]
                              go_wp2_with fail
                              refine (rbit_c cfl 8 (by decide) BC.out.1 BC.out.2 _).mono ?_
                              rintro e w' ⟨rfl, rfl⟩
                              cases c8 : bitB cfl 8 with
                              | false =>
                                have NCOV := Lib.hid (show coverB ((4 * ((3 : Fin 4).val) : Nat) : Int) cfl sfl = false from (show coverB (12 : Int) cfl sfl = false by simp [coverB, show bitB (12 : Int) 4 = true from by decide, show bitB (12 : Int) 8 = true from by decide, c8]))
                                go_wp2_with (with_reducible refine wpList_store_any rfl 39 _ _ rfl (t4 + 1) [.string ByteArray.empty, .string ByteArray.empty, .slice none 0 0, .int .i64 0, .int .i64 0, .int .i64 0, .int .i64 0] rfl rfl 39 _ (RZY.out) 7 (by kernel_rfl) rfl rfl (by simp [Value.oneCell']) ?_ rfl)
                                refine bodyPost_ret (v := .tuple #[.agg #[.string ByteArray.empty, .string ByteArray.empty, .slice none 0 0, .int .i64 0, .int .i64 0, .int .i64 0, .int .i64 0], .int .i64 12, .int .i64 0]) ?_ rfl ?_
                                · exact (results_row_tmp2 (p := 6) (u := 7) (u2 := 8) (ty := 39) rfl _ _ (t4 + 1) #[.string ByteArray.empty, .string ByteArray.empty, .slice none 0 0, .int .i64 0, .int .i64 0, .int .i64 0, .int .i64 0] rfl (load_tick _ _ _ (0, 0) (setRow_heap _ _ _ _ _ _ (RZY.out)) rfl)).trans rfl
                                · exact GrantPost.mk (t := zeroT) (HO.out.trans (grantK_no2 C1.out ((show refusedS fr un (12 : Int) cfl cli sfl sli now = _ from ref_cover 3 BC.out BS.out BC1.out BS2.out NCOV.out).symm) (by decide))) (below_setRow (BWY.out) (by have := HT4.out; omega) _)
                              | true =>
                                go_wp2_with fail
                                refine (rbit_c sfl 8 (by decide) BS.out.1 BS.out.2 _).mono ?_
                                rintro e w' ⟨rfl, rfl⟩
                                cases s8 : bitB sfl 8 with
                                | false =>
                                  have NCOV := Lib.hid (show coverB ((4 * ((3 : Fin 4).val) : Nat) : Int) cfl sfl = false from (show coverB (12 : Int) cfl sfl = false by simp [coverB, show bitB (12 : Int) 4 = true from by decide, show bitB (12 : Int) 8 = true from by decide, s8]))
                                  go_wp2_with (with_reducible refine wpList_store_any rfl 39 _ _ rfl (t4 + 1) [.string ByteArray.empty, .string ByteArray.empty, .slice none 0 0, .int .i64 0, .int .i64 0, .int .i64 0, .int .i64 0] rfl rfl 39 _ (RZY.out) 7 (by kernel_rfl) rfl rfl (by simp [Value.oneCell']) ?_ rfl)
                                  refine bodyPost_ret (v := .tuple #[.agg #[.string ByteArray.empty, .string ByteArray.empty, .slice none 0 0, .int .i64 0, .int .i64 0, .int .i64 0, .int .i64 0], .int .i64 12, .int .i64 0]) ?_ rfl ?_
                                  · exact (results_row_tmp2 (p := 6) (u := 7) (u2 := 8) (ty := 39) rfl _ _ (t4 + 1) #[.string ByteArray.empty, .string ByteArray.empty, .slice none 0 0, .int .i64 0, .int .i64 0, .int .i64 0, .int .i64 0] rfl (load_tick _ _ _ (0, 0) (setRow_heap _ _ _ _ _ _ (RZY.out)) rfl)).trans rfl
                                  · exact GrantPost.mk (t := zeroT) (HO.out.trans (grantK_no2 C1.out ((show refusedS fr un (12 : Int) cfl cli sfl sli now = _ from ref_cover 3 BC.out BS.out BC1.out BS2.out NCOV.out).symm) (by decide))) (below_setRow (BWY.out) (by have := HT4.out; omega) _)
                                | true =>
                                  have COV := Lib.hid (show coverB ((4 * ((3 : Fin 4).val) : Nat) : Int) cfl sfl = true from (show coverB (12 : Int) cfl sfl = true by simp [coverB, show bitB (12 : Int) 4 = true from by decide, show bitB (12 : Int) 8 = true from by decide, c4, s4, c8, s8]))
                                  by_cases e1 : now + Mn < fr
                                  · have E1 := Lib.hid e1
                                    go_wp2_with (with_reducible refine wpList_store_any rfl 39 _ _ rfl (t4 + 1) [.string ByteArray.empty, .string ByteArray.empty, .slice none 0 0, .int .i64 0, .int .i64 0, .int .i64 0, .int .i64 0] rfl rfl 39 _ (RZY.out) 7 (by kernel_rfl) rfl rfl (by simp [Value.oneCell']) ?_ rfl)
                                    refine bodyPost_ret (v := .tuple #[.agg #[.string ByteArray.empty, .string ByteArray.empty, .slice none 0 0, .int .i64 0, .int .i64 0, .int .i64 0, .int .i64 0], .int .i64 12, .int .i64 0]) ?_ rfl ?_
                                    · exact (results_row_tmp2 (p := 6) (u := 7) (u2 := 8) (ty := 39) rfl _ _ (t4 + 1) #[.string ByteArray.empty, .string ByteArray.empty, .slice none 0 0, .int .i64 0, .int .i64 0, .int .i64 0, .int .i64 0] rfl (load_tick _ _ _ (0, 0) (setRow_heap _ _ _ _ _ _ (RZY.out)) rfl)).trans rfl
                                    · exact GrantPost.mk (t := zeroT) (HO.out.trans (grantK_no2 C1.out (((show refusedS fr un (12 : Int) cfl cli sfl sli now = _ from ref_rest 3 BC.out BS.out BC1.out BS2.out COV.out).trans (if_pos (by rw [HM.out]; have := E1.out; omega))).symm) (by decide))) (below_setRow (BWY.out) (by have := HT4.out; omega) _)
                                  · have E1 := Lib.hid e1
                                    by_cases e2 : un = 0
                                    · subst e2
                                      have HRC0 := Lib.hid (show refusedS fr 0 (12 : Int) cfl cli sfl sli now = 0 from (ref_rest 3 BC.out BS.out BC1.out BS2.out COV.out).trans ((if_neg (by rw [HM.out]; have := E1.out; omega)).trans (if_neg (fun h => h.1 rfl))))
                                      have HU := Lib.hid (show (if (0 : Int) = 0 ∨ F + Mn < 0 then F + Mn else 0) = F + Mn from if_pos (Or.inl rfl))
                                      obtain ⟨Z2, hZ2⟩ : ∃ Z2, (if Z1 < F + Mn then F + Mn else Z1) = Z2 := ⟨_, rfl⟩
                                      have HZ2 := Lib.hid (show mx Z1 (F + Mn) = Z2 from hZ2)
                                      go_wp2_with fail
                                      refine (rbit_c (12 : Int) 4 (by decide) (by decide) (by decide) _).mono ?_
                                      rintro e w' ⟨rfl, rfl⟩
                                      rw [show bitB (12 : Int) 4 = true from by decide]
                                      by_cases r0 : re = 0
                                      · subst r0
                                        go_wp2_with fail
                                        refine (rbit_c (12 : Int) 4 (by decide) (by decide) (by decide) _).mono ?_
                                        rintro e w' ⟨rfl, rfl⟩
                                        rw [show bitB (12 : Int) 4 = true from by decide]
                                        go_wp2_with (with_reducible refine wpList_store_any rfl 39 _ _ rfl (t4 + 1) [.string cl, .string sv, .slice none 0 0, .int .i64 F, .int .i64 (F + Mn), .int .i64 0, .int .i64 8] rfl rfl 39 _ (blk_old _ RZY.out) 7 (by kernel_rfl) rfl rfl (by simp [Value.oneCell']) ?_ rfl)
                                        refine bodyPost_ret (v := .tuple #[.agg #[.string cl, .string sv, .slice none 0 0, .int .i64 F, .int .i64 (F + Mn), .int .i64 0, .int .i64 8], .int .i64 0, .int .i64 0]) ?_ rfl ?_
                                        · exact (results_row_tmp2 (p := 6) (u := 7) (u2 := 8) (ty := 39) rfl _ _ (t4 + 1) #[.string cl, .string sv, .slice none 0 0, .int .i64 F, .int .i64 (F + Mn), .int .i64 0, .int .i64 8] rfl (load_tick _ _ _ (0, 0) (setRow_heap _ _ _ _ _ _ (blk_old _ RZY.out)) rfl)).trans rfl
                                        · exact GrantPost.mk (t := ⟨cl, sv, F, F + Mn, 0, 8⟩) (HO.out.trans ((grantK_fin C1.out (HRC0.out) HF.out HM.out HR.out HU.out HZ1.out HZ2.out (z4 := bits .and .i64 (12 : Int) 4) rfl (z5 := bits .andNot .i64 (12 : Int) 4) rfl).trans (congrArg (fun x => (x, (0 : Int), (0 : Int))) ((if_pos (Or.inr rfl)).trans (congrArg (fun z => (⟨cl, sv, F, F + Mn, 0, z⟩ : GT)) (show bits .andNot .i64 (12 : Int) 4 = 8 by decide +kernel)))))) (below_setRow (below_alloc BWY.out _) (by have := HT4.out; omega) _)
                                      · have r1 : (re != 0) = true := by simpa using r0
                                        have R0 := Lib.hid r0
                                        go_wp2_with (with_reducible refine wpList_store_any rfl 39 _ _ rfl (t4 + 1) [.string cl, .string sv, .slice none 0 0, .int .i64 F, .int .i64 (F + Mn), .int .i64 Z2, .int .i64 12] rfl rfl 39 _ (blk_old _ RZY.out) 7 (by kernel_rfl) rfl rfl (by simp [Value.oneCell']) ?_ rfl)
                                        refine bodyPost_ret (v := .tuple #[.agg #[.string cl, .string sv, .slice none 0 0, .int .i64 F, .int .i64 (F + Mn), .int .i64 Z2, .int .i64 12], .int .i64 0, .int .i64 0]) ?_ rfl ?_
                                        · exact (results_row_tmp2 (p := 6) (u := 7) (u2 := 8) (ty := 39) rfl _ _ (t4 + 1) #[.string cl, .string sv, .slice none 0 0, .int .i64 F, .int .i64 (F + Mn), .int .i64 Z2, .int .i64 12] rfl (load_tick _ _ _ (0, 0) (setRow_heap _ _ _ _ _ _ (blk_old _ RZY.out)) rfl)).trans rfl
                                        · exact GrantPost.mk (t := ⟨cl, sv, F, F + Mn, Z2, 12⟩) (HO.out.trans ((grantK_fin C1.out (HRC0.out) HF.out HM.out HR.out HU.out HZ1.out HZ2.out (z4 := bits .and .i64 (12 : Int) 4) rfl (z5 := bits .andNot .i64 (12 : Int) 4) rfl).trans (congrArg (fun x => (x, (0 : Int), (0 : Int))) (if_neg (fun hh => hh.elim (by decide +kernel) R0.out))))) (below_setRow (below_alloc BWY.out _) (by have := HT4.out; omega) _)
                                    · have g0 : (un == 0) = false := by simpa using e2
                                      have g1 : (un != 0) = true := by simpa using e2
                                      have E2 := Lib.hid e2
                                      by_cases e3 : un ≤ F
                                      · have E3 := Lib.hid e3
                                        go_wp2_with (with_reducible refine wpList_store_any rfl 39 _ _ rfl (t4 + 1) [.string ByteArray.empty, .string ByteArray.empty, .slice none 0 0, .int .i64 0, .int .i64 0, .int .i64 0, .int .i64 0] rfl rfl 39 _ (RZY.out) 7 (by kernel_rfl) rfl rfl (by simp [Value.oneCell']) ?_ rfl)
                                        refine bodyPost_ret (v := .tuple #[.agg #[.string ByteArray.empty, .string ByteArray.empty, .slice none 0 0, .int .i64 0, .int .i64 0, .int .i64 0, .int .i64 0], .int .i64 12, .int .i64 0]) ?_ rfl ?_
                                        · exact (results_row_tmp2 (p := 6) (u := 7) (u2 := 8) (ty := 39) rfl _ _ (t4 + 1) #[.string ByteArray.empty, .string ByteArray.empty, .slice none 0 0, .int .i64 0, .int .i64 0, .int .i64 0, .int .i64 0] rfl (load_tick _ _ _ (0, 0) (setRow_heap _ _ _ _ _ _ (RZY.out)) rfl)).trans rfl
                                        · exact GrantPost.mk (t := zeroT) (HO.out.trans (grantK_no2 C1.out (((show refusedS fr un (12 : Int) cfl cli sfl sli now = _ from ref_rest 3 BC.out BS.out BC1.out BS2.out COV.out).trans ((if_neg (by rw [HM.out]; have := E1.out; omega)).trans (if_pos ⟨E2.out, by rw [HF.out]; exact E3.out⟩))).symm) (by decide))) (below_setRow (BWY.out) (by have := HT4.out; omega) _)
                                      · have E3 := Lib.hid e3
                                        have HRC0 := Lib.hid (show refusedS fr un (12 : Int) cfl cli sfl sli now = 0 from (ref_rest 3 BC.out BS.out BC1.out BS2.out COV.out).trans ((if_neg (by rw [HM.out]; have := E1.out; omega)).trans (if_neg (fun h => E3.out (by rw [← HF.out]; exact h.2)))))
                                        by_cases e4 : un < F + Mn
                                        · have E4 := Lib.hid e4
                                          have HU := Lib.hid (show (if un = 0 ∨ F + Mn < un then F + Mn else un) = un from if_neg (fun h => h.elim E2.out (by have := E4.out; omega)))
                                          obtain ⟨Z2, hZ2⟩ : ∃ Z2, (if Z1 < un then un else Z1) = Z2 := ⟨_, rfl⟩
                                          have HZ2 := Lib.hid (show mx Z1 (un) = Z2 from hZ2)
                                          go_wp2_with fail
                                          refine (rbit_c (12 : Int) 4 (by decide) (by decide) (by decide) _).mono ?_
                                          rintro e w' ⟨rfl, rfl⟩
                                          rw [show bitB (12 : Int) 4 = true from by decide]
                                          by_cases r0 : re = 0
                                          · subst r0
                                            go_wp2_with fail
                                            refine (rbit_c (12 : Int) 4 (by decide) (by decide) (by decide) _).mono ?_
                                            rintro e w' ⟨rfl, rfl⟩
                                            rw [show bitB (12 : Int) 4 = true from by decide]
                                            go_wp2_with (with_reducible refine wpList_store_any rfl 39 _ _ rfl (t4 + 1) [.string cl, .string sv, .slice none 0 0, .int .i64 F, .int .i64 (un), .int .i64 0, .int .i64 8] rfl rfl 39 _ (blk_old _ RZY.out) 7 (by kernel_rfl) rfl rfl (by simp [Value.oneCell']) ?_ rfl)
                                            refine bodyPost_ret (v := .tuple #[.agg #[.string cl, .string sv, .slice none 0 0, .int .i64 F, .int .i64 (un), .int .i64 0, .int .i64 8], .int .i64 0, .int .i64 0]) ?_ rfl ?_
                                            · exact (results_row_tmp2 (p := 6) (u := 7) (u2 := 8) (ty := 39) rfl _ _ (t4 + 1) #[.string cl, .string sv, .slice none 0 0, .int .i64 F, .int .i64 (un), .int .i64 0, .int .i64 8] rfl (load_tick _ _ _ (0, 0) (setRow_heap _ _ _ _ _ _ (blk_old _ RZY.out)) rfl)).trans rfl
                                            · exact GrantPost.mk (t := ⟨cl, sv, F, un, 0, 8⟩) (HO.out.trans ((grantK_fin C1.out (HRC0.out) HF.out HM.out HR.out HU.out HZ1.out HZ2.out (z4 := bits .and .i64 (12 : Int) 4) rfl (z5 := bits .andNot .i64 (12 : Int) 4) rfl).trans (congrArg (fun x => (x, (0 : Int), (0 : Int))) ((if_pos (Or.inr rfl)).trans (congrArg (fun z => (⟨cl, sv, F, un, 0, z⟩ : GT)) (show bits .andNot .i64 (12 : Int) 4 = 8 by decide +kernel)))))) (below_setRow (below_alloc BWY.out _) (by have := HT4.out; omega) _)
                                          · have r1 : (re != 0) = true := by simpa using r0
                                            have R0 := Lib.hid r0
                                            go_wp2_with (with_reducible refine wpList_store_any rfl 39 _ _ rfl (t4 + 1) [.string cl, .string sv, .slice none 0 0, .int .i64 F, .int .i64 (un), .int .i64 Z2, .int .i64 12] rfl rfl 39 _ (blk_old _ RZY.out) 7 (by kernel_rfl) rfl rfl (by simp [Value.oneCell']) ?_ rfl)
                                            refine bodyPost_ret (v := .tuple #[.agg #[.string cl, .string sv, .slice none 0 0, .int .i64 F, .int .i64 (un), .int .i64 Z2, .int .i64 12], .int .i64 0, .int .i64 0]) ?_ rfl ?_
                                            · exact (results_row_tmp2 (p := 6) (u := 7) (u2 := 8) (ty := 39) rfl _ _ (t4 + 1) #[.string cl, .string sv, .slice none 0 0, .int .i64 F, .int .i64 (un), .int .i64 Z2, .int .i64 12] rfl (load_tick _ _ _ (0, 0) (setRow_heap _ _ _ _ _ _ (blk_old _ RZY.out)) rfl)).trans rfl
                                            · exact GrantPost.mk (t := ⟨cl, sv, F, un, Z2, 12⟩) (HO.out.trans ((grantK_fin C1.out (HRC0.out) HF.out HM.out HR.out HU.out HZ1.out HZ2.out (z4 := bits .and .i64 (12 : Int) 4) rfl (z5 := bits .andNot .i64 (12 : Int) 4) rfl).trans (congrArg (fun x => (x, (0 : Int), (0 : Int))) (if_neg (fun hh => hh.elim (by decide +kernel) R0.out))))) (below_setRow (below_alloc BWY.out _) (by have := HT4.out; omega) _)
                                        · have E4 := Lib.hid e4
                                          have HU := Lib.hid (show (if un = 0 ∨ F + Mn < un then F + Mn else un) = F + Mn from (show _ = F + Mn by have h2 := E4.out; split <;> omega))
                                          obtain ⟨Z2, hZ2⟩ : ∃ Z2, (if Z1 < F + Mn then F + Mn else Z1) = Z2 := ⟨_, rfl⟩
                                          have HZ2 := Lib.hid (show mx Z1 (F + Mn) = Z2 from hZ2)
                                          go_wp2_with fail
                                          refine (rbit_c (12 : Int) 4 (by decide) (by decide) (by decide) _).mono ?_
                                          rintro e w' ⟨rfl, rfl⟩
                                          rw [show bitB (12 : Int) 4 = true from by decide]
                                          by_cases r0 : re = 0
                                          · subst r0
                                            go_wp2_with fail
                                            refine (rbit_c (12 : Int) 4 (by decide) (by decide) (by decide) _).mono ?_
                                            rintro e w' ⟨rfl, rfl⟩
                                            rw [show bitB (12 : Int) 4 = true from by decide]
                                            go_wp2_with (with_reducible refine wpList_store_any rfl 39 _ _ rfl (t4 + 1) [.string cl, .string sv, .slice none 0 0, .int .i64 F, .int .i64 (F + Mn), .int .i64 0, .int .i64 8] rfl rfl 39 _ (blk_old _ RZY.out) 7 (by kernel_rfl) rfl rfl (by simp [Value.oneCell']) ?_ rfl)
                                            refine bodyPost_ret (v := .tuple #[.agg #[.string cl, .string sv, .slice none 0 0, .int .i64 F, .int .i64 (F + Mn), .int .i64 0, .int .i64 8], .int .i64 0, .int .i64 0]) ?_ rfl ?_
                                            · exact (results_row_tmp2 (p := 6) (u := 7) (u2 := 8) (ty := 39) rfl _ _ (t4 + 1) #[.string cl, .string sv, .slice none 0 0, .int .i64 F, .int .i64 (F + Mn), .int .i64 0, .int .i64 8] rfl (load_tick _ _ _ (0, 0) (setRow_heap _ _ _ _ _ _ (blk_old _ RZY.out)) rfl)).trans rfl
                                            · exact GrantPost.mk (t := ⟨cl, sv, F, F + Mn, 0, 8⟩) (HO.out.trans ((grantK_fin C1.out (HRC0.out) HF.out HM.out HR.out HU.out HZ1.out HZ2.out (z4 := bits .and .i64 (12 : Int) 4) rfl (z5 := bits .andNot .i64 (12 : Int) 4) rfl).trans (congrArg (fun x => (x, (0 : Int), (0 : Int))) ((if_pos (Or.inr rfl)).trans (congrArg (fun z => (⟨cl, sv, F, F + Mn, 0, z⟩ : GT)) (show bits .andNot .i64 (12 : Int) 4 = 8 by decide +kernel)))))) (below_setRow (below_alloc BWY.out _) (by have := HT4.out; omega) _)
                                          · have r1 : (re != 0) = true := by simpa using r0
                                            have R0 := Lib.hid r0
                                            go_wp2_with (with_reducible refine wpList_store_any rfl 39 _ _ rfl (t4 + 1) [.string cl, .string sv, .slice none 0 0, .int .i64 F, .int .i64 (F + Mn), .int .i64 Z2, .int .i64 12] rfl rfl 39 _ (blk_old _ RZY.out) 7 (by kernel_rfl) rfl rfl (by simp [Value.oneCell']) ?_ rfl)
                                            refine bodyPost_ret (v := .tuple #[.agg #[.string cl, .string sv, .slice none 0 0, .int .i64 F, .int .i64 (F + Mn), .int .i64 Z2, .int .i64 12], .int .i64 0, .int .i64 0]) ?_ rfl ?_
                                            · exact (results_row_tmp2 (p := 6) (u := 7) (u2 := 8) (ty := 39) rfl _ _ (t4 + 1) #[.string cl, .string sv, .slice none 0 0, .int .i64 F, .int .i64 (F + Mn), .int .i64 Z2, .int .i64 12] rfl (load_tick _ _ _ (0, 0) (setRow_heap _ _ _ _ _ _ (blk_old _ RZY.out)) rfl)).trans rfl
                                            · exact GrantPost.mk (t := ⟨cl, sv, F, F + Mn, Z2, 12⟩) (HO.out.trans ((grantK_fin C1.out (HRC0.out) HF.out HM.out HR.out HU.out HZ1.out HZ2.out (z4 := bits .and .i64 (12 : Int) 4) rfl (z5 := bits .andNot .i64 (12 : Int) 4) rfl).trans (congrArg (fun x => (x, (0 : Int), (0 : Int))) (if_neg (fun hh => hh.elim (by decide +kernel) R0.out))))) (below_setRow (below_alloc BWY.out _) (by have := HT4.out; omega) _)
                        · have g0 : (fl != 0) = true := by simpa using f0
                          have g4 : (fl != 4) = true := by simpa using f4
                          have g8 : (fl != 8) = true := by simpa using f8
                          have g12 : (fl != 12) = true := by simpa using f12
                          have HNF := Lib.hid (show ¬ (fl = 0 ∨ fl = 4 ∨ fl = 8 ∨ fl = 12) by omega)
                          clear f0 f4 f8 f12
                          go_wp2_with (with_reducible refine wpList_store_any rfl 39 _ _ rfl (t4 + 1) [.string ByteArray.empty, .string ByteArray.empty, .slice none 0 0, .int .i64 0, .int .i64 0, .int .i64 0, .int .i64 0] rfl rfl 39 _ (RZY.out) 7 (by kernel_rfl) rfl rfl (by simp [Value.oneCell']) ?_ rfl)
                          refine bodyPost_ret (v := .tuple #[.agg #[.string ByteArray.empty, .string ByteArray.empty, .slice none 0 0, .int .i64 0, .int .i64 0, .int .i64 0, .int .i64 0], .int .i64 12, .int .i64 0]) ?_ rfl ?_
                          · exact (results_row_tmp2 (p := 6) (u := 7) (u2 := 8) (ty := 39) rfl _ _ (t4 + 1) #[.string ByteArray.empty, .string ByteArray.empty, .slice none 0 0, .int .i64 0, .int .i64 0, .int .i64 0, .int .i64 0] rfl (load_tick _ _ _ (0, 0) (setRow_heap _ _ _ _ _ _ (RZY.out)) rfl)).trans rfl
                          · exact GrantPost.mk (t := zeroT) (HO.out.trans (grantK_no2 C1.out ((ref_flags BC.out BS.out BC1.out BS2.out HFL.out.1 HFL.out.2 HNF.out).symm) (by decide))) (below_setRow (BWY.out) (by have := HT4.out; omega) _)
end Go.Proofs.YteplaginenhfkaaDoor
