/-
  The walk of the statement WhoBooks.
-/
import Derived.Test.YteplaginenhfkaaDoorWhoI
import Derived.Test.YteplaginenhfkaaDoorWhoK
set_option linter.unusedVariables false
set_option linter.unusedSimpArgs false
namespace Go.Proofs.YteplaginenhfkaaDoor
open Go.RowKit

structure Told where
  nm : ByteArray
  key : List UInt8
  fl : Int
  li : Int
  re : Int
  cd : Int
def told (L : List Ent) (s : ByteArray) : Told := match findE L s with
  | none => ⟨ByteArray.empty, [], 0, 0, 0, 5⟩
  | some x => ⟨x.name, x.key, x.fl, x.li, x.re, 0⟩
theorem Twins.told {L M : List Ent} (h : Twins L M) (s : ByteArray) : Go.Proofs.YteplaginenhfkaaDoor.told L s = Go.Proofs.YteplaginenhfkaaDoor.told M s := by
  have h1 := h.find s
  unfold Go.Proofs.YteplaginenhfkaaDoor.told
  cases ha : findE L s with
  | none => rw [ha] at h1; cases hb : findE M s with
    | none => rfl
    | some y => rw [hb] at h1; cases h1
  | some x => rw [ha] at h1; cases hb : findE M s with
    | none => rw [hb] at h1; cases h1
    | some y =>
      rw [hb] at h1
      have h2 : x.who = y.who := by injection h1
      show (⟨x.name, x.key, x.fl, x.li, x.re, 0⟩ : Told) = ⟨y.name, y.key, y.fl, y.li, y.re, 0⟩
      rw [show x.name = y.name from congrArg Who.name h2, show x.key = y.key from congrArg Who.key h2, show x.fl = y.fl from congrArg Who.fl h2, show x.li = y.li from congrArg Who.li h2, show x.re = y.re from congrArg Who.re h2]
def ToldPost (w : World) (t : Told) (e : Ending) (w' : World) : Prop :=
  ∃ A c, e = .returned (.tuple #[persV t.nm A t.key.length c t.fl t.li t.re, .int .i64 t.cd]) ∧ RB w' A t.key ∧ Below w.heap.size w w'
theorem FindPost.told {w w' : World} {L : List Ent} {s : ByteArray} {e : Ending} (h : FindPost w L s e w') : ToldPost w (told L s) e w' := by
  obtain ⟨hb, h1, h2⟩ := h
  unfold Go.Proofs.YteplaginenhfkaaDoor.told
  cases hf : findE L s with
  | none => exact ⟨none, 0, h1 hf, RB.nil _ _, hb⟩
  | some x =>
    obtain ⟨A, c, he, hr, _⟩ := h2 x hf
    exact ⟨A, c, he, hr, hb⟩
theorem rt_one {w : World} (x : ByteArray) : RT (w.alloc (.cells #[.string x] 9)) (some ⟨w.heap.size, 0, none⟩) [x] := fun i hi => by
  have : i = 0 := by simp at hi; omega
  subst this
  exact ⟨_, 0, rfl, by simp, (cell_of_row _ w.heap.size 0 _ _ _ (blk_new _ rfl)).trans rfl⟩
set_option maxRecDepth 100000 in
set_option maxHeartbeats 4000000 in
theorem law_who_books (A : Option Addr) (c : Nat) (ps : List Pin) (s : ByteArray) (w : World) (hl : ps.length ≤ 140737488355328) (hR : RP w A ps) (hs : s.size ≤ 140737488351232) (hT : Tab w) :
    Calls Tryd.prog 8 #[.slice A ps.length c, .string s] w fun e w' => e = .returned (.bool true) ∧ Below w.heap.size w w' := by
  have hzp := zeroPers
  have hzr := zeroRPers
  have HBC := Lib.hid (both_c A c ps w hl hR)
  have HT := Lib.hid hT
  obtain ⟨m1, hm1⟩ : ∃ m, m = min s.size 100 := ⟨_, rfl⟩
  have hk1 := min_len s.size 100 100 rfl
  rw [← hm1] at hk1
  obtain ⟨S1, hS1⟩ : ∃ x, x = cutS s 100 := ⟨_, rfl⟩
  have hsl1 := fun W => run_slice_str s m1 (by omega) W
  rw [hm1, show s.extract 0 (min s.size 100) = S1 from hS1.symm, ← hm1] at hsl1
  clear hl hR hT hm1 hS1
  go_enter Tryd.func8, Tryd.ntmps8
  go_wp2_with fail
  refine HBC.out.mono ?_
  rintro e w1 ⟨p, mp, q, rfl, v, L, u, M, hx, hy, ht, hf, hLk, hb1⟩
  have BX := Lib.hid hx; have BY := Lib.hid hy; have TW := Lib.hid ht; have LK := Lib.hid hLk; have B1 := Lib.hid hb1
  clear hx hy ht hf hLk hb1
  go_wp2_with fail
  clear hk1 hsl1
  refine (find_c w.heap.size p mp v L S1 w1 BX.out).mono ?_
  intro e w2 hp
  obtain ⟨A2, c2, rfl, hr2, hb2⟩ := hp.told
  obtain ⟨⟨tn, tk, tf, tl, tr, tc⟩, htd⟩ : ∃ t, t = told L S1 := ⟨_, rfl⟩
  rw [← htd] at hr2 ⊢
  simp only at hr2
  simp only
  obtain ⟨kn, hkn⟩ : ∃ kn, kn = tk.length := ⟨_, rfl⟩
  rw [← hkn]
  have KN := Lib.hid hkn; have TD := Lib.hid htd; have R2 := Lib.hid hr2; have B2 := Lib.hid (B1.out.trans (hb2.mono B1.out.size))
  have BX := Lib.hid (BX.out.below hb2); have BY := Lib.hid (BY.out.below hb2)
  clear hp hr2 hb2 htd hkn
  unfold persV
  go_wp2_with fail
  obtain ⟨Z, hZ⟩ : ∃ Z, Z = w2.alloc (.cells #[.string tn, .slice A2 kn c2, .int .i64 tf, .int .i64 tl, .int .i64 tr] 50) := ⟨_, rfl⟩
  obtain ⟨t8, ht8⟩ : ∃ t8, t8 = w2.heap.size := ⟨_, rfl⟩
  rw [← hZ, ← ht8]
  have hbZ : Below w2.heap.size w2 Z := by rw [hZ]; exact below_alloc (Below.refl _ _) _
  have RZ := Lib.hid (show Z.heap[t8]? = some (.cells #[.string tn, .slice A2 kn c2, .int .i64 tf, .int .i64 tl, .int .i64 tr] 50 (0, 0)) by rw [hZ, ht8]; exact blk_new _ rfl)
  have R2 := Lib.hid (R2.out.below hbZ); have BZ := Lib.hid (B2.out.trans (hbZ.mono B2.out.size)); have BX := Lib.hid (BX.out.below hbZ); have BY := Lib.hid (BY.out.below hbZ)
  clear hZ ht8 hbZ
  refine (rfind_c w.heap.size q u M S1 Z BY.out (by have := LK.out; have := TW.out.length; omega)).mono ?_
  intro e w3 hp
  obtain ⟨A3, c3, rfl, hr3, hb3⟩ := hp.told
  rw [← TW.out.told S1, ← TD.out] at hr3 ⊢
  simp only at hr3
  simp only
  rw [← KN.out]
  have R3 := Lib.hid hr3; have R2 := Lib.hid (R2.out.below hb3); have B3 := Lib.hid (BZ.out.trans (hb3.mono BZ.out.size)); have BX := Lib.hid (BX.out.below hb3); have BY := Lib.hid (BY.out.below hb3)
  have R8 := Lib.hid (blk_below RZ.out hb3 (Array.getElem?_eq_some_iff.1 RZ.out).1)
  have R8w3 := Lib.hid R8.out
  clear hp hr3 hb3
  unfold persV
  go_wp2_with fail
  obtain ⟨Y0, hY0⟩ : ∃ Y, Y = w3.alloc (.cells #[.string tn, .slice A3 kn c3, .int .i64 tf, .int .i64 tl, .int .i64 tr] 45) := ⟨_, rfl⟩
  have hY0s : Y0.heap.size = w3.heap.size + 1 := by rw [hY0]; simp
  obtain ⟨Y, hY⟩ : ∃ Y, Y = Y0.alloc (.cells #[] 9) := ⟨_, rfl⟩
  rw [← hY0, ← hY, ← hY0s]
  obtain ⟨t10, ht10⟩ : ∃ t10, t10 = w3.heap.size := ⟨_, rfl⟩
  rw [← ht10]
  have hbY0 : Below w3.heap.size w3 Y0 := by rw [hY0]; exact below_alloc (Below.refl _ _) _
  have hbY1 : Below Y0.heap.size Y0 Y := by rw [hY]; exact below_alloc (Below.refl _ _) _
  have hbY : Below w3.heap.size w3 Y := hbY0.trans (hbY1.mono hbY0.size)
  have r10 : Y0.heap[t10]? = some (.cells #[.string tn, .slice A3 kn c3, .int .i64 tf, .int .i64 tl, .int .i64 tr] 45 (0, 0)) := by rw [hY0, ht10]; exact blk_new _ rfl
  have BYO := Lib.hid (BY.out.below hbY0); have BXO := Lib.hid (BX.out.below hbY0); have R2O := Lib.hid (R2.out.below hbY0); have R3O := Lib.hid (R3.out.below hbY0); have BWO := Lib.hid (B3.out.trans (hbY0.mono B3.out.size)); have HBY1 := Lib.hid hbY1
  have R10 := Lib.hid (blk_below r10 hbY1 (Array.getElem?_eq_some_iff.1 r10).1)
  have R8 := Lib.hid (blk_below R8.out hbY (Array.getElem?_eq_some_iff.1 R8.out).1)
  have R2 := Lib.hid (R2.out.below hbY); have R3 := Lib.hid (R3.out.below hbY); have BX := Lib.hid (BX.out.below hbY); have BY := Lib.hid (BY.out.below hbY)
  have BYY := Lib.hid (B3.out.trans (hbY.mono B3.out.size))
  have OT0 := Lib.hid (show OwnT Y Y0.heap.size (.slice (some ⟨Y0.heap.size, 0, none⟩) 0 0) [] by rw [hY]; exact OwnT.new Y0 _ (Nat.le_refl _))
  have Y0S := Lib.hid (show Y0.heap.size ≤ Y.heap.size ∧ t8 < Y0.heap.size ∧ t10 < Y0.heap.size by
    have h1 := hbY1.size
    have h2 := (Array.getElem?_eq_some_iff.1 r10).1
    have h3 := (Array.getElem?_eq_some_iff.1 RZ.out).1
    have h4 := hbY0.size
    refine ⟨h1, ?_, h2⟩
    have := (Array.getElem?_eq_some_iff.1 (show w3.heap[t8]? = some _ from R8w3.out)).1
    omega)
  obtain ⟨n, hn⟩ : ∃ n, n = M.length := ⟨_, rfl⟩
  have HN := Lib.hid hn
  have hn2 : n ≤ 1000 := by rw [hn]; have := LK.out; have := TW.out.length; omega
  have hsh : ∃ UA uc, u = .slice UA n uc ∧ Hid (∀ k, (hk : k < M.length) → ∃ g, UA = some ⟨g, 0, none⟩ ∧ g < Y0.heap.size ∧ Y.cell? ⟨g, k * 5, none⟩ = some (.string (M[k]).name)) := by
    rcases BYO.out.own with ⟨e, h0⟩ | ⟨g, cap, cur, e, hB, hh, h0, hc⟩
    · subst h0
      exact ⟨none, 0, by rw [e, hn]; rfl, Lib.hid (fun k hk => by simp at hk)⟩
    · exact ⟨some ⟨g, 0, none⟩, cap, by rw [e, hn], Lib.hid (fun k hk => ⟨g, rfl, (Array.getElem?_eq_some_iff.1 hh).1, (hbY1.cell (p := ⟨g, k * 5, none⟩) (Array.getElem?_eq_some_iff.1 hh).1).trans (hc k 0 hk (by decide))⟩)⟩
  obtain ⟨UA, uc, rfl, HC⟩ := hsh
  have hqY : Y.cell? ⟨q, 0, none⟩ = some (.slice UA n uc) := (cell_of_row Y q 0 _ _ _ BY.out.row).trans rfl
  have HQ := Lib.hid (show q < Y0.heap.size ∧ Y.cell? ⟨q, 0, none⟩ = some (.slice UA n uc) from ⟨(Array.getElem?_eq_some_iff.1 BYO.out.row).1, hqY⟩)
  clear hY hY0 hY0s ht10 hbY hbY0 hbY1 r10 hn hqY
  go_loopw [12, 13] (fun vn vi wr => ∃ k : Nat, k ≤ n ∧ vi = .int .i64 k ∧ Hid (OwnT wr Y0.heap.size vn ((M.map Ent.name).take k)) ∧ Hid (Below Y0.heap.size Y wr)) (fun _ i _ => n - (intOf i).toNat)
  case atStart => exact ⟨0, by omega, rfl, OT0, Lib.hid (Below.refl _ _)⟩
  case round =>
    obtain ⟨k, hk, rfl, hot, hbr⟩ := hrel
    have hq0 := (hbr.out.cell (p := ⟨q, 0, none⟩) HQ.out.1).trans HQ.out.2
    by_cases hlt : k < n
    · have hlt2 : (k : Int) < (n : Int) := by omega
      have hkM : k < M.length := by rw [← HN.out]; exact hlt
      obtain ⟨g, rfl, hg, hc⟩ := HC.out k hkM
      obtain ⟨nm, hnm⟩ : ∃ x, x = (M[k]'hkM).name := ⟨_, rfl⟩
      rw [← hnm] at hc
      have hc2 := (hbr.out.cell (p := ⟨g, k * 5, none⟩) hg).trans hc
      obtain ⟨vA, vc, hv, _⟩ := hot.out.reads
      have hkl : ((M.map Ent.name).take k).length = k := by rw [List.length_take, List.length_map]; omega
      rw [hkl] at hv
      subst hv
      have HNX := Lib.hid (show (M.map Ent.name).take k ++ [nm] = (M.map Ent.name).take (k + 1) by
        rw [List.take_succ_eq_append_getElem (by rw [List.length_map]; exact hkM), List.getElem_map, hnm])
      have HTL := Lib.hid (show ((M.map Ent.name).take k).length + 1 ≤ 100000 by rw [hkl]; omega)
      have HWB := Lib.hid (Nat.le_trans Y0S.out.1 hbr.out.size)
      have HOTA := Lib.hid (show OwnT (wr.alloc (.cells #[.string nm] 9)) Y0.heap.size (.slice vA k vc) ((M.map Ent.name).take k) from hot.out.below (below_alloc (Below.refl _ _) _))
      clear hc hnm hkl hkM hg
      go_wp2_with (at_builtin; refine app_texts _ _ Y0.heap.size ((M.map Ent.name).take k) [nm] rfl rfl _ _ _ _ rfl rfl rfl HOTA.out (rt_one nm) (by have := HWB.out; simp; omega) HTL.out ?_; intro v1 w1 ho1 hb1; rw [HNX.out] at ho1; have HO1 := Lib.hid ho1; have HB1 := Lib.hid (hbr.out.trans (((below_alloc (Below.refl _ _) _).mono HWB.out).trans hb1)); clear ho1 hb1)
      go_roundw
      case rel => exact ⟨k + 1, by omega, by go_num, HO1, HB1⟩
      case measure => simp [intOf]; omega
    · have hlt2 : ¬ (k : Int) < (n : Int) := by omega
      have hke : (M.map Ent.name).take k = M.map Ent.name := List.take_of_length_le (by rw [List.length_map]; have := HN.out; omega)
      rw [hke] at hot
      obtain ⟨vA, vc, hv, hrt⟩ := hot.out.reads
      rw [List.length_map, ← HN.out] at hv
      subst hv
      have c80 := (hbr.out.cell (p := ⟨t8, 0, none⟩) Y0S.out.2.1).trans ((cell_of_row Y t8 0 _ _ _ R8.out).trans rfl)
      have c81 := (hbr.out.cell (p := ⟨t8, 1, none⟩) Y0S.out.2.1).trans ((cell_of_row Y t8 1 _ _ _ R8.out).trans rfl)
      have c82 := (hbr.out.cell (p := ⟨t8, 2, none⟩) Y0S.out.2.1).trans ((cell_of_row Y t8 2 _ _ _ R8.out).trans rfl)
      have c83 := (hbr.out.cell (p := ⟨t8, 3, none⟩) Y0S.out.2.1).trans ((cell_of_row Y t8 3 _ _ _ R8.out).trans rfl)
      have c84 := (hbr.out.cell (p := ⟨t8, 4, none⟩) Y0S.out.2.1).trans ((cell_of_row Y t8 4 _ _ _ R8.out).trans rfl)
      have d80 := (hbr.out.cell (p := ⟨t10, 0, none⟩) Y0S.out.2.2).trans ((cell_of_row Y t10 0 _ _ _ R10.out).trans rfl)
      have d81 := (hbr.out.cell (p := ⟨t10, 1, none⟩) Y0S.out.2.2).trans ((cell_of_row Y t10 1 _ _ _ R10.out).trans rfl)
      have d82 := (hbr.out.cell (p := ⟨t10, 2, none⟩) Y0S.out.2.2).trans ((cell_of_row Y t10 2 _ _ _ R10.out).trans rfl)
      have d83 := (hbr.out.cell (p := ⟨t10, 3, none⟩) Y0S.out.2.2).trans ((cell_of_row Y t10 3 _ _ _ R10.out).trans rfl)
      have d84 := (hbr.out.cell (p := ⟨t10, 4, none⟩) Y0S.out.2.2).trans ((cell_of_row Y t10 4 _ _ _ R10.out).trans rfl)
      have HRT := Lib.hid hrt
      clear hrt hke hot
      have hbz := HBY1.out.trans hbr.out
      have BXR := Lib.hid (BXO.out.below hbz); have R2R := Lib.hid (R2O.out.below hbz); have R3R := Lib.hid (R3O.out.below hbz); have BWR := Lib.hid (BWO.out.trans (hbz.mono BWO.out.size))
      have NMS := Lib.hid (show L.map Ent.name = M.map Ent.name by
        have h := congrArg (List.map Who.name) TW.out
        rw [List.map_map, List.map_map] at h
        exact h)
      clear hbz
      go_wp2_with fail
      have hsm := same_c A2 A3 c2 c3 tk tk wr R2R.out R3R.out
      rw [← KN.out, decide_eq_true rfl] at hsm
      refine hsm.mono ?_
      clear hsm
      rintro e w' ⟨rfl, rfl⟩
      go_wp2_with fail
      have hnc := names_c w.heap.size p mp v L wr BXR.out (by have := LK.out; omega)
      rw [NMS.out] at hnc
      refine hnc.mono ?_
      clear hnc c80 c81 c82 c83 c84 d80 d81 d82 d83 d84
      rintro e w6 ⟨v6, rfl, ho6, hb6⟩
      obtain ⟨A6, c6, hv6, hr6⟩ := ho6.reads
      rw [List.length_map, ← HN.out] at hv6
      subst hv6
      have HR6 := Lib.hid hr6; have B6 := Lib.hid (BWR.out.trans (hb6.mono BWR.out.size)); have HRT6 := Lib.hid (HRT.out.below hb6)
      clear ho6 hb6 hr6
      go_wp2_with fail
      have hst := same_texts_c A6 vA c6 vc (M.map Ent.name) w6 HR6.out HRT6.out (by rw [List.length_map, ← HN.out]; omega)
      rw [List.length_map, ← HN.out] at hst
      refine hst.mono ?_
      clear hst
      rintro e w7 ⟨rfl, hb7⟩
      have B7 := Lib.hid (B6.out.trans (hb7.mono B6.out.size))
      clear hb7
      go_wp2_with fail
      refine (works_c19 w7 (HT.out.below B7.out)).mono ?_
      rintro e w8 ⟨rfl, hb8⟩
      have B8 := Lib.hid (B7.out.trans (hb8.mono B7.out.size))
      clear hb8
      go_wp2_with fail
      go_ret
      exact ⟨rfl, B8.out⟩
end Go.Proofs.YteplaginenhfkaaDoor
