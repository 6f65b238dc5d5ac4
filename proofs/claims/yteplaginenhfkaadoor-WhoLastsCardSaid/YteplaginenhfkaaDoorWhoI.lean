/-
  who: both: a book and the reference's, of some principals. who: the walk of both.
-/
import Derived.Test.YteplaginenhfkaaDoorWhoG
import Derived.Test.YteplaginenhfkaaDoorWhoC
set_option linter.unusedVariables false
set_option linter.unusedSimpArgs false
namespace Go.Proofs.YteplaginenhfkaaDoor
open Go.RowKit

structure Pin where
  nm : ByteArray
  A : Option Addr
  c : Nat
  key : List UInt8
  fl : Int
  li : Int
  re : Int
def PinAt (w : World) (b o : Nat) (x : Pin) : Prop :=
  w.cell? ⟨b, o, none⟩ = some (.string x.nm) ∧ w.cell? ⟨b, o + 1, none⟩ = some (.slice x.A x.key.length x.c) ∧ w.cell? ⟨b, o + 2, none⟩ = some (.int .i64 x.fl) ∧ w.cell? ⟨b, o + 3, none⟩ = some (.int .i64 x.li) ∧ w.cell? ⟨b, o + 4, none⟩ = some (.int .i64 x.re) ∧
    RB w x.A x.key ∧ x.key.length ≤ x.c ∧ x.nm.size ≤ 140737488351232
/-- A slice of principals that came in. -/
def RP (w : World) (A : Option Addr) (ps : List Pin) : Prop := ∀ i (h : i < ps.length), ∃ b off, A = some ⟨b, off, none⟩ ∧ b < w.heap.size ∧ PinAt w b (off + i * 5) (ps[i])
theorem PinAt.below {w w1 : World} {b o : Nat} {x : Pin} (h : PinAt w b o x) (hb : Below w.heap.size w w1) (hl : b < w.heap.size) : PinAt w1 b o x :=
  ⟨(hb.cell (p := ⟨b, o, none⟩) hl).trans h.1, (hb.cell (p := ⟨b, o + 1, none⟩) hl).trans h.2.1, (hb.cell (p := ⟨b, o + 2, none⟩) hl).trans h.2.2.1, (hb.cell (p := ⟨b, o + 3, none⟩) hl).trans h.2.2.2.1, (hb.cell (p := ⟨b, o + 4, none⟩) hl).trans h.2.2.2.2.1, h.2.2.2.2.2.1.below hb, h.2.2.2.2.2.2⟩
theorem RP.below {w w1 : World} {A : Option Addr} {ps : List Pin} (h : RP w A ps) (hb : Below w.heap.size w w1) : RP w1 A ps := fun i hi => by
  obtain ⟨b, off, e, hl, hp⟩ := h i hi
  exact ⟨b, off, e, Nat.lt_of_lt_of_le hl hb.size, hp.below hb hl⟩
def Ent.full (e : Ent) : Prop := e.ok ∧ okName e.name = true ∧ e.key.length = 16
theorem addS_zero {L : List Ent} {nm : ByteArray} {n : Nat} {fl li re : Int} (h : addS L nm n fl li re = 0) : okName nm = true ∧ n = 16 ∧ (0 ≤ fl ∧ fl ≤ 15) ∧ (1 ≤ li ∧ li ≤ 1099511627776) ∧ (1 ≤ re ∧ re ≤ 1099511627776) := by
  unfold addS at h
  split at h
  · cases h
  · rename_i h1
    split at h
    · cases h
    · rename_i h2
      have a1 : okName nm = true := by
        cases e : okName nm with
        | true => rfl
        | false => exact absurd (Or.inl e) h1
      have a2 : n = 16 := Classical.byContradiction fun e => h1 (Or.inr e)
      have a3 : [li, re].all okTime = true := by
        cases e : [li, re].all okTime with
        | true => rfl
        | false => exact absurd (Or.inr (Or.inr (Or.inr (Or.inr e)))) h2
      have a4 : (0 ≤ li ∧ li ≤ 1099511627776) ∧ (0 ≤ re ∧ re ≤ 1099511627776) := by simpa [okTime] using a3
      have a5 : ¬ li = 0 := fun e => h2 (Or.inr (Or.inr (Or.inl e)))
      have a6 : ¬ re = 0 := fun e => h2 (Or.inr (Or.inr (Or.inr (Or.inl e))))
      have a7 : ¬ fl < 0 := fun e => h2 (Or.inl e)
      have a8 : ¬ 15 < fl := fun e => h2 (Or.inr (Or.inl e))
      exact ⟨a1, a2, by omega, by omega, by omega⟩
/-- The two books, of the same principals. -/
def Bo (w : World) (p mp q k : Nat) (wr : World) : Prop :=
  ∃ v L u M, BkA wr w.heap.size p mp v L ∧ RbA wr w.heap.size q u M ∧ Twins L M ∧ (∀ e ∈ L, e.full) ∧ L.length ≤ k ∧ Below w.heap.size w wr
def BothPost (w : World) (e : Ending) (w' : World) : Prop :=
  ∃ p mp q, e = .returned (.tuple #[.pointer (some ⟨p, 0, none⟩), .pointer (some ⟨q, 0, none⟩), .bool true]) ∧ Bo w p mp q 40 w'
/-- What an Add makes of the two books. -/
theorem bo_next {w w4 w6 w7 : World} {p mp q k : Nat} {v u : Value} {L M : List Ent} {nm : ByteArray} {key : List UInt8} {fl li re : Int} {e1 e2 : Ending} {Z : World}
    (hx : BkA Z w.heap.size p mp v L) (hy : RbA Z w.heap.size q u M) (ht : Twins L M) (hf : ∀ e ∈ L, e.full) (hk : L.length ≤ k) (hb : Below w.heap.size w Z)
    (ha : AddPost Z w.heap.size p mp v L nm key fl li re e1 w4) (h46 : Below w4.heap.size w4 w6) (hr : RAddPost w6 w.heap.size q u M nm key fl li re e2 w7) :
    e1 = e2 ∧ Bo w p mp q (k + 1) w7 := by
  have he := ht.addS nm key.length fl li re
  have hb4 : Below w.heap.size w w4 := hx.stays ha.2.1 hb hb.size
  have hb6 : Below w.heap.size w w6 := hb4.trans (h46.mono hb4.size)
  have hy4 : RbA w4 w.heap.size q u M := hy.beside hx ha.2.1
  have hy6 := hy4.below h46
  have hb7 : Below w.heap.size w w7 := hy6.stays hr.2.1 hb6 hb6.size
  refine ⟨by rw [ha.1, hr.1, he], ?_⟩
  by_cases h0 : addS L nm key.length fl li re = 0
  · obtain ⟨v', k1, c1, _, hx4⟩ := ha.2.2.2 h0
    obtain ⟨u', k2, c2, _, hy7⟩ := hr.2.2.2 (he ▸ h0)
    have hx7 := (hx4.below h46).beside hy6 hr.2.1
    obtain ⟨z1, z2, z3, z4, z5⟩ := addS_zero h0
    refine ⟨v', _, u', _, hx7, hy7, ht.snoc rfl, fun e he => ?_, by rw [List.length_append]; simp; omega, hb7⟩
    rcases List.mem_append.1 he with he | he
    · exact hf e he
    · obtain rfl := by simpa using he
      exact ⟨⟨z3, z4, z5⟩, z1, z2⟩
  · have hx4 := ha.2.2.1 h0
    have hy7 := hr.2.2.1 (fun h => h0 (he.trans h))
    exact ⟨v, L, u, M, (hx4.below h46).beside hy6 hr.2.1, hy7, ht, hf, by omega, hb7⟩
end Go.Proofs.YteplaginenhfkaaDoor
namespace Go.Proofs.YteplaginenhfkaaDoor
open Go.RowKit

theorem BkA.not_high {w : World} {B p mp : Nat} {v : Value} {L : List Ent} (h : BkA w B p mp v L) (k : Nat) (hk : w.heap.size ≤ k) : ¬ bookS p mp v k := by
  rintro (e | e | e)
  · have := h.lt.1; omega
  · have := h.lt.2; omega
  · have := (h.names_ne k e).2.2.2.1; omega
theorem BkA.not_low {w : World} {B p mp : Nat} {v : Value} {L : List Ent} (h : BkA w B p mp v L) (k : Nat) (hk : k < B) : ¬ bookS p mp v k := by
  rintro (e | e | e)
  · have := h.hp; omega
  · have := h.hm; omega
  · have := (h.names_ne k e).2.2.1; omega
theorem Bo.mono {w wr : World} {p mp q k k2 : Nat} (h : Bo w p mp q k wr) (hk : k ≤ k2) : Bo w p mp q k2 wr := by
  obtain ⟨v, L, u, M, a, b, c, d, e, f⟩ := h
  exact ⟨v, L, u, M, a, b, c, d, Nat.le_trans e hk, f⟩
set_option maxRecDepth 100000 in
set_option maxHeartbeats 4000000 in
theorem both_c (A : Option Addr) (c : Nat) (ps : List Pin) (w : World) (hl : ps.length ≤ 140737488355328) (hR : RP w A ps) : Calls Tryd.prog 10 #[.slice A ps.length c] w (BothPost w) := by
  have hz := zeroPers
  have HR := Lib.hid hR
  obtain ⟨n, hn⟩ : ∃ n, n = ps.length := ⟨_, rfl⟩
  rw [← hn]
  have HN := Lib.hid hn
  have hn2 : n ≤ 140737488355328 := by rw [hn]; exact hl
  clear hR hn hl
  go_enter Tryd.func10, Tryd.ntmps10
  go_wp2_with fail
  refine (make_c w).mono ?_
  rintro e w1 ⟨rfl, hw1⟩
  obtain ⟨p, hp⟩ : ∃ p, p = w.heap.size + 1 := ⟨_, rfl⟩
  rw [← hp]
  have hbk := bk_make w
  rw [← hw1, ← hp] at hbk
  have BK1 := Lib.hid hbk
  have B1 := Lib.hid (show Below w.heap.size w w1 by rw [hw1]; exact below_alloc (below_alloc (Below.refl _ _) _) _)
  clear hbk hw1 hp
  go_wp2_with fail
  refine (rmake_c w1).mono ?_
  rintro e w2 ⟨rfl, hb2, hra⟩
  obtain ⟨q, hq⟩ : ∃ q, q = w1.heap.size := ⟨_, rfl⟩
  rw [← hq] at hra ⊢
  have hqB : w.heap.size ≤ q := by rw [hq]; exact B1.out.size
  have HBo := Lib.hid (show Bo w p w.heap.size q 0 w2 from ⟨_, [], _, [], BK1.out.below hb2, ⟨hra.row, World.ownsRow_nil _ _ _ 5, fun _ => rfl, (fun e he => by cases he), hqB⟩, rfl, (fun e he => by cases he), Nat.le_refl _, B1.out.trans (hb2.mono B1.out.size)⟩)
  clear hb2 hra hq hqB
  obtain ⟨mp, hmp⟩ : ∃ mp, mp = w.heap.size := ⟨_, rfl⟩
  rw [← hmp] at HBo
  clear hmp BK1
  go_wp2_with fail
  go_loopw [7] (fun vi wr => ∃ k : Nat, k ≤ n ∧ k ≤ 40 ∧ vi = .int .i64 k ∧ Hid (Bo w p mp q k wr)) (fun i _ => 40 - (intOf i).toNat)
  case atStart => exact ⟨0, by omega, by omega, rfl, HBo⟩
  case round =>
    obtain ⟨k, hk, hk40, rfl, hbo⟩ := hrel
    by_cases hlt : k < n
    · have hlt2 : (k : Int) < (n : Int) := by omega
      by_cases h40 : k < 40
      · have h42 : (k : Int) < 40 := by omega
        obtain ⟨v, L, u, M, hx, hy, ht, hf, hLk, hbw⟩ := hbo.out
        obtain ⟨b, off, rfl, hbl, hpin⟩ := HR.out k (by rw [← HN.out]; exact hlt)
        have hpr := hpin.below hbw hbl
        obtain ⟨⟨nm, kA, kc, key, fl, li, re⟩, hpp⟩ : ∃ x, x = ps[k]'(by rw [← HN.out]; exact hlt) := ⟨_, rfl⟩
        rw [← hpp] at hpr hpin
        obtain ⟨i0, i1, i2, i3, i4, iR, ic, inm⟩ := hpr
        simp only at i0 i1 i2 i3 i4 iR ic inm
        have PIN := Lib.hid hpin; have IR := Lib.hid iR; have IC := Lib.hid ic; have INM := Lib.hid inm; have BW := Lib.hid hbw; have BL := Lib.hid hbl
        have BX := Lib.hid hx; have BY := Lib.hid hy; have TW := Lib.hid ht; have FU := Lib.hid hf; have LK := Lib.hid hLk
        obtain ⟨kn, hkn⟩ : ∃ kn, kn = key.length := ⟨_, rfl⟩
        rw [← hkn] at i1
        have KN := Lib.hid hkn
        clear hx hy ht hf hLk hbw hbl hpin iR ic inm hpp hkn
        go_wp2_with fail
        have hsc := short_c nm kA kc key fl li re wr INM.out IC.out IR.out
        rw [← KN.out] at hsc
        refine hsc.mono ?_
        clear hsc i0 i1 i2 i3 i4
        rintro e w3 ⟨A3, c3, rfl, hr3, hb3⟩
        obtain ⟨key2, hkey2⟩ : ∃ k2, k2 = key.take 40 := ⟨_, rfl⟩
        obtain ⟨nm2, hnm2⟩ : ∃ n2, n2 = cutS nm 100 := ⟨_, rfl⟩
        rw [← hkey2] at hr3 ⊢
        rw [← hnm2]
        obtain ⟨k2n, hk2n⟩ : ∃ k2n, k2n = key2.length := ⟨_, rfl⟩
        rw [← hk2n]
        have K2L := Lib.hid (show key2.length ≤ 100000 by rw [hkey2, List.length_take]; omega)
        have N2L := Lib.hid (show nm2.size ≤ 1000000 by rw [hnm2]; have := cutS_size nm 100; omega)
        have R3 := Lib.hid hr3; have B3 := Lib.hid hb3; have KEY2 := Lib.hid hkey2; have NM2 := Lib.hid hnm2; have K2N := Lib.hid hk2n
        clear hr3 hb3 hkey2 hnm2 hk2n
        unfold persV
        go_wp2_with fail
        obtain ⟨Z, hZ⟩ : ∃ Z, Z = w3.alloc (.cells #[.string nm2, .slice A3 k2n c3, .int .i64 fl, .int .i64 li, .int .i64 re] 50) := ⟨_, rfl⟩
        obtain ⟨t8, ht8⟩ : ∃ t8, t8 = w3.heap.size := ⟨_, rfl⟩
        rw [← hZ, ← ht8]
        have hbZ : Below wr.heap.size wr Z := by rw [hZ]; exact B3.out.trans ((below_alloc (Below.refl _ _) _).mono B3.out.size)
        have hrZ : Z.heap[t8]? = some (.cells #[.string nm2, .slice A3 k2n c3, .int .i64 fl, .int .i64 li, .int .i64 re] 50 (0, 0)) := by rw [hZ, ht8]; exact blk_new _ rfl
        have hRZ : RB Z A3 key2 := by rw [hZ]; exact R3.out.below (below_alloc (Below.refl _ _) _)
        have HBZ := Lib.hid (BW.out.trans (hbZ.mono BW.out.size)); have HRZ := Lib.hid hrZ; have RZ := Lib.hid hRZ
        have BXZ := Lib.hid (BX.out.below hbZ); have BYZ := Lib.hid (BY.out.below hbZ); have PINZ := Lib.hid (PIN.out.below HBZ.out BL.out)
        have htw := Nat.le_trans B3.out.size (Nat.le_of_eq ht8.symm)
        have HTW := Lib.hid htw
        clear hZ ht8 hbZ hrZ hRZ htw
        have z0 := (cell_of_row Z t8 0 _ _ _ HRZ.out).trans rfl
        have z1 := (cell_of_row Z t8 1 _ _ _ HRZ.out).trans rfl
        have z2 := (cell_of_row Z t8 2 _ _ _ HRZ.out).trans rfl
        have z3 := (cell_of_row Z t8 3 _ _ _ HRZ.out).trans rfl
        have z4 := (cell_of_row Z t8 4 _ _ _ HRZ.out).trans rfl
        obtain ⟨S, hS⟩ : ∃ S : World → Prop, S = fun w' => (∀ j, w'.cell? ⟨t8, j, none⟩ = Z.cell? ⟨t8, j, none⟩) ∧ ∀ j, w'.cell? ⟨b, j, none⟩ = Z.cell? ⟨b, j, none⟩ := ⟨_, rfl⟩
        have SS := Lib.hid (show ∀ w', S w' → (∀ j, w'.cell? ⟨t8, j, none⟩ = Z.cell? ⟨t8, j, none⟩) ∧ ∀ j, w'.cell? ⟨b, j, none⟩ = Z.cell? ⟨b, j, none⟩ from fun w' h => by rw [hS] at h; exact h)
        have SM := Lib.hid (show ∀ w', (∀ j, w'.cell? ⟨t8, j, none⟩ = Z.cell? ⟨t8, j, none⟩) → (∀ j, w'.cell? ⟨b, j, none⟩ = Z.cell? ⟨b, j, none⟩) → S w' from fun w' h1 h2 => by rw [hS]; exact ⟨h1, h2⟩)
        clear hS
        refine Last.region_hold S [0, 1, 3, 4, 5, 6, 7] [2, 8, 9, 10, 11] [8, 9, 10, 11] (by kernel_rfl) (by kernel_rfl) (fun d _ _ _ _ h => by cases d <;> exact h) (SM.out _ (fun _ => rfl) (fun _ => rfl)) ?_
        refine Last.hold_move _ _ rfl rfl rfl ?_
        refine Last.hold_read _ (.agg #[.string nm2, .slice A3 k2n c3, .int .i64 fl, .int .i64 li, .int .i64 re]) rfl rfl (fun W' hW => ?_) ?_
        · obtain ⟨hw2, _⟩ := SS.out W' hW
          have e0 := (hw2 0).trans z0
          have e1 := (hw2 1).trans z1
          have e2 := (hw2 2).trans z2
          have e3 := (hw2 3).trans z3
          have e4 := (hw2 4).trans z4
          clear hw2
          go_simp
        refine Last.hold_move _ _ rfl rfl rfl ?_
        refine Last.hold_move _ _ rfl rfl rfl ?_
        refine Last.hold_move _ _ rfl rfl rfl ?_
        refine Last.hold_read _ (.pointer (some ⟨b, off + k * 5, none⟩)) rfl rfl (fun W' hW => ?_) ?_
        · go_simp
        refine Last.hold_read _ (.agg #[.string nm, .slice kA kn kc, .int .i64 fl, .int .i64 li, .int .i64 re]) rfl rfl (fun W' hW => ?_) ?_
        · obtain ⟨_, hw2⟩ := SS.out W' hW
          obtain ⟨i0, i1, i2, i3, i4, _⟩ := PINZ.out
          simp only at i0 i1 i2 i3 i4
          rw [← KN.out] at i1
          have e0 := (hw2 _).trans i0
          have e1 := (hw2 _).trans i1
          have e2 := (hw2 _).trans i2
          have e3 := (hw2 _).trans i3
          have e4 := (hw2 _).trans i4
          clear hw2 i0 i1 i2 i3 i4
          go_simp
        show Last.wpMid _ _ _ _ _ _ _ _
        have hd1 : Below Z.heap.size Z (Z.drewN 1) := below_drewN (Below.refl _ _) 1
        have hxd := BXZ.out.below hd1
        have hyd := BYZ.out.below hd1
        have hbd : Below w.heap.size w (Z.drewN 1) := HBZ.out.trans (hd1.mono HBZ.out.size)
        have hac := add_c w.heap.size p mp v L nm2 A3 c3 key2 fl li re (Z.drewN 1) hxd hbd.size N2L.out K2L.out (RZ.out.drewN 1) (by have := LK.out; omega)
        rw [← K2N.out] at hac
        refine Last.mid_call _ 25 #[.pointer (some ⟨p, 0, none⟩), .agg #[.string nm2, .slice A3 k2n c3, .int .i64 fl, .int .i64 li, .int .i64 re]] rfl rfl (by kernel_rfl) ?_
        refine hac.mono ?_
        clear hac
        intro e w4 hpost
        have ho4 := hpost.2.1
        obtain ⟨cd, hcd⟩ : ∃ cd, cd = addS L nm2 key2.length fl li re := ⟨_, rfl⟩
        have he4 : e = .returned (.int .i64 cd) := by rw [hcd]; exact hpost.1
        have HXD := Lib.hid hxd; have HYD := Lib.hid hyd; have HBD := Lib.hid hbd; have HP := Lib.hid hpost; have HO4 := Lib.hid ho4
        have hb4 : Below w.heap.size w w4 := hxd.stays ho4 hbd hbd.size
        have HB4 := Lib.hid hb4
        have HS4 := Lib.hid (show S w4 from SM.out _ (fun j => World.cell?_of_block (a := ⟨t8, j, none⟩) (ho4.block t8 (Array.getElem?_eq_some_iff.1 HRZ.out).1 (BX.out.not_high t8 HTW.out))) (fun j => World.cell?_of_block (a := ⟨b, j, none⟩) (ho4.block b (Nat.lt_of_lt_of_le BL.out hbd.size) (BX.out.not_low b BL.out))))
        subst he4
        clear hd1 hxd hyd hbd hpost ho4 hcd hb4
        refine ⟨.int .i64 cd, rfl, fun _ _ => HS4.out, ?_⟩
        refine Last.mid_tail 8 (by kernel_rfl) (by decide) ?_
        simp only [List.drop_succ_cons, List.drop_zero]
        clear z0 z1 z2 z3 z4
        go_wp2_with fail
        have hsc := short_c nm kA kc key fl li re w4 INM.out IC.out (PIN.out.2.2.2.2.2.1.below HB4.out)
        rw [← KN.out] at hsc
        refine hsc.mono ?_
        clear hsc
        rintro e w5 ⟨A5, c5, rfl, hr5, hb5⟩
        rw [← KEY2.out] at hr5 ⊢
        rw [← NM2.out, ← K2N.out]
        have R5 := Lib.hid hr5; have B5 := Lib.hid hb5
        clear hr5 hb5
        unfold persV
        go_wp2_with fail
        refine (plain_c nm2 A5 k2n c5 fl li re w5).mono ?_
        rintro e w6 ⟨rfl, hb6⟩
        have B6 := Lib.hid (B5.out.trans (hb6.mono B5.out.size)); have R6 := Lib.hid (R5.out.below hb6)
        have HB6 := Lib.hid (HB4.out.trans (B6.out.mono HB4.out.size))
        have HY6 := Lib.hid ((HYD.out.beside HXD.out HO4.out).below B6.out)
        clear hb6
        unfold persV
        go_wp2_with fail
        have hrc := radd_c w.heap.size q u M nm2 A5 c5 key2 fl li re w6 HY6.out HB6.out.size N2L.out K2L.out R6.out (by have := LK.out; have := TW.out.length; omega)
        rw [← K2N.out] at hrc
        refine hrc.mono ?_
        clear hrc
        intro e w7 hrp
        obtain ⟨he, hbo7⟩ := bo_next HXD.out HYD.out TW.out FU.out LK.out HBD.out HP.out B6.out hrp
        have HBO7 := Lib.hid hbo7
        subst he
        clear hrp hbo7
        go_wp2_with fail
        go_roundw
        case rel => exact ⟨k + 1, by omega, by omega, by go_num, HBO7⟩
        case measure => simp [intOf]; omega
      · have h42 : ¬ (k : Int) < 40 := by omega
        go_wp2_with fail
        refine bodyPost_ret (v := .tuple #[.pointer (some ⟨p, 0, none⟩), .pointer (some ⟨q, 0, none⟩), .bool true]) (by simp [results, Tryd.results10, go_sem]) rfl ?_
        exact ⟨p, mp, q, rfl, hbo.out.mono hk40⟩
    · have hlt2 : ¬ (k : Int) < (n : Int) := by omega
      go_wp2_with fail
      refine bodyPost_ret (v := .tuple #[.pointer (some ⟨p, 0, none⟩), .pointer (some ⟨q, 0, none⟩), .bool true]) (by simp [results, Tryd.results10, go_sem]) rfl ?_
      exact ⟨p, mp, q, rfl, hbo.out.mono hk40⟩
end Go.Proofs.YteplaginenhfkaaDoor
