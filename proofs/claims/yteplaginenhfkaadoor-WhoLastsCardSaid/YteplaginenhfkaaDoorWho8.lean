/-
  who: the walk of Proof.
-/
import Derived.Test.YteplaginenhfkaaDoorWho7
import Derived.Lib.ConvBytes
set_option linter.unusedVariables false
set_option linter.unusedSimpArgs false
namespace Go.Proofs.YteplaginenhfkaaDoor
open Go.RowKit

theorem bytesWorld_kept (w : World) (e : TypeId) (s : ByteArray) : Below w.heap.size w (Lib.bytesWorld w e s) := by
  refine ⟨?_, ?_, ?_, by rw [Lib.bytesWorld_size]; omega, fun k hk => Lib.bytesWorld_at_old w e s k hk⟩
  all_goals
    unfold Lib.bytesWorld World.freeze
    split <;> rfl
/-- []byte(s): the bytes, in memory of one's own. -/
theorem conv_string {ops : Array Oper} {rest : List Oper} {o : Oper} {a : Act} {w : World} {Q : Exit → Act → World → Prop} (x : Operand) (s : ByteArray) (hgd : o.guard = none) (ho : o.op = .convert 9 24 x) (hx : a.eval x = .string s) (hs : s.size ≤ 140737488351232)
    (h : ∀ A c w1, RB w1 A s.data.toList → s.size ≤ c → Below w.heap.size w w1 → wpList Tryd.prog ops Q rest (a.put o.dst (.slice A s.size c)) w1) : wpList Tryd.prog ops Q (o :: rest) a w := by
  refine wpList_plain hgd fun K hK => ?_
  have hr := Lib.run_convert_string_bytes (P := Tryd.prog) w 9 24 5 s Tryd.underlying9 Tryd.underlying24 Tryd.underlying5
  unfold Oper.wp
  simp only [execOp, ho, hx, Sem.run_bind, Sem.run_pure, hr, Result.andThen_ok]
  refine hK _ _ (h _ _ _ ?_ ?_ (bytesWorld_kept w _ s))
  · refine ⟨by rw [← Lib.size_eq]; exact hs, fun i hi => ⟨w.heap.size, 0, rfl, ?_⟩⟩
    rw [Nat.zero_add, Lib.bytesWorld_cell w _ s i (by rw [Lib.size_eq]; exact hi)]
  · exact grownCap_ge _ _ _ _
def preB : List UInt8 := [112, 114, 101]
def proofS (key : List UInt8) (nm : ByteArray) (t : Int) : List UInt8 × Int :=
  if key.length ≠ 16 ∨ okName nm = false ∨ okTime t = false then ([], 2) else ((Sen.hmac key (Sen.partsOf [preB, nm.data.toList, Sen.be64 t.toNat])).take 16, 0)
def ProofPost (w : World) (o : List UInt8 × Int) (e : Ending) (w' : World) : Prop :=
  Below w.heap.size w w' ∧ ∃ A c, e = .returned (.tuple #[.slice A o.1.length c, .int .i64 o.2]) ∧ o.1.length ≤ c ∧ RB w' A o.1 ∧ ∀ ad, A = some ad → w.heap.size ≤ ad.block
theorem ri_one {w : World} {g : Nat} {x : Int} (h : w.heap[g]? = some (.cells #[.int .i64 x] 3 (0, 0))) : RI w (some ⟨g, 0, none⟩) [x] := fun i hi => by
  refine ⟨g, 0, rfl, ?_⟩
  rw [Nat.zero_add, cell_of_row w g _ _ _ _ h]
  obtain rfl : i = 0 := by simp at hi; omega
  rfl
theorem ProofPost.bad {w w' : World} {e : Ending} (he : e = .returned (.tuple #[.slice none 0 0, .int .i64 2])) (hb : Below w.heap.size w w') : ProofPost w ([], 2) e w' := ⟨hb, none, 0, he, Nat.le_refl _, RB.nil _ _, fun ad h => by cases h⟩
theorem rbs3 {w : World} {g : Nat} {A B C : Option Addr} {c d f : Nat} {x y z : List UInt8} {t : TypeId} (h : w.heap[g]? = some (.cells #[.slice A x.length c, .slice B y.length d, .slice C z.length f] t (0, 0))) (hx : RB w A x) (hy : RB w B y) (hz : RB w C z) : RBs w (some ⟨g, 0, none⟩) [x, y, z] := by
  intro i hi
  have hc := cell_of_row w g i _ _ _ h
  have : i = 0 ∨ i = 1 ∨ i = 2 := by simp at hi; omega
  rcases this with rfl | rfl | rfl
  · exact ⟨g, 0, A, c, rfl, hc, hx⟩
  · exact ⟨g, 0, B, d, rfl, hc, hy⟩
  · exact ⟨g, 0, C, f, rfl, hc, hz⟩
theorem zero8b (w : World) : (zeroValue 74).run Tryd.prog w = .ok (.agg (bvs (List.replicate 8 0)).toArray) w := by kernel_rfl
set_option maxRecDepth 100000 in
set_option maxHeartbeats 4000000 in
theorem proof_c (A : Option Addr) (c : Nat) (key : List UInt8) (nm : ByteArray) (t : Int) (w : World) (hn : nm.size ≤ 1000000) (hA : RB w A key) (hT : Tab w) :
    Calls Tryd.prog 11 #[.slice A key.length c, .string nm, .int .i64 t] w (ProofPost w (proofS key nm t)) := by
  have HA := Lib.hid hA; have HT := Lib.hid hT; have HNM := Lib.hid hn
  have hps : proofS key nm t = if key.length ≠ 16 ∨ okName nm = false ∨ okTime t = false then ([], 2) else ((Sen.hmac key (Sen.partsOf [preB, nm.data.toList, Sen.be64 t.toNat])).take 16, 0) := rfl
  rw [hps]
  obtain ⟨n, hn'⟩ : ∃ n, n = key.length := ⟨_, rfl⟩
  rw [← hn']
  have HN := Lib.hid hn'
  clear hA hT hn hps hn'
  by_cases c1 : n = 16
  · cases c2 : okName nm with
    | false =>
      rw [if_pos (Or.inr (Or.inl rfl))]
      subst c1
      go_enter Tryd.func11, Tryd.ntmps11
      go_wp2_with fail
      refine (named_c nm (by have := HNM.out; omega) w).mono ?_
      rw [c2]
      rintro e w1 ⟨rfl, rfl⟩
      go_wp2
      go_ret2
      exact ProofPost.bad rfl (Below.refl _ _)
    | true =>
      have HRI := Lib.hid (show RI (w.alloc (.cells #[.int .i64 t] 3)) (some ⟨w.heap.size, 0, none⟩) [t] from ri_one (blk_new _ rfl))
      have hall : [t].all okTime = okTime t := by simp
      cases c3 : okTime t with
      | false =>
        rw [if_pos (Or.inr (Or.inr rfl))]
        subst c1
        go_enter Tryd.func11, Tryd.ntmps11
        go_wp2_with fail
        refine (named_c nm (by have := HNM.out; omega) w).mono ?_
        rw [c2]
        rintro e w1 ⟨rfl, rfl⟩
        go_wp2_with fail
        refine (times_c (some ⟨w.heap.size, 0, none⟩) 1 1 [t] rfl (by decide) _ HRI.out).mono ?_
        rw [hall, c3]
        rintro e w1 ⟨rfl, rfl⟩
        go_wp2
        go_ret2
        exact ProofPost.bad rfl (below_alloc (Below.refl _ _) _)
      | true =>
        rw [if_neg (by simp [c1])]
        obtain ⟨tn, rfl⟩ : ∃ tn : Nat, t = tn := ⟨t.toNat, by have := of_decide_eq_true c3; omega⟩
        have htn : tn ≤ 1099511627776 := by have := of_decide_eq_true c3; omega
        rw [Int.toNat_natCast]
        obtain ⟨D, hD⟩ : ∃ D, D = Sen.hmac key (Sen.partsOf [preB, nm.data.toList, Sen.be64 tn]) := ⟨_, rfl⟩
        have hDl : D.length = 32 := by rw [hD]; exact Sen.hmac_length _ _
        rw [← hD]
        have HD := Lib.hid hD; have DL := Lib.hid hDl; have HSD := Lib.hid (show (bvs D).length = 32 by rw [bvs_length, hDl])
        clear hD hDl
        have hz := zero8b
        rw [show (bvs (List.replicate 8 0)).toArray = #[.int .u8 0, .int .u8 0, .int .u8 0, .int .u8 0, .int .u8 0, .int .u8 0, .int .u8 0, .int .u8 0] from rfl] at hz
        subst c1
        go_enter Tryd.func11, Tryd.ntmps11
        go_wp2_with fail
        refine (named_c nm (by have := HNM.out; omega) w).mono ?_
        rw [c2]
        rintro e w1 ⟨rfl, rfl⟩
        go_wp2_with fail
        refine (times_c (some ⟨w.heap.size, 0, none⟩) 1 1 [(tn : Int)] rfl (by decide) _ HRI.out).mono ?_
        rw [hall, c3]
        rintro e w1 ⟨rfl, rfl⟩
        clear hall
        go_wp2
        clear hz
        obtain ⟨X, hX⟩ : ∃ X, X = (w.alloc (.cells #[.int .i64 (tn : Int)] 3)).alloc (.cells #[.int .u8 0, .int .u8 0, .int .u8 0, .int .u8 0, .int .u8 0, .int .u8 0, .int .u8 0, .int .u8 0] 74) := ⟨_, rfl⟩
        obtain ⟨g, hg⟩ : ∃ g, g = w.heap.size + 1 := ⟨_, rfl⟩
        have hG : X.heap[g]? = some (.cells #[.int .u8 0, .int .u8 0, .int .u8 0, .int .u8 0, .int .u8 0, .int .u8 0, .int .u8 0, .int .u8 0] 74 (0, 0)) := by rw [hX, hg]; exact blk_new _ (by simp)
        have hB : Below w.heap.size w X := by rw [hX]; exact below_alloc (below_alloc (Below.refl _ _) _) _
        rw [← hX, ← hg]
        have G := Lib.hid hG; have HB := Lib.hid hB; have HGW := Lib.hid (show w.heap.size ≤ g by omega)
        rw [← row_same hG]
        clear hX hg hG hB
        have hset := fun cs i v => row_set G.out cs i v
        have hcell := fun cs j => row_cell G.out cs j
        have hfro := fun cs j => row_frozen G.out cs j
        refine wp_loop_rounds 9 ?_
        iterate 8 (rw [rounds_succ]; go_wp2)
        clear hset hcell hfro
        rw [rounds_succ]
        obtain ⟨Y, hY⟩ : ∃ Y, Y = X.setRow g #[.int .u8 ((tn : Int) / 72057594037927936), .int .u8 ((tn : Int) / 281474976710656), .int .u8 ((tn : Int) / 1099511627776), .int .u8 ((tn : Int) / 4294967296 % 256), .int .u8 ((tn : Int) / 16777216 % 256), .int .u8 ((tn : Int) / 65536 % 256), .int .u8 ((tn : Int) / 256 % 256), .int .u8 ((tn : Int) % 256)] := ⟨_, rfl⟩
        rw [← hY]
        have hYg : Y.heap[g]? = some (.cells (bvs (Sen.be64 tn)).toArray 74 (0, 0)) := by
          rw [hY]
          refine (setRow_heap X _ _ _ _ _ G.out).trans ?_
          congr 2
          simp [bvs, bv, Sen.be64, UInt8.toNat_ofNat']
          omega
        have BY := Lib.hid (show Below w.heap.size w Y by rw [hY]; exact below_setRow HB.out HGW.out _)
        have RY := Lib.hid (rb_of_row hYg (by simp [Sen.be64]))
        clear hY hYg G HB HGW
        have hs8 := fun W => run_sliceAt_all 74 5 8 Tryd.underlying74 rfl g 0 W
        have kc := fun (w : World) (C : Array Value) (n c : Nat) => Lib.run_convert_bytes_const (P := Tryd.prog) w 24 5 C n c Tryd.underlying24 Tryd.underlying5
        go_wp2_with (with_reducible refine conv_string (.tmp 40) nm rfl rfl rfl (by have := HNM.out; omega) ?_; intro A2 c2' w2 hr2 hc2 hb2)
        clear kc
        have hbY : Below Y.heap.size Y (Y.alloc (.cells #[.int .u8 112, .int .u8 114, .int .u8 101] 5 (3, 4))) := below_alloc (Below.refl _ _) _
        have hbY2 : Below Y.heap.size Y w2 := hbY.trans (hb2.mono hbY.size)
        have hpre : RB (Y.alloc (.cells #[.int .u8 112, .int .u8 114, .int .u8 101] 5 (3, 4))) (some ⟨Y.heap.size, 0, none⟩) preB := rb_of_row (l := preB) (blk_new _ rfl) (by decide)
        obtain ⟨V, hV⟩ : ∃ V, V = w2.alloc (.cells #[.slice (some ⟨Y.heap.size, 0, none⟩) 3 3, .slice A2 nm.size c2', .slice (some ⟨g, 0, none⟩) 8 8] 24) := ⟨_, rfl⟩
        have hbV : Below w2.heap.size w2 V := by rw [hV]; exact below_alloc (Below.refl _ _) _
        have hrow : V.heap[w2.heap.size]? = some (.cells #[.slice (some ⟨Y.heap.size, 0, none⟩) 3 3, .slice A2 nm.size c2', .slice (some ⟨g, 0, none⟩) 8 8] 24 (0, 0)) := by rw [hV]; exact blk_new _ rfl
        rw [← hV]
        have hBV : Below w.heap.size w V := BY.out.trans ((hbY2.trans (hbV.mono hbY2.size)).mono BY.out.size)
        have hRBs : RBs V (some ⟨w2.heap.size, 0, none⟩) [preB, nm.data.toList, Sen.be64 tn] := rbs3 (x := preB) (y := nm.data.toList) (z := Sen.be64 tn) (by rw [← Lib.size_eq]; exact hrow) ((hpre.below hb2).below hbV) (hr2.below hbV) ((RY.out.below hbY2).below hbV)
        have hmp := mac_parts_c A (some ⟨w2.heap.size, 0, none⟩) c 3 key [preB, nm.data.toList, Sen.be64 tn] V (by rw [← HN.out]; decide) (by have := HNM.out; simp [preB, Sen.be64, ← Lib.size_eq]; omega) (HA.out.below hBV) hRBs (HT.out.below hBV)
        rw [← HN.out, ← HD.out] at hmp
        refine hmp.mono ?_
        clear hmp
        rintro e w4 ⟨rfl, hb4⟩
        have B4 := Lib.hid (hBV.trans (hb4.mono hBV.size))
        clear hbY hbY2 hpre hV hbV hrow hBV hRBs hb4 hr2 hb2 hc2 hs8
        have hz := zero24
        have hs16 := fun W => run_sliceAt_to 75 5 32 Tryd.underlying75 rfl w4.heap.size 0 16 (by decide) W
        rw [show ((16 : Nat) : Int) = 16 from rfl] at hs16
        go_wp2_with (with_reducible refine wpList_store_any rfl 75 _ _ rfl _ (bvs D) rfl rfl 75 _ (blk_new _ rfl) 32 (by kernel_rfl) HSD.out (by kernel_rfl) (bvs_one _) ?_ rfl; rw [setRow_alloc])
        go_ret2
        have hrd : RB (w4.alloc (.cells (bvs D).toArray 75)) (some ⟨w4.heap.size, 0, none⟩) D := rb_of_row (blk_new _ rfl) (by rw [DL.out]; decide)
        have hl16 : (D.take 16).length = 16 := by rw [List.length_take, DL.out]; rfl
        refine ⟨below_alloc B4.out _, some ⟨w4.heap.size, 0, none⟩, 32, by rw [show ((D.take 16, (0 : Int)) : List UInt8 × Int).1.length = 16 from hl16]; rfl, by rw [show ((D.take 16, (0 : Int)) : List UInt8 × Int).1.length = 16 from hl16]; decide, hrd.take 16, fun ad had => ?_⟩
        injection had with had
        subst had
        exact B4.out.size
  · rw [if_pos (Or.inl c1)]
    have c1' : ((n : Int) != 16) = true := by simp; omega
    go_enter Tryd.func11, Tryd.ntmps11
    go_wp2
    go_ret2
    exact ProofPost.bad rfl (Below.refl _ _)
end Go.Proofs.YteplaginenhfkaaDoor
