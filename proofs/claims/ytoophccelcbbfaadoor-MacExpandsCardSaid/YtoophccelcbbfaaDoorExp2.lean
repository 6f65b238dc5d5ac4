/-
  The reference of layer 5: Expand.
-/
import Derived.Test.YtoophccelcbbfaaDoorRefM2
import Derived.Test.YtoophccelcbbfaaDoorExp1
import Derived.Lib.ConvBytes
set_option linter.unusedVariables false
set_option linter.unusedSimpArgs false
namespace Go.Proofs.YtoophccelcbbfaaDoor
open Go.RowKit

theorem bytesWorld_kept (w : World) (e : TypeId) (s : ByteArray) : Below w.heap.size w (Lib.bytesWorld w e s) := by
  refine ⟨?_, ?_, ?_, by rw [Lib.bytesWorld_size]; omega, fun k hk => Lib.bytesWorld_at_old w e s k hk⟩
  all_goals
    unfold Lib.bytesWorld World.freeze
    split <;> rfl
/-- []byte(s): the bytes, in memory of one's own. -/
theorem conv_string {ops : Array Oper} {rest : List Oper} {o : Oper} {a : Act} {w : World} {Q : Exit → Act → World → Prop} (x : Operand) (s : ByteArray) (hgd : o.guard = none) (ho : o.op = .convert 9 22 x) (hx : a.eval x = .string s) (hs : s.size ≤ 140737488351232)
    (h : ∀ A c w1, RB w1 A s.data.toList → s.size ≤ c → Below w.heap.size w w1 → wpList Tryd.prog ops Q rest (a.put o.dst (.slice A s.size c)) w1) : wpList Tryd.prog ops Q (o :: rest) a w := by
  refine wpList_plain hgd fun K hK => ?_
  have hr := Lib.run_convert_string_bytes (P := Tryd.prog) w 9 22 5 s Tryd.underlying9 Tryd.underlying22 Tryd.underlying5
  unfold Oper.wp
  simp only [execOp, ho, hx, Sem.run_bind, Sem.run_pure, hr, Result.andThen_ok]
  refine hK _ _ (h _ _ _ ?_ ?_ (bytesWorld_kept w _ s))
  · refine ⟨by rw [← Lib.size_eq]; exact hs, fun i hi => ⟨w.heap.size, 0, rfl, ?_⟩⟩
    rw [Nat.zero_add, Lib.bytesWorld_cell w _ s i (by rw [Lib.size_eq]; exact hi)]
  · exact grownCap_ge _ _ _ _
theorem RB.grown {w w1 : World} {A : Option Addr} {l : List UInt8} {r : Option Nat} (h : RB w A l) (hg : w.grownBy w1 r) (hne : ∀ ad k, A = some ad → r = some k → ad.block ≠ k) : RB w1 A l :=
  ⟨h.1, fun i hi => by
    obtain ⟨b, off, e, hc⟩ := h.2 i hi
    refine ⟨b, off, e, ?_⟩
    rw [← hc]
    exact World.cell?_of_block (a := ⟨b, off + i, none⟩) (hg.block b (World.block_lt_of_cell? w _ hc) (fun hk => hne _ b e hk.symm rfl))⟩
theorem ref_expand_low (A : Option Addr) (N c : Nat) (s : ByteArray) (n : Int) (h : n < 0) (w : World) :
    Calls Tryd.prog 40 #[.slice A N c, .string s, .int .i64 n] w fun e w' => e = .returned (.tuple #[.slice none 0 0, .int .i64 2]) ∧ w = w' := by
  go_enter Tryd.func40, Tryd.ntmps40
  go_wp2
  go_ret2
  exact ⟨rfl, rfl⟩
theorem ref_expand_high (A : Option Addr) (N c : Nat) (s : ByteArray) (n : Int) (h : 8160 < n) (w : World) :
    Calls Tryd.prog 40 #[.slice A N c, .string s, .int .i64 n] w fun e w' => e = .returned (.tuple #[.slice none 0 0, .int .i64 3]) ∧ w = w' := by
  have h0 : ¬ n < 0 := by omega
  go_enter Tryd.func40, Tryd.ntmps40
  go_wp2
  go_ret2
  exact ⟨rfl, rfl⟩
set_option maxRecDepth 100000 in
set_option maxHeartbeats 2000000 in
theorem ref_expand_c (A : Option Addr) (c : Nat) (key : List UInt8) (s : ByteArray) (n : Nat) (w : World) (hk : key.length ≤ 1048000) (hs : s.size ≤ 1000000) (hn : n ≤ 8160) (hA : RB w A key) :
    Calls Tryd.prog 40 #[.slice A key.length c, .string s, .int .i64 (n : Int)] w (ExpPost w n (Sen.expand key s.data.toList n)) := by
  have hz := zero24
  obtain ⟨K, hK⟩ : ∃ K, K = key.length := ⟨_, rfl⟩
  have HK := Lib.hid hk; have HA := Lib.hid hA; have HKE := Lib.hid hK; have HS := Lib.hid hs
  rw [← hK]
  clear hk hA hK hs
  obtain ⟨R, hR⟩ : ∃ R, R = Sen.roundsFor n := ⟨_, rfl⟩
  have hR1 : R ≤ 255 := by rw [hR]; unfold Sen.roundsFor; omega
  have hR2 : n ≤ 32 * R := by rw [hR]; unfold Sen.roundsFor; omega
  have hR3 : 32 * R < n + 32 := by rw [hR]; unfold Sen.roundsFor; omega
  have HR := Lib.hid hR
  clear hR
  have n0 : ¬ (n : Int) < 0 := by omega
  have n1 : ¬ (n : Int) > 8160 := by omega
  go_enter Tryd.func40, Tryd.ntmps40
  go_wp2
  have ho0 : Own ((w.alloc (.cells #[] 5)).alloc (.cells #[] 5)) w.heap.size (.slice (some ⟨w.heap.size, 0, none⟩) 0 0) (Sen.okm key s.data.toList 0) := (Own.new w _ (Nat.le_refl _)).alloc _
  go_loopw [8, 9, 10] (fun vo vl vi wr => ∃ (j : Nat) (A2 : Option Addr) (L c2 : Nat), j ≤ R ∧ vi = .int .i64 ((j + 1 : Nat) : Int) ∧ Own wr w.heap.size vo (Sen.okm key s.data.toList j) ∧ vl = .slice A2 L c2 ∧ L = (Sen.last key s.data.toList j).length ∧ RB wr A2 (Sen.last key s.data.toList j) ∧ Below w.heap.size w wr) (fun vo _ _ _ => match vo with | .slice _ L _ => n + 32 - L | _ => 0)
  case atStart => exact ⟨0, some ⟨w.heap.size + 1, 0, none⟩, 0, 0, by omega, rfl, ho0, rfl, rfl, RB.nil _ _, below_alloc (below_alloc (Below.refl _ _) _) _⟩
  case round =>
    clear ho0
    obtain ⟨j, A2, L, c2, hj, rfl, hown, rfl, hLL, hrl, hB⟩ := hrel
    have hol := Sen.okm_length key s.data.toList j
    obtain ⟨A1, c1, hv, hc1, hr1⟩ := hown.reads (by omega)
    obtain ⟨N, hN⟩ : ∃ N, N = 32 * j := ⟨_, rfl⟩
    rw [hol, ← hN] at hv hc1
    subst hv
    by_cases hlt : N < n
    · have t0 : decide ((N : Int) < (n : Int)) = true := by simp; omega
      have hjR : j < R := by omega
      have hll := Sen.last_le key s.data.toList j
      obtain ⟨lst, hlst⟩ : ∃ lst, lst = Sen.last key s.data.toList j := ⟨_, rfl⟩
      rw [← hlst] at hLL hrl hll
      have hlx : Sen.last key s.data.toList (j + 1) = Sen.hmac key (lst ++ s.data.toList ++ [UInt8.ofNat (j + 1)]) := by rw [hlst]; rfl
      have hnx : Sen.okm key s.data.toList (j + 1) = Sen.okm key s.data.toList j ++ Sen.last key s.data.toList (j + 1) := rfl
      rw [hlx] at hnx
      obtain ⟨ub, hub⟩ : ∃ ub, ub = UInt8.ofNat (j + 1) := ⟨_, rfl⟩
      have hubv : (j : Int) + 1 = ((ub.toNat : Nat) : Int) := by rw [hub, UInt8.toNat_ofNat']; omega
      rw [← hub] at hnx hlx
      have HUB := Lib.hid hubv
      clear hub hubv
      obtain ⟨msg, hmsg⟩ : ∃ msg, msg = lst ++ s.data.toList ++ [ub] := ⟨_, rfl⟩
      have hml : msg.length ≤ 1000100 := by
        rw [hmsg, List.length_append, List.length_append]
        have : s.data.toList.length = s.size := (Lib.size_eq s).symm
        have := HS.out
        simp only [List.length_cons, List.length_nil]
        omega
      rw [← hmsg] at hnx hlx
      have HMSG := Lib.hid hmsg; have HML := Lib.hid hml
      have HSD := Lib.hid (show (bvs (Sen.hmac key msg)).length = 32 by rw [bvs_length, Sen.hmac_length])
      have HOWN := Lib.hid hown; have HB := Lib.hid hB; have HL := Lib.hid hLL; have HRL := Lib.hid hrl; have HNX := Lib.hid hnx; have HLX := Lib.hid hlx; have HN := Lib.hid hN; have HOL := Lib.hid hol; have HLL := Lib.hid hll
      clear hown hB hr1 hLL hrl hnx hlx hlst hol hN hll hmsg hml
      go_wp2_with (first | (at_builtin; refine app_bytes (.tmp 25) (.tmp 26) wr.heap.size [] lst rfl rfl _ _ _ _ rfl rfl HL.out (Own.new _ _ (Nat.le_refl _)) (HRL.out.below (below_alloc (Below.refl _ _) _)) (by simp) (by have := HLL.out; simp; omega) ?_; intro v2 w2 ho2 hb2; have HO2 := Lib.hid ho2; have HB2 := Lib.hid ((below_alloc (Below.refl _ _) _).trans hb2); clear ho2 hb2) |
        (refine conv_string (.tmp 28) s rfl rfl rfl (by have := HS.out; omega) ?_; intro A3 c3 w3 hr3 hc3 hb3; have HO3 := Lib.hid (HO2.out.below hb3); have HR3 := Lib.hid hr3; have HB3 := Lib.hid (HB2.out.trans (hb3.mono HB2.out.size)); clear hr3 hb3 hc3) |
        (at_builtin; refine app_bytes (.tmp 27) (.tmp 29) wr.heap.size lst s.data.toList rfl rfl v2 _ _ _ rfl rfl (Lib.size_eq s) HO3.out HR3.out HB3.out.size (by have := HLL.out; have := HS.out; rw [← Lib.size_eq]; omega) ?_; intro v4 w4 ho4 hb4; have HO4 := Lib.hid ho4; have HB4 := Lib.hid (HB3.out.trans hb4); clear ho4 hb4) |
        (at_builtin; refine app_byte (.tmp 30) (.tmp 33) wr.heap.size (lst ++ s.data.toList) ub rfl rfl v4 _ HUB.out rfl rfl HO4.out HB4.out.size (by rw [List.length_append]; have := HLL.out; have := HS.out; have : s.data.toList.length = s.size := (Lib.size_eq s).symm; omega) ?_; intro v5 w5 ho5 hb5; rw [← HMSG.out] at ho5; have HO5 := Lib.hid ho5; have HB5 := Lib.hid (HB4.out.trans hb5); clear ho5 hb5))
      obtain ⟨A5, c5, rfl, hc5, hr5⟩ := HO5.out.reads (by have := HML.out; omega)
      have hbw := HB.out.trans (HB5.out.mono HB.out.size)
      have hcs := ref_mac_sum_c A A5 c c5 key msg w5 HK.out (by have := HML.out; omega) (HA.out.below hbw) hr5
      rw [← HKE.out] at hcs
      refine hcs.mono ?_
      clear hcs hr5 hc5 hbw
      rintro e w6 ⟨rfl, hb6⟩
      have HB6 := Lib.hid (HB5.out.trans (hb6.mono HB5.out.size))
      clear hb6
      go_wp2_with (first | (with_reducible refine wpList_store_any rfl 24 _ _ rfl _ (bvs (Sen.hmac key msg)) rfl rfl 24 _ (blk_new _ rfl) 32 (by kernel_rfl) HSD.out (by kernel_rfl) (bvs_one _) ?_ rfl; rw [setRow_alloc]) |
        (at_builtin; refine app_bytes (.tmp 36) (.tmp 37) (w6.heap.size + 1) [] (Sen.hmac key msg) rfl rfl (.slice (some ⟨w6.heap.size + 1, 0, none⟩) 0 0) _ _ _ rfl rfl (Sen.hmac_length _ _).symm (by have := Own.new (w6.alloc (.cells (bvs (Sen.hmac key msg)).toArray 24)) (w6.heap.size + 1) (by simp); simpa using this) (rb_of_row (blk_old _ (blk_new _ rfl)) (by rw [Sen.hmac_length]; decide)) (by simp) (by rw [Sen.hmac_length]; decide) ?_; intro v7 w7 ho7 hb7; obtain ⟨A7, c7, rfl, hc7, hr7, hge7⟩ := ho7.reads2 (by simp only [List.nil_append]; rw [Sen.hmac_length]; decide); have HR7 := Lib.hid hr7; have HGE7 := Lib.hid hge7; have HB7 := Lib.hid ((below_alloc (below_alloc HB6.out _) _).trans (hb7.mono (Nat.le_succ_of_le HB6.out.size))); clear ho7 hb7 hc7 hr7 hge7) |
        (at_builtin; refine wpList_append_bytes rfl (.tmp 39) (.tmp 40) rfl w.heap.size _ (Sen.okm key s.data.toList j) (Sen.hmac key msg) _ _ _ rfl rfl (by simp) (HOWN.out.below HB7.out) HR7.out (Nat.le_trans HB.out.size HB7.out.size) (by rw [HOL.out, Sen.hmac_length]; omega) ?_; intro v8 w8 ho8 hg8; have HO8 := Lib.hid ho8; have HG8 := Lib.hid hg8; clear ho8 hg8))
      have ho8 := HO8.out
      rw [← HNX.out] at ho8
      have hB7 := HB.out.trans (HB7.out.mono HB.out.size)
      have hB8 : Below w.heap.size w w8 := own_below hB7 (HOWN.out.below HB7.out) HG8.out (Nat.le_refl _) (Nat.le_trans HB.out.size HB7.out.size)
      have hr8 : RB w8 A7 (Sen.hmac key msg) := by
        have := HR7.out.grown HG8.out (fun ad k had hk => by
          have h1 := HGE7.out ad had
          have h2 := (World.ownsRow.lt HOWN.out k hk).2
          have := HB6.out.size
          omega)
        exact this
      rw [← HLX.out] at hr8
      obtain ⟨A8, c8, rfl, _, _⟩ := ho8.reads (by rw [Sen.okm_length]; omega)
      refine ⟨⟨j + 1, A7, _, c7, hjR, by go_num, ho8, rfl, ?_, hr8, hB8⟩, ?_⟩
      · rw [HLX.out]
      · show n + 32 - (Sen.okm key s.data.toList (j + 1)).length < n + 32 - _
        rw [Sen.okm_length]
        have := HN.out
        omega
    · have t0 : decide ((N : Int) < (n : Int)) = false := by simp; omega
      obtain rfl : j = R := by omega
      have hsl := fun W => run_slice_to A1 N c1 n (by omega) W
      have hfin : RB wr A1 (Sen.expand key s.data.toList n) := by unfold Sen.expand; rw [← HR.out]; exact hr1.take n
      have HF := Lib.hid hfin; have HB := Lib.hid hB
      have hcn : n ≤ c1 := by omega
      clear hr1 hown hB hfin hol hN hLL hrl
      go_wp2
      go_ret2
      exact ⟨_, _, rfl, hcn, HF.out, HB.out⟩
end Go.Proofs.YtoophccelcbbfaaDoor
