/-
  mac: the walk of Expand.
-/
import Derived.Test.YtoophccelcbbfaaDoorMac3
import Derived.Test.YtoophccelcbbfaaDoorCut
import Derived.Test.YtoophccelcbbfaaDoorOwn
import Derived.OwnWalk
set_option linter.unusedVariables false
set_option linter.unusedSimpArgs false
namespace Go.Proofs.YtoophccelcbbfaaDoor
open Go.RowKit

theorem make_own {ops : Array Oper} {rest : List Oper} {o : Oper} {a : Act} {w : World} {Q : Exit → Act → World → Prop} (l c : Operand) (hg : o.guard = none) (hop : o.op = Op.makeSlice 22 l c) (C : Int) (n : Nat)
    (hl : a.eval l = .int .i64 0) (hc : a.eval c = .int .i64 C) (hC : C = (n : Int)) (hn : n ≤ 1048576)
    (hK : ∀ w', Own w' w.heap.size (.slice (some ⟨w.heap.size, 0, none⟩) 0 n) [] → Below w.heap.size w w' → wpList Tryd.prog ops Q rest (a.put o.dst (.slice (some ⟨w.heap.size, 0, none⟩) 0 n)) w') : wpList Tryd.prog ops Q (o :: rest) a w := by
  obtain ⟨i, hi, hz0, hz1, hz2⟩ := info_parts info_byte
  refine wpList_make_own w hg l c 22 hop w.heap.size 5 i (.int .u8 0) 1 Tryd.underlying22 hi hz0 hz1 .i64 .i64 C n hl hc hC (by rw [hz2]; omega) (by unfold maxLen; omega) (Nat.le_refl _) ?_
  intro w' h1 h2
  refine hK w' (show w'.ownsRow _ _ _ _ _ (bvs []) from h1) ((Below.refl _ _).grown h2 (Nat.le_refl _) (fun k hk => by cases hk))
def ExpPost (w : World) (n : Nat) (l : List UInt8) (e : Ending) (w' : World) : Prop := ∃ A c, e = .returned (.tuple #[.slice A n c, .int .i64 0]) ∧ n ≤ c ∧ RB w' A l ∧ Below w.heap.size w w'
theorem expand_low (A : Option Addr) (N c : Nat) (s : ByteArray) (n : Int) (h : n < 0) (w : World) :
    Calls Tryd.prog 38 #[.slice A N c, .string s, .int .i64 n] w fun e w' => e = .returned (.tuple #[.slice none 0 0, .int .i64 2]) ∧ w = w' := by
  go_enter Tryd.func38, Tryd.ntmps38
  go_wp2
  go_ret2
  exact ⟨rfl, rfl⟩
theorem expand_high (A : Option Addr) (N c : Nat) (s : ByteArray) (n : Int) (h : 8160 < n) (w : World) :
    Calls Tryd.prog 38 #[.slice A N c, .string s, .int .i64 n] w fun e w' => e = .returned (.tuple #[.slice none 0 0, .int .i64 3]) ∧ w = w' := by
  have h0 : ¬ n < 0 := by omega
  go_enter Tryd.func38, Tryd.ntmps38
  go_wp2
  go_ret2
  exact ⟨rfl, rfl⟩
set_option maxRecDepth 100000 in
set_option maxHeartbeats 2000000 in
theorem expand_c (A : Option Addr) (c : Nat) (key : List UInt8) (s : ByteArray) (n : Nat) (w : World) (hk : key.length ≤ 1048000) (hs : s.size ≤ 1000000) (hn : n ≤ 8160) (hA : RB w A key) (hT : Tab w) :
    Calls Tryd.prog 38 #[.slice A key.length c, .string s, .int .i64 (n : Int)] w (ExpPost w n (Sen.expand key s.data.toList n)) := by
  have hz := zero24
  obtain ⟨K, hK⟩ : ∃ K, K = key.length := ⟨_, rfl⟩
  have HK := Lib.hid hk; have HA := Lib.hid hA; have HT := Lib.hid hT; have HKE := Lib.hid hK; have HS := Lib.hid hs
  rw [← hK]
  clear hk hA hT hK hs
  obtain ⟨R, hR⟩ : ∃ R, R = Sen.roundsFor n := ⟨_, rfl⟩
  have hR1 : R ≤ 255 := by rw [hR]; unfold Sen.roundsFor; omega
  have hR2 : n ≤ 32 * R := by rw [hR]; unfold Sen.roundsFor; omega
  have hR3 : 32 * R < n + 32 := by rw [hR]; unfold Sen.roundsFor; omega
  have HR := Lib.hid hR
  clear hR
  have n0 : ¬ (n : Int) < 0 := by omega
  have n1 : ¬ (n : Int) > 8160 := by omega
  go_enter Tryd.func38, Tryd.ntmps38
  go_wp2_with (refine make_own _ _ rfl rfl ((n : Int) + 32) (n + 32) rfl rfl (by omega) (by omega) ?_; intro w0 ho0 hb0)
  go_loopw [8, 9] (fun vo vi wr => ∃ j : Nat, j ≤ R ∧ vi = .int .u8 (((j + 1) % 256 : Nat) : Int) ∧ Own wr w.heap.size vo (Sen.okm key s.data.toList j) ∧ Below w.heap.size w wr) (fun vo _ _ => match vo with | .slice _ L _ => n + 32 - L | _ => 0)
  case atStart => exact ⟨0, by omega, rfl, ho0, hb0⟩
  case round =>
    clear ho0 hb0
    obtain ⟨j, hj, rfl, hown, hB⟩ := hrel
    have hol := Sen.okm_length key s.data.toList j
    obtain ⟨A1, c1, hv, hc1, hr1⟩ := hown.reads (by omega)
    obtain ⟨N, hN⟩ : ∃ N, N = 32 * j := ⟨_, rfl⟩
    rw [hol, ← hN] at hv hc1
    subst hv
    by_cases hlt : N < n
    · have t0 : decide ((N : Int) < (n : Int)) = true := by simp; omega
      have hjR : j < R := by omega
      have hjb : (j + 1) % 256 = j + 1 := by omega
      have hll := Sen.last_le key s.data.toList j
      have hcut : ∃ AA LL CC, (LL = (Sen.last key s.data.toList j).length ∧ RB wr AA (Sen.last key s.data.toList j)) ∧
          ((N = 0 ∧ ∀ W, (Instr.slice 22 (.slice A1 0 c1) (some (.int .i64 0)) none none).run Tryd.prog W = .ok (.slice AA LL CC) W) ∨ (N = 32 ∧ ∀ W, (Instr.slice 22 (.slice A1 32 c1) (some (.int .i64 0)) none none).run Tryd.prog W = .ok (.slice AA LL CC) W) ∨
            (32 < N ∧ ∀ W, (Instr.slice 22 (.slice A1 N c1) (some (.int .i64 ((N : Int) - 32))) none none).run Tryd.prog W = .ok (.slice AA LL CC) W)) := by
        have hlo : N - 32 ≤ N := by omega
        have hd := hr1.drop c1 (N - 32) (by rw [hol, ← hN]; exact hc1) (by rw [hol, ← hN]; exact hlo)
        have hsl := fun W => run_slice_l A1 N c1 (N - 32) hlo W
        rw [hN, Sen.okm_last, ← hN] at hd
        refine ⟨cutA A1 c1 (N - 32), N - (N - 32), c1 - (N - 32), ⟨?_, hd⟩, ?_⟩
        · rw [← Sen.okm_last, List.length_drop, hol, ← hN]
        · by_cases h0 : N = 0
          · left; subst h0; exact ⟨rfl, hsl⟩
          · by_cases h1 : N = 32
            · right; left; subst h1; exact ⟨rfl, hsl⟩
            · right; right
              refine ⟨by omega, fun W => ?_⟩
              have := hsl W
              rw [show ((N - 32 : Nat) : Int) = (N : Int) - 32 by omega] at this
              exact this
      obtain ⟨AA, LL, CC, ⟨hLL, hrl⟩, hways⟩ := hcut
      obtain ⟨lst, hlst⟩ : ∃ lst, lst = Sen.last key s.data.toList j := ⟨_, rfl⟩
      rw [← hlst] at hLL hrl hll
      have hLLb : LL ≤ 32 := by omega
      have hnx : Sen.okm key s.data.toList (j + 1) = Sen.okm key s.data.toList j ++ Sen.hmac key (lst ++ s.data.toList ++ [UInt8.ofNat (j + 1)]) := by rw [hlst]; rfl
      obtain ⟨ub, hub⟩ : ∃ ub, ub = UInt8.ofNat (j + 1) := ⟨_, rfl⟩
      have hubv : ((j : Int) + 1) % 256 = ((ub.toNat : Nat) : Int) := by rw [hub, UInt8.toNat_ofNat']; omega
      rw [← hub] at hnx
      have HUB := Lib.hid hubv
      clear hub hubv
      obtain ⟨msg, hmsg⟩ : ∃ msg, msg = lst ++ s.data.toList ++ [ub] := ⟨_, rfl⟩
      have hml : msg.length ≤ 1000100 := by
        rw [hmsg, List.length_append, List.length_append]
        have : s.data.toList.length = s.size := (Lib.size_eq s).symm
        have := HS.out
        simp only [List.length_cons, List.length_nil]
        omega
      rw [← hmsg] at hnx
      have HMSG := Lib.hid hmsg; have HML := Lib.hid hml
      have HSD := Lib.hid (show (bvs (Sen.hmac key msg)).length = 32 by rw [bvs_length, Sen.hmac_length])
      clear hmsg hml
      have HOWN := Lib.hid hown; have HB := Lib.hid hB; have HL := Lib.hid hLL; have HRL := Lib.hid hrl; have HNX := Lib.hid hnx; have HN := Lib.hid hN; have HOL := Lib.hid hol; have HLL := Lib.hid hll; have HJ := Lib.hid hjb
      clear hown hB hr1 hLL hrl hnx hlst hol hN hll hjb
      rcases hways with ⟨rfl, hsl⟩ | ⟨rfl, hsl⟩ | ⟨h32, hsl⟩
      all_goals
        go_wp2_with (first | (at_builtin; refine app_bytes (.tmp 34) (.tmp 35) wr.heap.size [] lst rfl rfl _ _ _ _ rfl rfl HL.out (Own.new _ _ (Nat.le_refl _)) (HRL.out.below (below_alloc (Below.refl _ _) _)) (by simp) (by have := HLL.out; simp; omega) ?_; intro v2 w2 ho2 hb2; have HO2 := Lib.hid ho2; have HB2 := Lib.hid ((below_alloc (Below.refl _ _) _).trans hb2); clear ho2 hb2) |
          (at_builtin; refine app_string (.tmp 36) (.tmp 37) wr.heap.size lst s rfl rfl _ rfl rfl HO2.out HB2.out.size (by have := HLL.out; have := HS.out; omega) ?_; intro v3 w3 ho3 hb3; have HO3 := Lib.hid ho3; have HB3 := Lib.hid (HB2.out.trans hb3); clear ho3 hb3) |
          (at_builtin; refine app_byte (.tmp 38) (.tmp 40) wr.heap.size (lst ++ s.data.toList) ub rfl rfl v3 _ HUB.out rfl rfl HO3.out HB3.out.size (by rw [List.length_append]; have := HLL.out; have := HS.out; have : s.data.toList.length = s.size := (Lib.size_eq s).symm; omega) ?_; intro v4 w4 ho4 hb4; rw [← HMSG.out] at ho4; have HO4 := Lib.hid ho4; have HB4 := Lib.hid (HB3.out.trans hb4); clear ho4 hb4))
        obtain ⟨A4, c4, rfl, hc4, hr4⟩ := HO4.out.reads (by have := HML.out; omega)
        have hbw := HB.out.trans (HB4.out.mono HB.out.size)
        have hcs := mac_sum_c A A4 c c4 key msg w4 HK.out (by have := HML.out; omega) (HA.out.below hbw) hr4 (HT.out.below hbw)
        rw [← HKE.out] at hcs
        refine hcs.mono ?_
        clear hcs hr4 hc4 hbw
        rintro e w5 ⟨rfl, hb5⟩
        have HB5 := Lib.hid (HB4.out.trans (hb5.mono HB4.out.size))
        clear hb5
        go_wp2_with (first | (with_reducible refine wpList_store_any rfl 24 _ _ rfl _ (bvs (Sen.hmac key msg)) rfl rfl 24 _ (blk_new _ rfl) 32 (by kernel_rfl) HSD.out (by kernel_rfl) (bvs_one _) ?_ rfl; rw [setRow_alloc]) |
          (at_builtin; refine app_bytes (.tmp 45) (.tmp 46) w.heap.size (Sen.okm key s.data.toList j) (Sen.hmac key msg) rfl rfl _ _ _ _ rfl rfl (Sen.hmac_length _ _).symm (HOWN.out.below (below_alloc HB5.out _)) (rb_of_row (blk_new _ rfl) (by rw [Sen.hmac_length]; decide)) (by have := HB.out.size; have := HB5.out.size; simp; omega) (by rw [HOL.out, Sen.hmac_length]; omega) ?_; intro v6 w6 ho6 hb6; rw [← HNX.out] at ho6; have HO6 := Lib.hid ho6; have HB6 := Lib.hid hb6; clear ho6 hb6))
        obtain ⟨A6, c6, rfl, _, _⟩ := HO6.out.reads (by rw [Sen.okm_length]; omega)
        refine ⟨⟨j + 1, hjR, ?_, HO6.out, (HB.out.trans ((below_alloc HB5.out _).mono HB.out.size)).trans HB6.out⟩, ?_⟩
        · exact congrArg (Value.int .u8) (by have := HJ.out; omega)
        · show n + 32 - (Sen.okm key s.data.toList (j + 1)).length < n + 32 - _
          rw [Sen.okm_length]
          have := HN.out
          omega
    · have t0 : decide ((N : Int) < (n : Int)) = false := by simp; omega
      obtain rfl : j = R := by omega
      have hsl := fun W => run_slice_to A1 N c1 n (by omega) W
      have hfin : RB wr A1 (Sen.expand key s.data.toList n) := by unfold Sen.expand; rw [← HR.out]; exact hr1.take n
      have HF := Lib.hid hfin; have HB := Lib.hid hB
      have hcn : n ≤ c1 := by omega
      clear hr1 hown hB hfin hol hN
      go_wp2
      go_ret2
      exact ⟨_, _, rfl, hcn, HF.out, HB.out⟩
end Go.Proofs.YtoophccelcbbfaaDoor
