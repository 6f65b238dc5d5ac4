/-
  The reference of layer 4: Pad.
-/
import Derived.Test.YteplaginenhfkaaDoorOwn
set_option linter.unusedVariables false
set_option linter.unusedSimpArgs false
namespace Go.Proofs.YteplaginenhfkaaDoor
open Go.RowKit

def padz (l : List UInt8) (j : Nat) : List UInt8 := l ++ 128 :: List.replicate j 0
theorem padz_length (l : List UInt8) (j : Nat) : (padz l j).length = l.length + 1 + j := by simp [padz]; omega
theorem padz_next (l : List UInt8) (j : Nat) : padz l j ++ [0] = padz l (j + 1) := by simp [padz, List.replicate_succ']
theorem padz_all (l : List UInt8) : padz l (Sen.zerosFor l.length) ++ Sen.tail8 (l.length * 8) 8 = Sen.pad l := by simp [padz, Sen.pad, ← Sen.be64_tail]

set_option maxRecDepth 100000 in
set_option maxHeartbeats 1000000 in
theorem ref_pad_c (A : Option Addr) (c : Nat) (l : List UInt8) (w : World) (hl : l.length ≤ 1048576) (hR : RB w A l) :
    Calls Tryd.prog 53 #[.slice A l.length c] w (OwnPost w (Sen.pad l)) := by
  have HR1 := Lib.hid (hR.below (below_alloc (Below.refl _ _) (.cells #[] 5)))
  have hmk := fun W => run_make_bytes 8 (by decide) 8 rfl W
  obtain ⟨z8, hz8⟩ : ∃ z8, z8 = List.replicate 8 (0 : UInt8) := ⟨_, rfl⟩
  rw [← hz8] at hmk
  have HZ8 := Lib.hid hz8
  clear hz8
  obtain ⟨n, hn⟩ : ∃ n, n = l.length := ⟨_, rfl⟩
  have HN := Lib.hid hn
  have hn1 : n ≤ 1048576 := by omega
  rw [← hn]
  clear hR hl hn
  go_enter Tryd.func53, Tryd.ntmps53
  go_wp2_with (first | (at_builtin; refine app_bytes (.tmp 7) (.tmp 8) w.heap.size [] l rfl rfl _ _ _ _ rfl rfl HN.out (Own.new _ _ (Nat.le_refl _)) HR1.out (by simp) (by simp; have := HN.out; omega) ?_; intro v1 w1 ho1 hb1; have HO1 := Lib.hid ho1; have HB1 := Lib.hid ((below_alloc (Below.refl _ _) _).trans hb1); clear ho1 hb1) | (at_builtin; refine app_byte (.tmp 9) (.tmp 10) w.heap.size l 128 rfl rfl v1 _ rfl rfl rfl HO1.out HB1.out.size (by have := HN.out; omega) ?_; intro v2 w2 ho2 hb2; have HO2 := Lib.hid ho2; have HB2 := Lib.hid (HB1.out.trans hb2); clear ho2 hb2 HO1 HB1))
  go_loopw [3] (fun v wr => ∃ j : Nat, j ≤ Sen.zerosFor n ∧ Own wr w.heap.size v (padz l j) ∧ Below w.heap.size w wr) (fun v _ => match v with | .slice _ L _ => n + 65 - L | _ => 0)
  case atStart => exact ⟨0, by omega, by simpa [padz] using HO2.out, HB2.out⟩
  case round =>
    obtain ⟨j, hj, hown, hB⟩ := hrel
    have hz : Sen.zerosFor n ≤ 63 := by unfold Sen.zerosFor; omega
    have hpl := padz_length l j
    obtain ⟨A', c', hv, hlc, hr⟩ := hown.reads (by rw [hpl]; have := HN.out; omega)
    obtain ⟨L, hL⟩ : ∃ L, L = (padz l j).length := ⟨_, rfl⟩
    rw [← hL] at hv hlc hpl
    rw [← HN.out] at hpl
    subst hv
    have hL1 : L ≤ 1048640 := by omega
    have HPL := Lib.hid hpl; have HOWN := Lib.hid hown; have HB := Lib.hid hB
    clear hL hpl hr hown hB
    by_cases h56 : L % 64 = 56
    · have t1 : ((L : Int) % 64 != 56) = false := by simp; omega
      have hjz : j = Sen.zerosFor n := by have := HPL.out; unfold Sen.zerosFor at hj ⊢; omega
      subst hjz
      go_wp2
      obtain ⟨X, hX⟩ : ∃ X, X = wr.alloc (.cells (bvs z8).toArray 5) := ⟨_, rfl⟩
      have hD : X.heap[wr.heap.size]? = some (.cells (bvs (Sen.tail8 (n * 8) 0)).toArray 5 (0, 0)) := by rw [hX, Sen.tail8_zero, ← HZ8.out]; exact blk_new _ rfl
      have hBX : Below wr.heap.size wr X := by rw [hX]; exact below_alloc (Below.refl _ _) _
      rw [← hX]
      have HX := Lib.hid hD; have HBX := Lib.hid hBX
      clear hX hD hBX hmk
      have hset := fun cs i v => row_set HX.out cs i v
      have hcell := fun cs j => row_cell HX.out cs j
      have hfro := fun cs j => row_frozen HX.out cs j
      have hB0 := HB.out.size
      go_loopw [4, 6] (fun vx vi wx => ∃ k x : Nat, ∃ p : Int, k ≤ 8 ∧ p + k = 7 ∧ Hid (x = n * 8 / 256 ^ k) ∧ x ≤ 8388608 ∧ vi = .int .i64 p ∧ vx = .int .u64 x ∧ wx = X.setRow wr.heap.size (bvs (Sen.tail8 (n * 8) k)).toArray) (fun _ i _ => (intOf i + 1).toNat)
      case atStart => exact ⟨0, n * 8, 7, by omega, by omega, Lib.hid (by simp), by omega, rfl, rfl, (row_same HX.out).symm⟩
      case round =>
        obtain ⟨k, x, p, hk, hp, hx, hxb, rfl, rfl, rfl⟩ := hrel
        by_cases hk8 : k < 8
        · obtain ⟨q, hq⟩ : ∃ q : Nat, p = q := ⟨7 - k, by omega⟩
          subst hq
          have t0 : decide ((q : Int) ≥ 0) = true := by simp
          obtain ⟨y, ey⟩ := bvs_some (Sen.tail8 (n * 8) k) q (by rw [Sen.tail8_length]; omega)
          have hq8 : (q : Int) < 8 := by omega
          have SET := Lib.hid (show (bvs (Sen.tail8 (n * 8) k)).set q (.int .u8 ((x : Int) % 256)) = bvs (Sen.tail8 (n * 8) (k + 1)) by
            rw [bvs_set _ _ (UInt8.ofNat x) _ (by rw [UInt8.toNat_ofNat']; omega), hx.out, show q = 7 - k by omega, Sen.tail8_set _ _ hk8])
          go_wp2
          exact ⟨⟨k + 1, x / 256, (q : Int) - 1, by omega, by omega, Lib.hid (by rw [hx.out, Nat.div_div_eq_div_mul, Nat.pow_succ]), by omega, rfl, congrArg (Value.int .u64) (by omega), congrArg (fun c => X.setRow wr.heap.size (List.toArray c)) SET.out⟩, by simp [intOf]⟩
        · obtain rfl : k = 8 := by omega
          obtain rfl : p = -1 := by omega
          have h1 := setRow_heap X wr.heap.size _ (bvs (Sen.tail8 (n * 8) 8)).toArray _ _ HX.out
          have h2 : Below wr.heap.size wr (X.setRow wr.heap.size (bvs (Sen.tail8 (n * 8) 8)).toArray) := below_setRow HBX.out (Nat.le_refl _) _
          have h3 := HOWN.out.below h2
          have h4 := rb_of_row h1 (by rw [Sen.tail8_length]; decide)
          have H2 := Lib.hid h2; have H3 := Lib.hid h3; have H4 := Lib.hid h4
          clear h1 h2 h3 h4 hset hcell hfro
          go_wp2_with (at_builtin; refine app_bytes (.tmp 36) (.tmp 37) w.heap.size (padz l (Sen.zerosFor n)) (Sen.tail8 (n * 8) 8) rfl rfl _ _ _ _ rfl rfl rfl H3.out H4.out (Nat.le_trans hB0 H2.out.size) (by rw [padz_length, Sen.tail8_length, ← HN.out]; omega) ?_; intro v4 w4 ho4 hb4)
          go_ret
          refine ⟨_, rfl, ?_, HB.out.trans ((H2.out.mono hB0).trans hb4)⟩
          rw [HN.out, padz_all] at ho4
          exact ho4
    · have t1 : ((L : Int) % 64 != 56) = true := by simp; omega
      go_wp2_with (at_builtin; refine app_byte (.tmp 16) (.tmp 17) w.heap.size (padz l j) 0 rfl rfl _ _ rfl rfl rfl HOWN.out HB.out.size (by rw [padz_length, ← HN.out]; omega) ?_; intro v3 w3 ho3 hb3)
      rw [padz_next] at ho3
      obtain ⟨A3, c3, rfl, _, _⟩ := ho3.reads (by rw [padz_length, ← HN.out]; omega)
      exact ⟨⟨j + 1, by have := HPL.out; unfold Sen.zerosFor at hj ⊢; omega, ho3, HB.out.trans hb3⟩, by show n + 65 - (padz l (j + 1)).length < n + 65 - L; rw [padz_length, ← HN.out]; have := HPL.out; omega⟩
end Go.Proofs.YteplaginenhfkaaDoor
