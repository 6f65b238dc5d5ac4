/-
  Derive, of mac and of its reference.
-/
import Derived.Test.YtoophccelcbbfaaDoorExtr
import Derived.Test.YtoophccelcbbfaaDoorExp2
set_option linter.unusedVariables false
set_option linter.unusedSimpArgs false
namespace Go.Proofs.YtoophccelcbbfaaDoor
open Go.RowKit

def TwoPost (R : Value → Value → World → World → Prop) (w1 : World) (e : Ending) (w' : World) : Prop := ∃ v1 v2, e = .returned (.tuple #[v1, v2]) ∧ R v1 v2 w1 w'
def DerPost (R : Value → Value → World → World → Prop) (w : World) (e : Ending) (w' : World) : Prop := ∃ w1, Below w.heap.size w w1 ∧ TwoPost R w1 e w'
set_option maxHeartbeats 1000000 in
theorem derive_c (R : Value → Value → World → World → Prop) (A B : Option Addr) (c d : Nat) (b salt : List UInt8) (s : ByteArray) (n : Int) (w : World) (hb : b.length ≤ 1048000) (hk : salt.length ≤ 1048000) (hA : RB w A b) (hB : RB w B salt) (hT : Tab w)
    (h : ∀ A' w1, RB w1 A' (Sen.extract salt b) → Below w.heap.size w w1 → Calls Tryd.prog 38 #[.slice A' 32 32, .string s, .int .i64 n] w1 (TwoPost R w1)) :
    Calls Tryd.prog 41 #[.slice A b.length c, .slice B salt.length d, .string s, .int .i64 n] w (DerPost R w) := by
  have hz := zero24
  obtain ⟨N, hn⟩ : ∃ N, N = b.length := ⟨_, rfl⟩
  obtain ⟨M, hm⟩ : ∃ M, M = salt.length := ⟨_, rfl⟩
  have HK := Lib.hid hk; have HBB := Lib.hid hb; have HA := Lib.hid hA; have HB := Lib.hid hB; have HN := Lib.hid hn; have HM := Lib.hid hm; have H := Lib.hid h; have HT := Lib.hid hT
  rw [← hn, ← hm]
  clear hk hb hA hB hn hm h hT
  have HSO := Lib.hid (show (bvs (Sen.extract salt b)).length = 32 by rw [bvs_length]; exact Sen.hmac_length _ _)
  go_enter Tryd.func41, Tryd.ntmps41
  go_wp2_with fail
  have hc := extract_c B A d c salt b w HK.out HBB.out HB.out HA.out HT.out
  rw [← HN.out, ← HM.out] at hc
  refine hc.mono ?_
  clear hc
  rintro e w1 ⟨rfl, hb1⟩
  have HB1 := Lib.hid hb1
  clear hb1
  go_wp2_with (with_reducible refine wpList_store_any rfl 24 _ _ rfl _ (bvs (Sen.extract salt b)) rfl rfl 24 _ (blk_new _ rfl) 32 (by kernel_rfl) HSO.out (by kernel_rfl) (bvs_one _) ?_ rfl; rw [setRow_alloc])
  have hr : RB (w1.alloc (.cells (bvs (Sen.extract salt b)).toArray 24)) (some ⟨w1.heap.size, 0, none⟩) (Sen.extract salt b) := rb_of_row (blk_new _ rfl) (by rw [← bvs_length, HSO.out]; decide)
  refine (H.out _ _ hr (below_alloc HB1.out _)).mono ?_
  clear hr
  rintro e w2 ⟨v1, v2, rfl, h2⟩
  have H2 := Lib.hid h2
  clear h2
  go_wp2
  go_ret2
  exact ⟨_, below_alloc HB1.out _, _, _, rfl, H2.out⟩
set_option maxHeartbeats 1000000 in
theorem ref_derive_c (R : Value → Value → World → World → Prop) (A B : Option Addr) (c d : Nat) (b salt : List UInt8) (s : ByteArray) (n : Int) (w : World) (hb : b.length ≤ 1048000) (hk : salt.length ≤ 1048000) (hA : RB w A b) (hB : RB w B salt)
    (h : ∀ A' w1, RB w1 A' (Sen.extract salt b) → Below w.heap.size w w1 → Calls Tryd.prog 40 #[.slice A' 32 32, .string s, .int .i64 n] w1 (TwoPost R w1)) :
    Calls Tryd.prog 42 #[.slice A b.length c, .slice B salt.length d, .string s, .int .i64 n] w (DerPost R w) := by
  have hz := zero24
  obtain ⟨N, hn⟩ : ∃ N, N = b.length := ⟨_, rfl⟩
  obtain ⟨M, hm⟩ : ∃ M, M = salt.length := ⟨_, rfl⟩
  have HK := Lib.hid hk; have HBB := Lib.hid hb; have HA := Lib.hid hA; have HB := Lib.hid hB; have HN := Lib.hid hn; have HM := Lib.hid hm; have H := Lib.hid h
  rw [← hn, ← hm]
  clear hk hb hA hB hn hm h
  have HSO := Lib.hid (show (bvs (Sen.extract salt b)).length = 32 by rw [bvs_length]; exact Sen.hmac_length _ _)
  go_enter Tryd.func42, Tryd.ntmps42
  go_wp2_with fail
  have hc := ref_extract_c B A d c salt b w HK.out HBB.out HB.out HA.out
  rw [← HN.out, ← HM.out] at hc
  refine hc.mono ?_
  clear hc
  rintro e w1 ⟨rfl, hb1⟩
  have HB1 := Lib.hid hb1
  clear hb1
  go_wp2_with (with_reducible refine wpList_store_any rfl 24 _ _ rfl _ (bvs (Sen.extract salt b)) rfl rfl 24 _ (blk_new _ rfl) 32 (by kernel_rfl) HSO.out (by kernel_rfl) (bvs_one _) ?_ rfl; rw [setRow_alloc])
  have hr : RB (w1.alloc (.cells (bvs (Sen.extract salt b)).toArray 24)) (some ⟨w1.heap.size, 0, none⟩) (Sen.extract salt b) := rb_of_row (blk_new _ rfl) (by rw [← bvs_length, HSO.out]; decide)
  refine (H.out _ _ hr (below_alloc HB1.out _)).mono ?_
  clear hr
  rintro e w2 ⟨v1, v2, rfl, h2⟩
  have H2 := Lib.hid h2
  clear h2
  go_wp2
  go_ret2
  exact ⟨_, below_alloc HB1.out _, _, _, rfl, H2.out⟩
end Go.Proofs.YtoophccelcbbfaaDoor
