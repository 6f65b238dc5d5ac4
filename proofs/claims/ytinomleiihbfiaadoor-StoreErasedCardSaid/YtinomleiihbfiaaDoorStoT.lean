/-
  Plain mathematics of a store: torn puts, erasings, bounds.
-/
import Derived.Test.YtinomleiihbfiaaDoorSto14
set_option linter.unusedVariables false
set_option linter.unusedSimpArgs false
namespace Go.Proofs.YtinomleiihbfiaaDoor
open Go.RowKit

theorem cutS_ok (s : Sen.Sto) (h : s.Ok) (t : Nat) (ht : t ≤ 1000) : (cutS s t).Ok := ⟨h.lo, h.hi, h.len, by show (-1 : Int) ≤ t; omega, by show (t : Int) ≤ _; omega⟩
theorem powS_ok (s : Sen.Sto) (h : s.Ok) : (powS s).Ok := ⟨h.lo, h.hi, h.len, by show (-1 : Int) ≤ -1; omega, by show (-1 : Int) ≤ _; omega⟩
theorem fits_cut (s : Sen.Sto) (t : Nat) (bs : List UInt8) : Sen.fits (cutS s t) bs = decide (bs.length ≤ t) := by
  unfold Sen.fits cutS
  simp only [decide_eq_decide]
  omega
theorem torn_plain (s : Sen.Sto) (k : Nat) (hk : k < 1048574) (a b c : List UInt8) (h : Two s k a b) (hc : c.length ≤ 96) (t : Nat) (ht : t ≤ 1000) :
    ∃ s4 cd, putS (cutS s t) ((k : Int) + 2) c = (s4, cd) ∧ s4.Ok ∧ getS (powS s4) ((k : Int) + 1) = (b, 0) ∧
      (32 + c.length ≤ t → cd = 0 ∧ getS s4 ((k : Int) + 1) = (b, 0) ∧ getS (powS s4) ((k : Int) + 2) = (c, 0)) ∧
      (t < 32 + c.length → cd = 8 ∧ getS s4 ((k : Int) + 1) = ([], 8) ∧ (t = 0 → getS (powS s4) (k : Int) = (a, 0))) := by
  have hok := cutS_ok s h.on.ok t ht
  have hsz : (cutS s t).size = 128 := h.size
  have hl : (Sen.recB (k + 2) c).length ≤ (cutS s t).size := by rw [Sen.recB_length, hsz]; omega
  have hf := fits_cut s t (Sen.recB (k + 2) c)
  rw [Sen.recB_length] at hf
  have e1 : ((k : Int) + 1) = ((k + 1 : Nat) : Int) := by omega
  have e2 : ((k : Int) + 2) = ((k + 2 : Nat) : Int) := by omega
  have hp := put_plain (cutS s t) hok h.on.gone (k + 2) (by omega) c (by rw [hsz]; omega)
  have hnew : Holds (cutS s t) ((k + 1) % 2) (k + 1) b := h.new
  have hold : Holds (cutS s t) (k % 2) k a := h.old
  have hnew4 := holds_wrote (cutS s t) hok ((k + 2) % 2) ((k + 1) % 2) (k + 1) b (by omega) (by omega) (by omega) (Sen.recB (k + 2) c) hl hnew
  have hok4 := Sen.wrote_ok (cutS s t) hok ((k + 2) % 2) (by omega) (Sen.recB (k + 2) c) hl
  rw [e1, e2]
  refine ⟨_, _, hp, hok4, get_holds _ rfl (k + 1) (by omega) b hnew4, fun hw => ?_, fun hw => ?_⟩
  · have hf1 : Sen.fits (cutS s t) (Sen.recB (k + 2) c) = true := by rw [hf]; exact decide_eq_true hw
    obtain ⟨g1, _, _⟩ := wrote_fit (cutS s t) ((k + 2) % 2 * (cutS s t).size) (Sen.recB (k + 2) c) hf1
    have hh := holds_put (cutS s t) hok (k + 2) (by omega) c (by rw [hsz]; omega) hf1
    refine ⟨by rw [if_pos hf1], get_holds _ (g1.trans h.on.gone) (k + 1) (by omega) b hnew4, get_holds _ rfl (k + 2) (by omega) c hh⟩
  · have hf0 : Sen.fits (cutS s t) (Sen.recB (k + 2) c) = false := by rw [hf]; exact decide_eq_false (by omega)
    refine ⟨by rw [if_neg (by rw [hf0]; decide)], get_gone _ (wrote_torn _ _ _ hf0) (k + 1) (by omega), fun h0 => ?_⟩
    refine get_holds _ rfl k (by omega) a ?_
    have himg : (Sen.wrote (cutS s t) ((k + 2) % 2 * (cutS s t).size) (Sen.recB (k + 2) c)).img = s.img := by
      unfold Sen.wrote
      rw [if_neg (of_decide_eq_false hf0)]
      show Sen.putAt s.img _ ((Sen.recB (k + 2) c).take (t : Int).toNat) = s.img
      rw [h0]
      exact Sen.putAt_nil _ _
    have hs4 : (Sen.wrote (cutS s t) ((k + 2) % 2 * (cutS s t).size) (Sen.recB (k + 2) c)).size = s.size := Sen.wrote_size _ _ _
    have ho := h.old
    unfold Holds Sen.place at ho ⊢
    show Sen.readRec (Sen.wrote (cutS s t) ((k + 2) % 2 * (cutS s t).size) (Sen.recB (k + 2) c)).size (((Sen.wrote (cutS s t) ((k + 2) % 2 * (cutS s t).size) (Sen.recB (k + 2) c)).img.drop (k % 2 * (Sen.wrote (cutS s t) ((k + 2) % 2 * (cutS s t).size) (Sen.recB (k + 2) c)).size)).take (Sen.wrote (cutS s t) ((k + 2) % 2 * (cutS s t).size) (Sen.recB (k + 2) c)).size) = some (k, a)
    rw [himg, hs4]
    exact ho
theorem getS_none (s : Sen.Sto) (hg : s.gone = false) (n : Nat) (hn : n ≤ 1048576) (h : Sen.readRec s.size (Sen.place s (n % 2)) = none) : getS s (n : Int) = ([], 5) := by
  unfold getS
  rw [if_neg (by omega), if_neg (by rw [hg]; decide), Int.toNat_natCast, h]
theorem zeros_take (n : Nat) (h : 32 ≤ n) : (Sen.zeros n).take 32 = List.replicate 32 0 := by
  unfold Sen.zeros
  rw [List.take_replicate, Nat.min_eq_left h]
theorem zeros_getD (n i : Nat) : (Sen.zeros n).getD i 0 = 0 := by
  unfold Sen.zeros
  rw [List.getD_eq_getElem?_getD, List.getElem?_replicate]
  split <;> rfl
theorem zero_place (X : Sen.Sto) (j n : Nat) (h0 : 32 ≤ n) (hsz : X.size = n) (h : Sen.place X j = Sen.zeros n) : Sen.readRec (powS X).size (Sen.place (powS X) j) = none ∧ ∀ i, i < n → (powS X).img.getD (j * n + i) 0 = 0 := by
  have h1 : Sen.place (powS X) j = Sen.place X j := rfl
  refine ⟨Sen.readRec_zeros _ _ (by rw [h1, h]; exact zeros_take n h0), fun i hi => ?_⟩
  have h2 := zeros_getD n i
  rw [← h] at h2
  unfold Sen.place at h2
  rw [hsz, List.getD_eq_getElem?_getD, List.getElem?_take, if_pos hi, List.getElem?_drop] at h2
  rw [List.getD_eq_getElem?_getD]
  exact h2
theorem erased_plain (s : Sen.Sto) (k : Nat) (hk : k < 1048574) (a b : List UInt8) (h : Two s k a b) (t : Nat) (ht : t ≤ 1000) :
    ∃ s4 cd, eraseS (cutS s t) (k : Int) = (s4, cd) ∧ s4.Ok ∧ s4.size = 128 ∧ s4.written ≤ 2000 ∧ getS (powS s4) ((k : Int) + 1) = (b, 0) ∧
      (128 ≤ t → cd = 0 ∧ getS (powS s4) (k : Int) = ([], 5) ∧ eraseS (powS s4) (k : Int) = (powS s4, 5) ∧ ∀ i, i < 128 → (powS s4).img.getD (k % 2 * 128 + i) 0 = 0) ∧ (t < 128 → cd = 8) := by
  have hok := cutS_ok s h.on.ok t ht
  have hsz : (cutS s t).size = 128 := h.size
  have hzl : (Sen.zeros (cutS s t).size).length = (cutS s t).size := by simp [Sen.zeros]
  have hf := fits_cut s t (Sen.zeros (cutS s t).size)
  rw [hzl, hsz] at hf
  have e1 : ((k : Int) + 1) = ((k + 1 : Nat) : Int) := by omega
  have hnew : Holds (cutS s t) ((k + 1) % 2) (k + 1) b := h.new
  have hold : Holds (cutS s t) (k % 2) k a := h.old
  have hg0 := get_holds (cutS s t) h.on.gone k (by omega) a hold
  have he : eraseS (cutS s t) (k : Int) = (Sen.wrote (cutS s t) (k % 2 * (cutS s t).size) (Sen.zeros (cutS s t).size), if Sen.fits (cutS s t) (Sen.zeros (cutS s t).size) then 0 else 8) := by
    unfold eraseS
    rw [hg0, if_pos rfl, Int.toNat_natCast]
  have hnew4 := holds_wrote (cutS s t) hok (k % 2) ((k + 1) % 2) (k + 1) b (by omega) (by omega) (by omega) (Sen.zeros (cutS s t).size) (by rw [hzl]; exact Nat.le_refl _) hnew
  have hok4 := Sen.wrote_ok (cutS s t) hok (k % 2) (by omega) (Sen.zeros (cutS s t).size) (by rw [hzl]; exact Nat.le_refl _)
  have hwr := Sen.wrote_written (cutS s t) (k % 2 * (cutS s t).size) (Sen.zeros (cutS s t).size)
  rw [e1]
  refine ⟨_, _, he, hok4, (Sen.wrote_size _ _ _).trans hsz, ?_, get_holds _ rfl (k + 1) (by omega) b hnew4, fun hw => ?_, fun hw => ?_⟩
  · rw [hzl, hsz] at hwr
    have hw0 : (cutS s t).written ≤ 1000 := h.written
    rw [hsz]
    omega
  · have hf1 : Sen.fits (cutS s t) (Sen.zeros (cutS s t).size) = true := by rw [hsz, hf]; exact decide_eq_true hw
    obtain ⟨r, hr⟩ := place_same (cutS s t) hok (k % 2) (by omega) (Sen.zeros (cutS s t).size) (by rw [hzl]; exact Nat.le_refl _) hf1
    have hpl : (Sen.place (Sen.wrote (cutS s t) (k % 2 * (cutS s t).size) (Sen.zeros (cutS s t).size)) (k % 2)).length ≤ 128 := by
      unfold Sen.place
      rw [List.length_take, Sen.wrote_size, hsz]
      omega
    have hr0 : r = [] := by
      rw [hr, List.length_append, hzl, hsz] at hpl
      exact List.eq_nil_of_length_eq_zero (by omega)
    rw [hr0, List.append_nil, hsz] at hr
    rw [hsz] at hf1 ⊢
    obtain ⟨X, hX⟩ : ∃ X, X = Sen.wrote (cutS s t) (k % 2 * 128) (Sen.zeros 128) := ⟨_, rfl⟩
    have hXs : X.size = 128 := by rw [hX]; exact (Sen.wrote_size _ _ _).trans hsz
    rw [← hX] at hr ⊢
    obtain ⟨hrn, hz⟩ := zero_place X (k % 2) 128 (by decide) hXs hr
    have hgn := getS_none (powS X) rfl k (by omega) hrn
    refine ⟨by rw [if_pos hf1], hgn, ?_, hz⟩
    unfold eraseS
    rw [hgn]
    rfl
  · have hf0 : Sen.fits (cutS s t) (Sen.zeros (cutS s t).size) = false := by rw [hsz, hf]; exact decide_eq_false (by omega)
    rw [if_neg (by rw [hf0]; decide)]
end Go.Proofs.YtinomleiihbfiaaDoor
