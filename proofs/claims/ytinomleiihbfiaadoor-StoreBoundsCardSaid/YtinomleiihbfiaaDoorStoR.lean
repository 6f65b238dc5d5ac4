/-
  Plain mathematics of a store: what is held behind a put, torn or whole, and behind an erasing. No program in sight.
-/
import Derived.Test.YtinomleiihbfiaaDoorSto13
set_option linter.unusedVariables false
set_option linter.unusedSimpArgs false
namespace Go.Proofs.YtinomleiihbfiaaDoor
open Go.RowKit

/-- A place holds a record. -/
def Holds (s : Sen.Sto) (k e : Nat) (b : List UInt8) : Prop := Sen.readRec s.size (Sen.place s k) = some (e, b)
/-- The power is on, without end. -/
structure On (s : Sen.Sto) : Prop where
  ok : s.Ok
  gone : s.gone = false
  left : s.left = -1
theorem on_new (n : Nat) (h1 : 64 ≤ n) (h2 : n ≤ 4096) : On (newS n) := ⟨newS_ok n h1 h2, rfl, rfl⟩
theorem place_wrote (s : Sen.Sto) (h : s.Ok) (k j : Nat) (hk : k < 2) (hj : j < 2) (hne : j ≠ k) (bs : List UInt8) (hb : bs.length ≤ s.size) : Sen.place (Sen.wrote s (k * s.size) bs) j = Sen.place s j := by
  have key : ∀ l : List UInt8, l.length ≤ s.size → ((Sen.putAt s.img (k * s.size) l).drop (j * s.size)).take s.size = (s.img.drop (j * s.size)).take s.size := fun l hl => by
    have : (k = 0 ∧ j = 1) ∨ (k = 1 ∧ j = 0) := by omega
    rcases this with ⟨rfl, rfl⟩ | ⟨rfl, rfl⟩
    · have := Sen.putAt_other1 s.img l s.size hl h.len
      rw [Nat.zero_mul]; exact this
    · have := Sen.putAt_other0 s.img l s.size hl h.len
      rw [Nat.one_mul]; exact this
  unfold Sen.wrote Sen.place
  split
  · exact key bs hb
  · exact key _ (by rw [List.length_take]; omega)
theorem holds_wrote (s : Sen.Sto) (h : s.Ok) (k j e : Nat) (b : List UInt8) (hk : k < 2) (hj : j < 2) (hne : j ≠ k) (bs : List UInt8) (hb : bs.length ≤ s.size) (hh : Holds s j e b) : Holds (Sen.wrote s (k * s.size) bs) j e b := by
  unfold Holds at *
  rw [Sen.wrote_size, place_wrote s h k j hk hj hne bs hb]
  exact hh
theorem place_same (s : Sen.Sto) (h : s.Ok) (k : Nat) (hk : k < 2) (bs : List UInt8) (hb : bs.length ≤ s.size) (hf : Sen.fits s bs = true) : ∃ r, Sen.place (Sen.wrote s (k * s.size) bs) k = bs ++ r := by
  obtain ⟨r, hr⟩ := Sen.putAt_same s.img bs k s.size hk hb h.len
  refine ⟨r, ?_⟩
  unfold Sen.wrote Sen.place
  rw [if_pos (of_decide_eq_true hf)]
  exact hr
theorem fits_on (s : Sen.Sto) (h : s.left = -1) (bs : List UInt8) : Sen.fits s bs = true := decide_eq_true (Or.inl (by omega))
theorem wrote_fit (s : Sen.Sto) (off : Nat) (bs : List UInt8) (hf : Sen.fits s bs = true) : (Sen.wrote s off bs).gone = s.gone ∧ (Sen.wrote s off bs).left = (if s.left < 0 then -1 else s.left - bs.length) ∧ (Sen.wrote s off bs).written = s.written + bs.length := by
  unfold Sen.wrote
  rw [if_pos (of_decide_eq_true hf)]
  exact ⟨rfl, rfl, rfl⟩
theorem wrote_torn (s : Sen.Sto) (off : Nat) (bs : List UInt8) (hf : Sen.fits s bs = false) : (Sen.wrote s off bs).gone = true := by
  unfold Sen.wrote
  rw [if_neg (of_decide_eq_false hf)]
/-- What a put leaves. -/
theorem put_plain (s : Sen.Sto) (h : s.Ok) (hg : s.gone = false) (n : Nat) (hn : n ≤ 1048576) (b : List UInt8) (hb : b.length + 32 ≤ s.size) :
    putS s (n : Int) b = (Sen.wrote s (n % 2 * s.size) (Sen.recB n b), if Sen.fits s (Sen.recB n b) then 0 else 8) := by
  unfold putS
  rw [if_neg (by omega), if_neg (by omega), if_neg (by rw [hg]; decide), Int.toNat_natCast]
theorem holds_put (s : Sen.Sto) (h : s.Ok) (n : Nat) (hn : n ≤ 1048576) (b : List UInt8) (hb : b.length + 32 ≤ s.size) (hf : Sen.fits s (Sen.recB n b) = true) : Holds (Sen.wrote s (n % 2 * s.size) (Sen.recB n b)) (n % 2) n b := by
  obtain ⟨r, hr⟩ := place_same s h (n % 2) (by omega) (Sen.recB n b) (by rw [Sen.recB_length]; omega) hf
  unfold Holds
  rw [Sen.wrote_size, hr]
  exact Sen.readRec_rec s.size n b r hn hb h.hi
theorem put_on (s : Sen.Sto) (h : On s) (n : Nat) (hn : n ≤ 1048576) (b : List UInt8) (hb : b.length + 32 ≤ s.size) :
    ∃ s', putS s (n : Int) b = (s', 0) ∧ On s' ∧ s'.size = s.size ∧ s'.written = s.written + (32 + b.length) ∧ Holds s' (n % 2) n b ∧ ∀ e c, Holds s ((n + 1) % 2) e c → Holds s' ((n + 1) % 2) e c := by
  have hf := fits_on s h.left (Sen.recB n b)
  have hl : (Sen.recB n b).length ≤ s.size := by rw [Sen.recB_length]; omega
  obtain ⟨w1, w2, w3⟩ := wrote_fit s (n % 2 * s.size) (Sen.recB n b) hf
  refine ⟨Sen.wrote s (n % 2 * s.size) (Sen.recB n b), ?_, ⟨Sen.wrote_ok s h.ok (n % 2) (by omega) _ hl, w1.trans h.gone, by rw [w2, h.left]; rfl⟩, Sen.wrote_size _ _ _, by rw [w3, Sen.recB_length], holds_put s h.ok n hn b hb hf, fun e c hc => holds_wrote s h.ok (n % 2) ((n + 1) % 2) e c (by omega) (by omega) (by omega) _ hl hc⟩
  rw [put_plain s h.ok h.gone n hn b hb, hf]
  rfl
theorem get_holds (s : Sen.Sto) (hg : s.gone = false) (n : Nat) (hn : n ≤ 1048576) (b : List UInt8) (h : Holds s (n % 2) n b) : getS s (n : Int) = (b, 0) := by
  unfold Holds at h
  unfold getS
  rw [if_neg (by omega), if_neg (by rw [hg]; decide), Int.toNat_natCast, h]
  simp
theorem get_other (s : Sen.Sto) (hg : s.gone = false) (n e : Nat) (hn : n ≤ 1048576) (b : List UInt8) (h : Holds s (n % 2) e b) (hne : e ≠ n) : getS s (n : Int) = ([], 5) := by
  unfold Holds at h
  unfold getS
  rw [if_neg (by omega), if_neg (by rw [hg]; decide), Int.toNat_natCast, h]
  simp [hne]
theorem get_gone (s : Sen.Sto) (hg : s.gone = true) (n : Nat) (hn : n ≤ 1048576) : getS s (n : Int) = ([], 8) := by
  unfold getS
  rw [if_neg (by omega), if_pos hg]
theorem newest_holds (s : Sen.Sto) (hg : s.gone = false) (j k m : Nat) (x y : List UInt8) (hj : j < 2) (hx : Holds s j k x) (hy : Holds s ((j + 1) % 2) m y) (h : k < m) : newestS s = ((m : Int), y, 0) := by
  unfold Holds at hx hy
  unfold newestS
  rw [if_neg (by rw [hg]; decide)]
  obtain rfl | rfl : j = 0 ∨ j = 1 := by omega
  · rw [hx, show (0 + 1) % 2 = 1 from rfl] at *
    rw [hy]
    simp [h]
  · rw [show (1 + 1) % 2 = 0 from rfl] at hy
    rw [hx, hy]
    simp [Nat.not_lt.2 (Nat.le_of_lt h)]
end Go.Proofs.YtinomleiihbfiaaDoor
