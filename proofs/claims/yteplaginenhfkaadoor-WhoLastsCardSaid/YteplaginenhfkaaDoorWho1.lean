/-
  who: names and times: plain, and the walks of named, times and the reference's Name, time.
-/
import Derived.Test.YteplaginenhfkaaDoorParts
import Derived.Test.YteplaginenhfkaaDoorMac2
import Derived.Test.YteplaginenhfkaaDoorCut
import Derived.Test.YteplaginenhfkaaDoorEq
import Derived.Test.YteplaginenhfkaaDoorByt
set_option linter.unusedVariables false
set_option linter.unusedSimpArgs false
namespace Go.Proofs.YteplaginenhfkaaDoor
open Go.RowKit

def chOk (u : UInt8) : Bool := decide (33 ≤ u.toNat ∧ u.toNat ≤ 126)
def okName (s : ByteArray) : Bool := s.data.toList.all chOk && decide (1 ≤ s.size ∧ s.size ≤ 32)
def okTime (n : Int) : Bool := decide (0 ≤ n ∧ n ≤ 1099511627776)
theorem str_at (s : ByteArray) (k : Nat) (h : k < s.size) : s.data.toList.getD k 0 = s[k] := by
  have h' : k < s.data.size := h
  rw [List.getD_eq_getElem?_getD, Array.getElem?_toList, Array.getElem?_eq_getElem h']
  rfl
theorem okName_bad (s : ByteArray) (k : Nat) (h : k < s.size) (hb : chOk s[k] = false) : okName s = false := by
  unfold okName
  rw [Bool.and_eq_false_iff]
  left
  rw [List.all_eq_false]
  refine ⟨s[k], ?_, by rw [hb]; decide⟩
  have h' : k < s.data.size := h
  exact Array.mem_toList_iff.2 (Array.getElem_mem h')
theorem okName_end (s : ByteArray) (h : ∀ j, j < s.size → chOk (s.data.toList.getD j 0) = true) : okName s = decide (1 ≤ s.size ∧ s.size ≤ 32) := by
  unfold okName
  have : s.data.toList.all chOk = true := by
    rw [List.all_eq_true]
    intro x hx
    obtain ⟨j, hj, e⟩ := List.getElem_of_mem hx
    have := h j (by simpa using hj)
    rw [List.getD_eq_getElem?_getD, List.getElem?_eq_getElem hj, Option.getD_some, e] at this
    exact this
  rw [this, Bool.true_and]
set_option maxRecDepth 100000 in
theorem named_c (s : ByteArray) (hs : s.size ≤ 140737488355328) (w : World) : Calls Tryd.prog 33 #[.string s] w fun e w' => e = .returned (.bool (okName s)) ∧ w = w' := by
  go_enter Tryd.func33, Tryd.ntmps33
  go_wp2
  go_loop [3, 6] (fun v3 vi => ∃ k : Nat, k ≤ s.size ∧ vi = .int .i64 k ∧ Hid (∀ j, j < k → chOk (s.data.toList.getD j 0) = true)) (fun _ i => s.size - (intOf i).toNat)
  case atStart => exact ⟨0, by omega, rfl, Lib.hid (fun j hj => by omega)⟩
  case round =>
    obtain ⟨k, hk, rfl, hall⟩ := hrel
    by_cases hlt : k < s.size
    · by_cases hch : chOk s[k] = true
      · have h1 : 33 ≤ s[k].toNat ∧ s[k].toNat ≤ 126 := of_decide_eq_true hch
        have h2 : ¬ ((s[k].toNat : Nat) : Int) ≤ 32 := by omega
        have h3 : ¬ (126 : Int) < ((s[k].toNat : Nat) : Int) := by omega
        have HN := Lib.hid (show ∀ j, j < k + 1 → chOk (s.data.toList.getD j 0) = true from fun j hj => by
          by_cases e : j = k
          · rw [e, str_at s k hlt]; exact hch
          · exact hall.out j (by omega))
        clear h1 hch
        go_wp2
        go_round
        case rel => exact ⟨k + 1, by omega, by go_num, HN⟩
        case measure => simp [intOf]; omega
      · have HB := Lib.hid (okName_bad s k hlt (by simpa using hch))
        have h0 : ¬ (33 ≤ s[k].toNat ∧ s[k].toNat ≤ 126) := fun h => hch (decide_eq_true h)
        clear hch
        by_cases h2 : ((s[k].toNat : Nat) : Int) ≤ 32
        · clear h0
          go_wp2
          go_ret
          exact ⟨congrArg (fun z => Ending.returned (Value.bool z)) HB.out.symm, rfl⟩
        · have h3 : (126 : Int) < ((s[k].toNat : Nat) : Int) := by omega
          clear h0
          go_wp2
          go_ret
          exact ⟨congrArg (fun z => Ending.returned (Value.bool z)) HB.out.symm, rfl⟩
    · obtain rfl : k = s.size := by omega
      have HE := Lib.hid (okName_end s hall.out)
      by_cases h1 : 1 ≤ s.size
      · by_cases h2 : (s.size : Int) ≤ 32
        · have HF := Lib.hid (show okName s = true by rw [HE.out]; exact decide_eq_true ⟨h1, by omega⟩)
          go_wp2
          go_ret
          exact ⟨congrArg (fun z => Ending.returned (Value.bool z)) HF.out.symm, rfl⟩
        · have HF := Lib.hid (show okName s = false by rw [HE.out]; exact decide_eq_false (by omega))
          go_wp2
          go_ret
          exact ⟨congrArg (fun z => Ending.returned (Value.bool z)) HF.out.symm, rfl⟩
      · have HF := Lib.hid (show okName s = false by rw [HE.out]; exact decide_eq_false (by omega))
        go_wp2
        go_ret
        exact ⟨congrArg (fun z => Ending.returned (Value.bool z)) HF.out.symm, rfl⟩
/-! ### Times -/
set_option maxRecDepth 100000 in
theorem times_c (A : Option Addr) (c n : Nat) (l : List Int) (hn : n = l.length) (hl : n ≤ 140737488355328) (w : World) (hR : RI w A l) : Calls Tryd.prog 34 #[.slice A n c] w fun e w' => e = .returned (.bool (l.all okTime)) ∧ w = w' := by
  have HR := Lib.hid hR; have HN := Lib.hid hn
  clear hR hn
  go_enter Tryd.func34, Tryd.ntmps34
  go_wp2
  go_loop [4, 7] (fun v4 vi => ∃ k : Nat, k ≤ n ∧ vi = .int .i64 k ∧ Hid (∀ j, j < k → okTime (l.getD j 0) = true)) (fun _ i => n - (intOf i).toNat)
  case atStart => exact ⟨0, by omega, rfl, Lib.hid (fun j hj => by omega)⟩
  case round =>
    obtain ⟨k, hk, rfl, hall⟩ := hrel
    by_cases hlt : k < n
    · obtain ⟨b1, o1, rfl, hc1⟩ := HR.out k (by rw [← HN.out]; exact hlt)
      obtain ⟨x, ex⟩ : ∃ x, x = l.getD k 0 := ⟨_, rfl⟩
      rw [← ex] at hc1
      have EX := Lib.hid ex
      clear ex
      have hlt2 : (k : Int) < (n : Int) := by omega
      by_cases h1 : x < 0
      · have HB := Lib.hid (show l.all okTime = false by
          rw [List.all_eq_false]
          refine ⟨x, ?_, by unfold okTime; simp; omega⟩
          rw [EX.out, List.getD_eq_getElem?_getD, List.getElem?_eq_getElem (by rw [← HN.out]; exact hlt)]
          exact List.getElem_mem _)
        go_wp2
        go_ret
        exact ⟨congrArg (fun z => Ending.returned (Value.bool z)) HB.out.symm, rfl⟩
      · by_cases h2 : 1099511627776 < x
        · have HB := Lib.hid (show l.all okTime = false by
            rw [List.all_eq_false]
            refine ⟨x, ?_, by unfold okTime; simp; omega⟩
            rw [EX.out, List.getD_eq_getElem?_getD, List.getElem?_eq_getElem (by rw [← HN.out]; exact hlt)]
            exact List.getElem_mem _)
          go_wp2
          go_ret
          exact ⟨congrArg (fun z => Ending.returned (Value.bool z)) HB.out.symm, rfl⟩
        · have HX := Lib.hid (show okTime x = true from decide_eq_true (by omega))
          have HNX := Lib.hid (show ∀ j, j < k + 1 → okTime (l.getD j 0) = true from fun j hj => by
            by_cases e : j = k
            · rw [e, ← EX.out]; exact HX.out
            · exact hall.out j (by omega))
          go_wp2
          go_round
          case rel => exact ⟨k + 1, by omega, by go_num, HNX⟩
          case measure => simp [intOf]; omega
    · obtain rfl : k = n := by omega
      have HF := Lib.hid (show l.all okTime = true by
        rw [List.all_eq_true]
        intro y hy
        obtain ⟨j, hj, e⟩ := List.getElem_of_mem hy
        have := hall.out j (by rw [HN.out]; exact hj)
        rw [List.getD_eq_getElem?_getD, List.getElem?_eq_getElem hj, Option.getD_some, e] at this
        exact this)
      go_wp2
      go_ret
      exact ⟨congrArg (fun z => Ending.returned (Value.bool z)) HF.out.symm, rfl⟩
end Go.Proofs.YteplaginenhfkaaDoor
