/-
  store: what a store is in memory; the walks of is, may, Room, place, spend, Make.
-/
import Derived.Test.YtinomleiihbfiaaDoorOwn
import Derived.Test.YtinomleiihbfiaaDoorCut
import Derived.Test.YtinomleiihbfiaaDoorHold
import Derived.Test.YtinomleiihbfiaaDoorStoP
set_option linter.unusedVariables false
set_option linter.unusedSimpArgs false
namespace Go.Proofs.YtinomleiihbfiaaDoor
open Go.RowKit

def rowS (s : Sen.Sto) (g : Nat) : List Value := [.int .i64 s.left, .int .i64 ((s.written : Nat) : Int), .bool s.gone, .int .i64 ((s.size : Nat) : Int), .slice (some ⟨g, 0, none⟩) (2 * s.size) (2 * s.size)]
structure StA (w : World) (p g : Nat) (s : Sen.Sto) : Prop where
  row : w.heap[p]? = some (.cells (rowS s g).toArray 28 (0, 0))
  img : w.heap[g]? = some (.cells (bvs s.img).toArray 5 (0, 0))
  ne : p ≠ g
  ok : s.Ok
/-- Two blocks apart, nothing that was there has turned. -/
structure Only (p g : Nat) (w w' : World) : Prop where
  os : w'.os = w.os
  tape : w'.tape = w.tape
  output : w'.output = w.output
  size : w.heap.size ≤ w'.heap.size
  block : ∀ k, k < w.heap.size → k ≠ p → k ≠ g → w'.heap[k]? = w.heap[k]?
theorem Only.refl (p g : Nat) (w : World) : Only p g w w := ⟨rfl, rfl, rfl, Nat.le_refl _, fun _ _ _ _ => rfl⟩
theorem Only.trans {p g : Nat} {a b c : World} (h : Only p g a b) (h2 : Only p g b c) : Only p g a c :=
  ⟨h2.os.trans h.os, h2.tape.trans h.tape, h2.output.trans h.output, Nat.le_trans h.size h2.size, fun k hk h1 h3 => (h2.block k (Nat.lt_of_lt_of_le hk h.size) h1 h3).trans (h.block k hk h1 h3)⟩
theorem Only.of_below {p g : Nat} {w w' : World} (h : Below w.heap.size w w') : Only p g w w' := ⟨h.os, h.tape, h.output, h.size, fun k hk _ _ => h.block k hk⟩
theorem Only.setRow1 (p g : Nat) (w : World) (cs : Array Value) : Only p g w (w.setRow p cs) := ⟨rfl, rfl, rfl, by simp, fun k hk h _ => setRow_other w p k cs h⟩
theorem Only.setRow2 (p g : Nat) (w : World) (cs : Array Value) : Only p g w (w.setRow g cs) := ⟨rfl, rfl, rfl, by simp, fun k hk _ h => setRow_other w g k cs h⟩
theorem Only.below {p g B : Nat} {w0 w w' : World} (hb : Below B w0 w) (h : Only p g w w') (hp : B ≤ p) (hg : B ≤ g) (hB : B ≤ w.heap.size) : Below B w0 w' :=
  hb.trans ⟨h.os, h.tape, h.output, h.size, fun k hk => h.block k (by omega) (by omega) (by omega)⟩
theorem StA.below {w w' : World} {p g : Nat} {s : Sen.Sto} (h : StA w p g s) (hb : Below w.heap.size w w') : StA w' p g s :=
  ⟨blk_below h.row hb (Array.getElem?_eq_some_iff.1 h.row).1, blk_below h.img hb (Array.getElem?_eq_some_iff.1 h.img).1, h.ne, h.ok⟩
theorem StA.lt {w : World} {p g : Nat} {s : Sen.Sto} (h : StA w p g s) : p < w.heap.size ∧ g < w.heap.size := ⟨(Array.getElem?_eq_some_iff.1 h.row).1, (Array.getElem?_eq_some_iff.1 h.img).1⟩
theorem RB.only {w w' : World} {p g : Nat} {A : Option Addr} {l : List UInt8} (h : RB w A l) (ho : Only p g w w') (hA : ∀ ad, A = some ad → ad.block ≠ p ∧ ad.block ≠ g) : RB w' A l :=
  ⟨h.1, fun i hi => by
    obtain ⟨b, off, e, hc⟩ := h.2 i hi
    refine ⟨b, off, e, ?_⟩
    rw [← hc]
    exact World.cell?_of_block (a := ⟨b, off + i, none⟩) (ho.block b (World.block_lt_of_cell? w _ hc) (hA _ e).1 (hA _ e).2)⟩
/-- A place's bytes. -/
theorem StA.bytes {w : World} {p g : Nat} {s : Sen.Sto} (h : StA w p g s) (off n : Nat) (hn : off + n ≤ 2 * s.size) : RB w (some ⟨g, off, none⟩) ((s.img.drop off).take n) := by
  have hl := h.ok.len
  refine ⟨by simp; have := h.ok.hi; omega, fun i hi => ⟨g, off, rfl, ?_⟩⟩
  have hi' : i < n := by simp at hi; omega
  rw [cell_of_row w g _ _ _ _ h.img]
  have := bvs_at s.img (off + i) (by omega)
  rw [List.getElem?_toArray, this, List.getD_eq_getElem?_getD, List.getD_eq_getElem?_getD, List.getElem?_take, if_pos hi', List.getElem?_drop]
/-- The struct's cells. -/
theorem StA.cells {w : World} {p g : Nat} {s : Sen.Sto} (h : StA w p g s) : w.cell? ⟨p, 0, none⟩ = some (.int .i64 s.left) ∧ w.cell? ⟨p, 1, none⟩ = some (.int .i64 ((s.written : Nat) : Int)) ∧ w.cell? ⟨p, 2, none⟩ = some (.bool s.gone) ∧
    w.cell? ⟨p, 3, none⟩ = some (.int .i64 ((s.size : Nat) : Int)) ∧ w.cell? ⟨p, 4, none⟩ = some (.slice (some ⟨g, 0, none⟩) (2 * s.size) (2 * s.size)) := by
  refine ⟨?_, ?_, ?_, ?_, ?_⟩ <;> (rw [cell_of_row w p _ _ _ _ h.row]; rfl)

theorem is_c (p g : Nat) (s : Sen.Sto) (w : World) (h : StA w p g s) : Calls Tryd.prog 25 #[.pointer (some ⟨p, 0, none⟩)] w fun e w' => e = .returned (.bool true) ∧ w = w' := by
  obtain ⟨_, _, _, c3, _⟩ := h.cells
  have hs : 0 < s.size := by have := h.ok.lo; omega
  clear h
  go_enter Tryd.func25, Tryd.ntmps25
  go_wp2
  go_ret
  exact ⟨rfl, rfl⟩
theorem is_nil_c (w : World) : Calls Tryd.prog 25 #[.pointer none] w fun e w' => e = .returned (.bool false) ∧ w = w' := by
  go_enter Tryd.func25, Tryd.ntmps25
  go_wp2
  go_ret
  exact ⟨rfl, rfl⟩
/-- A store that no call made: its size is 0. -/
theorem is_zero_c (p : Nat) (w : World) (h : w.cell? ⟨p, 3, none⟩ = some (.int .i64 0)) : Calls Tryd.prog 25 #[.pointer (some ⟨p, 0, none⟩)] w fun e w' => e = .returned (.bool false) ∧ w = w' := by
  go_enter Tryd.func25, Tryd.ntmps25
  go_wp2
  go_ret
  exact ⟨rfl, rfl⟩
theorem may_c (p g : Nat) (s : Sen.Sto) (n : Int) (w : World) (h : StA w p g s) :
    Calls Tryd.prog 22 #[.pointer (some ⟨p, 0, none⟩), .int .i64 n] w fun e w' => e = .returned (.int .i64 (if n < 0 ∨ 1048576 < n then 2 else 0)) ∧ w = w' := by
  have H := Lib.hid h
  clear h
  by_cases h1 : n < 0
  · rw [if_pos (Or.inl h1)]
    go_enter Tryd.func22, Tryd.ntmps22
    go_wp2_with (go_at_call 25; refine (is_c p g s _ H.out).mono ?_; rintro e w' ⟨rfl, rfl⟩)
    go_ret
    exact ⟨rfl, rfl⟩
  · by_cases h2 : 1048576 < n
    · rw [if_pos (Or.inr h2)]
      go_enter Tryd.func22, Tryd.ntmps22
      go_wp2_with (go_at_call 25; refine (is_c p g s _ H.out).mono ?_; rintro e w' ⟨rfl, rfl⟩)
      go_ret
      exact ⟨rfl, rfl⟩
    · rw [if_neg (by omega)]
      go_enter Tryd.func22, Tryd.ntmps22
      go_wp2_with (go_at_call 25; refine (is_c p g s _ H.out).mono ?_; rintro e w' ⟨rfl, rfl⟩)
      go_ret
      exact ⟨rfl, rfl⟩
theorem room_c (p g : Nat) (s : Sen.Sto) (w : World) (h : StA w p g s) :
    Calls Tryd.prog 17 #[.pointer (some ⟨p, 0, none⟩)] w fun e w' => e = .returned (.int .i64 ((s.size : Int) - 32)) ∧ w = w' := by
  have H := Lib.hid h
  obtain ⟨_, _, _, c3, _⟩ := h.cells
  have hlo := h.ok.lo
  have hhi := h.ok.hi
  clear h
  go_enter Tryd.func17, Tryd.ntmps17
  go_wp2_with (go_at_call 25; refine (is_c p g s _ H.out).mono ?_; rintro e w' ⟨rfl, rfl⟩)
  go_ret
  exact ⟨congrArg (fun z => Ending.returned (Value.int .i64 z)) (by omega), rfl⟩
def PlacePost (w : World) (g size k : Nat) (e : Ending) (w' : World) : Prop := e = .returned (.slice (some ⟨g, k * size, none⟩) size (2 * size - k * size)) ∧ ∃ m, w' = w.drewN m
theorem place_c (p g : Nat) (s : Sen.Sto) (n : Nat) (hn : n ≤ 1048576) (w : World) (h : StA w p g s) :
    Calls Tryd.prog 24 #[.pointer (some ⟨p, 0, none⟩), .int .i64 (n : Int)] w (PlacePost w g s.size (n % 2)) := by
  obtain ⟨_, _, _, c3, c4⟩ := h.cells
  have hlo := h.ok.lo
  have hhi := h.ok.hi
  obtain ⟨S, hS⟩ : ∃ S, S = s.size := ⟨_, rfl⟩
  rw [← hS] at c3 c4 hlo hhi ⊢
  clear h hS
  have hsl : ∀ k, k < 2 → ∀ W, (Instr.slice 26 (.slice (some ⟨g, 0, none⟩) (2 * S) (2 * S)) (some (.int .i64 ((k * S : Nat) : Int))) (some (.int .i64 ((k * S + S : Nat) : Int))) none).run Tryd.prog W = .ok (.slice (some ⟨g, k * S, none⟩) S (2 * S - k * S)) W := fun k hk W => by
    have hks : k * S + S ≤ 2 * S := by
      obtain rfl | rfl : k = 0 ∨ k = 1 := by omega
      all_goals omega
    have := run_slice_lh (some ⟨g, 0, none⟩) (2 * S) (2 * S) (k * S) (k * S + S) (by omega) hks W
    rw [this]
    unfold cutA
    rw [if_neg (by omega), Option.map_some, add_plain, Nat.zero_add, show k * S + S - k * S = S by omega]
  have hc : n % 2 = 0 ∨ n % 2 = 1 := by omega
  rcases hc with hc | hc
  · have hm : (n : Int) % 2 = 0 := by omega
    have hsl0 := hsl 0 (by decide)
    simp only [Nat.zero_mul, Nat.zero_add, Nat.sub_zero] at hsl0
    rw [hc]
    clear hsl hc
    go_enter Tryd.func24, Tryd.ntmps24
    go_wp2
    go_quiet (fail)
    go_wp2
    go_ret
    exact ⟨by simp, _, rfl⟩
  · have hm : (n : Int) % 2 = 1 := by omega
    have hsl0 := hsl 1 (by decide)
    rw [show ((1 * S + S : Nat) : Int) = (S : Int) + (S : Int) by omega, Nat.one_mul] at hsl0
    rw [hc]
    clear hsl hc
    go_enter Tryd.func24, Tryd.ntmps24
    go_wp2
    go_quiet (fail)
    go_wp2
    go_ret
    exact ⟨by simp, _, rfl⟩
end Go.Proofs.YtinomleiihbfiaaDoor
