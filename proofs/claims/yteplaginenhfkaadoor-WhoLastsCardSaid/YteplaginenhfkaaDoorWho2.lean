/-
  who: the reference's Name and time; a person; the book's is, Make.
-/
import Derived.Test.YteplaginenhfkaaDoorWho1
set_option linter.unusedVariables false
set_option linter.unusedSimpArgs false
namespace Go.Proofs.YteplaginenhfkaaDoor
open Go.RowKit

set_option maxRecDepth 100000 in
theorem ref_name_c (s : ByteArray) (hs : s.size ≤ 140737488355328) (w : World) : Calls Tryd.prog 36 #[.string s] w fun e w' => e = .returned (.bool (okName s)) ∧ w = w' := by
  by_cases h0 : s.size = 0
  · have e : s = ByteArray.empty := by
      cases s with
      | mk d => 
        have : d = #[] := Array.eq_empty_of_size_eq_zero h0
        rw [this]; rfl
    subst e
    go_enter Tryd.func36, Tryd.ntmps36
    go_wp2
    go_ret
    exact ⟨rfl, rfl⟩
  · have hne : s.toList.isEmpty = false := by
      rw [Lib.toList_data]
      cases hl : s.data.toList with
      | nil =>
        exfalso
        apply h0
        have : s.data.size = 0 := by rw [← Array.length_toList, hl]; rfl
        exact this
      | cons x r => rfl
    by_cases h1 : 32 < s.size
    · have HF := Lib.hid (show okName s = false by unfold okName; rw [Bool.and_eq_false_iff]; right; exact decide_eq_false (by omega))
      have h2 : (32 : Int) < (s.size : Int) := by omega
      go_enter Tryd.func36, Tryd.ntmps36
      go_wp2
      go_ret
      exact ⟨congrArg (fun z => Ending.returned (Value.bool z)) HF.out.symm, rfl⟩
    · have h2 : ¬ (32 : Int) < (s.size : Int) := by omega
      go_enter Tryd.func36, Tryd.ntmps36
      go_wp2
      go_loop [3] (fun vi => ∃ k : Nat, k ≤ s.size ∧ vi = .int .i64 k ∧ Hid (∀ j, j < k → chOk (s.data.toList.getD j 0) = true)) (fun i => s.size - (intOf i).toNat)
      case atStart => exact ⟨0, by omega, rfl, Lib.hid (fun j hj => by omega)⟩
      case round =>
        obtain ⟨k, hk, rfl, hall⟩ := hrel
        by_cases hlt : k < s.size
        · by_cases hch : chOk s[k] = true
          · have h3 : 33 ≤ s[k].toNat ∧ s[k].toNat ≤ 126 := of_decide_eq_true hch
            have h4 : ¬ ((s[k].toNat : Nat) : Int) < 33 := by omega
            have h5 : ¬ (126 : Int) < ((s[k].toNat : Nat) : Int) := by omega
            have HN := Lib.hid (show ∀ j, j < k + 1 → chOk (s.data.toList.getD j 0) = true from fun j hj => by
              by_cases e : j = k
              · rw [e, str_at s k hlt]; exact hch
              · exact hall.out j (by omega))
            clear h3 hch
            go_wp2
            go_round
            case rel => exact ⟨k + 1, by omega, by go_num, HN⟩
            case measure => simp [intOf]; omega
          · have HB := Lib.hid (okName_bad s k hlt (by simpa using hch))
            have h3 : ¬ (33 ≤ s[k].toNat ∧ s[k].toNat ≤ 126) := fun h => hch (decide_eq_true h)
            clear hch
            by_cases h4 : ((s[k].toNat : Nat) : Int) < 33
            · clear h3
              go_wp2
              go_ret
              exact ⟨congrArg (fun z => Ending.returned (Value.bool z)) HB.out.symm, rfl⟩
            · have h5 : (126 : Int) < ((s[k].toNat : Nat) : Int) := by omega
              clear h3
              go_wp2
              go_ret
              exact ⟨congrArg (fun z => Ending.returned (Value.bool z)) HB.out.symm, rfl⟩
        · obtain rfl : k = s.size := by omega
          have HF := Lib.hid (show okName s = true by rw [okName_end s hall.out]; exact decide_eq_true ⟨by omega, by omega⟩)
          go_wp2
          go_ret
          exact ⟨congrArg (fun z => Ending.returned (Value.bool z)) HF.out.symm, rfl⟩
theorem ref_time_c (n : Int) (w : World) : Calls Tryd.prog 37 #[.int .i64 n] w fun e w' => e = .returned (.bool (okTime n)) ∧ w = w' := by
  unfold okTime
  by_cases h1 : 0 ≤ n
  · by_cases h2 : n ≤ 1099511627776
    · rw [decide_eq_true (show 0 ≤ n ∧ n ≤ 1099511627776 from ⟨h1, h2⟩)]
      go_enter Tryd.func37, Tryd.ntmps37
      go_wp2
      go_ret
      exact ⟨rfl, rfl⟩
    · rw [decide_eq_false (show ¬ (0 ≤ n ∧ n ≤ 1099511627776) from fun h => h2 h.2)]
      go_enter Tryd.func37, Tryd.ntmps37
      go_wp2
      go_ret
      exact ⟨rfl, rfl⟩
  · rw [decide_eq_false (show ¬ (0 ≤ n ∧ n ≤ 1099511627776) from fun h => h1 h.1)]
    go_enter Tryd.func37, Tryd.ntmps37
    go_wp2
    go_ret
    exact ⟨rfl, rfl⟩
/-! ### A person -/
def persV (s : ByteArray) (A : Option Addr) (n c : Nat) (fl li re : Int) : Value := .agg #[.string s, .slice A n c, .int .i64 fl, .int .i64 li, .int .i64 re]
def PersPost (w : World) (s : ByteArray) (u : UInt8) (fl li re : Int) (e : Ending) (w' : World) : Prop :=
  ∃ g, e = .returned (persV s (some ⟨g, 0, none⟩) 16 16 fl li re) ∧ RB w' (some ⟨g, 0, none⟩) (List.replicate 16 u) ∧ w.heap.size ≤ g ∧ Below w.heap.size w w'
theorem zeroPers (w : World) : (zeroValue 50).run Tryd.prog w = .ok (.agg #[.string ByteArray.empty, .slice none 0 0, .int .i64 0, .int .i64 0, .int .i64 0]) w := by kernel_rfl
set_option maxRecDepth 100000 in
set_option maxHeartbeats 2000000 in
theorem person_c (s : ByteArray) (u : UInt8) (fl li re : Int) (w : World) : Calls Tryd.prog 24 #[.string s, .int .u8 ((u.toNat : Nat) : Int), .int .i64 fl, .int .i64 li, .int .i64 re] w (PersPost w s u fl li re) := by
  have hz := zeroPers
  have hmk := fun W => run_make_bytes 16 (by decide) 16 rfl W
  rw [show (bvs (List.replicate 16 0)).toArray = #[.int .u8 0, .int .u8 0, .int .u8 0, .int .u8 0, .int .u8 0, .int .u8 0, .int .u8 0, .int .u8 0, .int .u8 0, .int .u8 0, .int .u8 0, .int .u8 0, .int .u8 0, .int .u8 0, .int .u8 0, .int .u8 0] from rfl] at hmk
  obtain ⟨z, hzz⟩ : ∃ z : Int, z = ((u.toNat : Nat) : Int) := ⟨_, rfl⟩
  rw [← hzz]
  have HZ := Lib.hid hzz
  clear hzz
  go_enter Tryd.func24, Tryd.ntmps24
  go_wp2
  obtain ⟨X0, hX0⟩ : ∃ X0, X0 = w.alloc (.cells #[.string ByteArray.empty, .slice none 0 0, .int .i64 0, .int .i64 0, .int .i64 0] 50) := ⟨_, rfl⟩
  have hX0s : X0.heap.size = w.heap.size + 1 := by rw [hX0]; simp
  have hP0 : X0.heap[w.heap.size]? = some (.cells #[.string ByteArray.empty, .slice none 0 0, .int .i64 0, .int .i64 0, .int .i64 0] 50 (0, 0)) := by rw [hX0]; exact blk_new _ rfl
  have hB0 : Below w.heap.size w X0 := by rw [hX0]; exact below_alloc (Below.refl _ _) _
  rw [← hX0, ← hX0s]
  have hG : (X0.alloc (.cells #[.int .u8 0, .int .u8 0, .int .u8 0, .int .u8 0, .int .u8 0, .int .u8 0, .int .u8 0, .int .u8 0, .int .u8 0, .int .u8 0, .int .u8 0, .int .u8 0, .int .u8 0, .int .u8 0, .int .u8 0, .int .u8 0] 5)).heap[X0.heap.size]? = some (.cells #[.int .u8 0, .int .u8 0, .int .u8 0, .int .u8 0, .int .u8 0, .int .u8 0, .int .u8 0, .int .u8 0, .int .u8 0, .int .u8 0, .int .u8 0, .int .u8 0, .int .u8 0, .int .u8 0, .int .u8 0, .int .u8 0] 5 (0, 0)) := blk_new _ rfl
  obtain ⟨g, hg⟩ : ∃ g, g = X0.heap.size := ⟨_, rfl⟩
  obtain ⟨p0, hp0⟩ : ∃ p0, p0 = w.heap.size := ⟨_, rfl⟩
  obtain ⟨X, hX⟩ : ∃ X, X = X0.alloc (.cells #[.int .u8 0, .int .u8 0, .int .u8 0, .int .u8 0, .int .u8 0, .int .u8 0, .int .u8 0, .int .u8 0, .int .u8 0, .int .u8 0, .int .u8 0, .int .u8 0, .int .u8 0, .int .u8 0, .int .u8 0, .int .u8 0] 5) := ⟨_, rfl⟩
  have hP : X.heap[p0]? = some (.cells #[.string ByteArray.empty, .slice none 0 0, .int .i64 0, .int .i64 0, .int .i64 0] 50 (0, 0)) := by rw [hX, hp0]; exact blk_old _ hP0
  have hB : Below w.heap.size w X := by rw [hX]; exact below_alloc hB0 _
  have hgp : g ≠ p0 := by omega
  have hgw : w.heap.size ≤ g := by omega
  have hpw : w.heap.size ≤ p0 := by omega
  rw [← hX, ← hg] at hG
  rw [← hX, ← hg, ← hp0]
  have G := Lib.hid hG; have HP := Lib.hid hP; have HB := Lib.hid hB; have HGP := Lib.hid hgp; have HGW := Lib.hid hgw; have HPW := Lib.hid hpw
  rw [← row_same hG]
  clear hX hG hP hB hgp hgw hpw hX0 hX0s hP0 hB0 hg hp0 hz hmk
  have hset := fun cs i v => row_set G.out cs i v
  have hcell := fun cs j => row_cell G.out cs j
  have hfro := fun cs j => row_frozen G.out cs j
  refine wp_loop_rounds 17 ?_
  iterate 16 (rw [rounds_succ]; go_wp2)
  clear hset hcell hfro
  rw [rounds_succ]
  obtain ⟨Y, hY⟩ : ∃ Y, Y = X.setRow g #[.int .u8 z, .int .u8 z, .int .u8 z, .int .u8 z, .int .u8 z, .int .u8 z, .int .u8 z, .int .u8 z, .int .u8 z, .int .u8 z, .int .u8 z, .int .u8 z, .int .u8 z, .int .u8 z, .int .u8 z, .int .u8 z] := ⟨_, rfl⟩
  rw [← hY]
  have hPY : Y.heap[p0]? = some (.cells #[.string ByteArray.empty, .slice none 0 0, .int .i64 0, .int .i64 0, .int .i64 0] 50 (0, 0)) := by rw [hY]; exact (setRow_other _ _ _ _ (Ne.symm HGP.out)).trans HP.out
  have hRY : RB Y (some ⟨g, 0, none⟩) (List.replicate 16 u) := by
    refine rb_of_row (t := 5) (fr := (0, 0)) (l := List.replicate 16 u) ?_ (by simp)
    rw [hY]
    refine (setRow_heap X _ _ _ _ _ G.out).trans ?_
    rw [HZ.out]
    rfl
  have hBY : Below w.heap.size w Y := by rw [hY]; exact below_setRow HB.out HGW.out _
  rw [← row_same hPY]
  have PY := Lib.hid hPY; have RY := Lib.hid hRY; have BY := Lib.hid hBY
  clear hY hPY hRY hBY
  have hset := fun cs i v => row_set PY.out cs i v
  have hcell := fun cs j => row_cell PY.out cs j
  have hfro := fun cs j => row_frozen PY.out cs j
  go_wp2
  refine bodyPost_ret (v := persV s (some ⟨g, 0, none⟩) 16 16 fl li re) ?_ rfl ?_
  · exact results_cell_row rfl _ _ p0 _ _ (0, 0) _ rfl (setRow_heap _ _ _ _ _ _ PY.out) Tryd.underlying50 rfl (by kernel_rfl)
  · exact ⟨g, rfl, RY.out.setRow p0 _ (fun ad had => by injection had with had; subst had; exact HGP.out), HGW.out, below_setRow BY.out HPW.out _⟩
/-! ### The book: is, Make -/
theorem map_ne_none (W : World) : (Go.binOp .neq 64 (.map none) (.map none)).run Tryd.prog W = .ok (.bool false) W := by kernel_rfl
theorem map_ne_some (m : Nat) (W : World) : (Go.binOp .neq 64 (.map (some m)) (.map none)).run Tryd.prog W = .ok (.bool true) W := by kernel_rfl
theorem run_newMap (W : World) : (Instr.makeMap 64 none).run Tryd.prog W = .ok (.map (some W.heap.size)) (W.alloc (.map #[] 0)) := by kernel_rfl

def Nobook (P : Value) (w : World) : Prop := Calls Tryd.prog 40 #[P] w fun e w' => e = .returned (.bool false) ∧ w = w'
set_option maxRecDepth 100000 in
theorem nobook_nil (w : World) : Nobook (.pointer none) w := by
  unfold Nobook
  have hm0 := map_ne_none
  have hm1 := map_ne_some
  have hmm := run_newMap
  go_enter Tryd.func40, Tryd.ntmps40
  go_wp2
  go_ret
  exact ⟨rfl, rfl⟩
set_option maxRecDepth 100000 in
theorem nobook_zero (p : Nat) (w : World) (h : w.cell? ⟨p, 0, none⟩ = some (.map none)) : Nobook (.pointer (some ⟨p, 0, none⟩)) w := by
  unfold Nobook
  have hm0 := map_ne_none
  have hm1 := map_ne_some
  have hmm := run_newMap
  go_enter Tryd.func40, Tryd.ntmps40
  go_wp2
  go_ret
  exact ⟨rfl, rfl⟩
set_option maxRecDepth 100000 in
theorem book_is (p mp : Nat) (w : World) (h : w.cell? ⟨p, 0, none⟩ = some (.map (some mp))) : Calls Tryd.prog 40 #[.pointer (some ⟨p, 0, none⟩)] w fun e w' => e = .returned (.bool true) ∧ w = w' := by
  have hm0 := map_ne_none
  have hm1 := map_ne_some
  have hmm := run_newMap
  go_enter Tryd.func40, Tryd.ntmps40
  go_wp2
  go_ret
  exact ⟨rfl, rfl⟩
def MakePost (w : World) (e : Ending) (w' : World) : Prop :=
  e = .returned (.pointer (some ⟨w.heap.size + 1, 0, none⟩)) ∧ w' = (w.alloc (.map #[] 0)).alloc (.cells #[.map (some w.heap.size), .slice none 0 0] 66)
set_option maxRecDepth 100000 in
theorem make_c (w : World) : Calls Tryd.prog 22 #[] w (MakePost w) := by
  have hm0 := map_ne_none
  have hm1 := map_ne_some
  have hmm := run_newMap
  go_enter Tryd.func22, Tryd.ntmps22
  go_wp2
  go_ret
  exact ⟨rfl, rfl⟩
end Go.Proofs.YteplaginenhfkaaDoor
