/-
  who: texts in a row: Names of a book, SameTexts.
-/
import Derived.Test.YteplaginenhfkaaDoorWhoG
set_option linter.unusedVariables false
set_option linter.unusedSimpArgs false
namespace Go.Proofs.YteplaginenhfkaaDoor
open Go.RowKit

def OwnT (w : World) (base : Nat) (v : Value) (l : List ByteArray) : Prop := w.ownsRow base 9 1 v l.length (l.map Value.string)
def RT (w : World) (A : Option Addr) (l : List ByteArray) : Prop := ∀ i (h : i < l.length), ∃ b off, A = some ⟨b, off, none⟩ ∧ b < w.heap.size ∧ w.cell? ⟨b, off + i, none⟩ = some (.string l[i])
theorem RT.below {w w1 : World} {A : Option Addr} {l : List ByteArray} (h : RT w A l) (hb : Below w.heap.size w w1) : RT w1 A l := fun i hi => by
  obtain ⟨b, off, e, hl, hc⟩ := h i hi
  exact ⟨b, off, e, Nat.lt_of_lt_of_le hl hb.size, (hb.cell (p := ⟨b, off + i, none⟩) hl).trans hc⟩
theorem OwnT.below {w w1 : World} {base : Nat} {v : Value} {l : List ByteArray} (h : OwnT w base v l) (hb : Below w.heap.size w w1) : OwnT w1 base v l :=
  ownsRow_onlyS (S := fun _ => False) h (OnlyS.of_below hb) (fun _ _ h => h)
theorem OwnT.new (w : World) (base : Nat) (hb : base ≤ w.heap.size) : OwnT (w.alloc (.cells #[] 9)) base (.slice (some ⟨w.heap.size, 0, none⟩) 0 0) [] :=
  World.ownsRow_made w #[] 0 hb (Nat.zero_le _) rfl
theorem OwnT.reads {w : World} {base : Nat} {v : Value} {l : List ByteArray} (h : OwnT w base v l) : ∃ A c, v = .slice A l.length c ∧ RT w A l := by
  rcases h.2 with ⟨rfl, h0⟩ | ⟨g, cap, cur, rfl, hB, hh, hn, hc, hs, ht⟩
  · exact ⟨none, 0, by rw [h0], fun i hi => by omega⟩
  · refine ⟨_, _, rfl, fun i hi => ⟨g, 0, rfl, (Array.getElem?_eq_some_iff.1 hh).1, ?_⟩⟩
    rw [Nat.zero_add, cell_of_row w g _ _ _ _ hh]
    have h1 : (cur.toList.take (l.length * 1))[i]? = some (Value.string l[i]) := by
      rw [ht, List.getElem?_map, List.getElem?_eq_getElem hi]
      rfl
    rw [List.getElem?_take, if_pos (by omega), Array.getElem?_toList] at h1
    exact h1
theorem OwnT.grown {w w1 : World} {base : Nat} {v : Value} {l : List ByteArray} (h : OwnT w base v l) (hg : w.grownBy w1 v.ownBlock) (hb : base ≤ w.heap.size) : Below base w w1 :=
  (Below.refl _ _).grown hg hb fun k hk => (World.ownsRow.lt h k hk).1
theorem run_append_none (w : World) (base : Nat) (v : Value) (l : List ByteArray) (c : Nat) (ty : TypeId) (h : OwnT w base v l) : (Builtin.append_ #[57, 57] ty #[v, .slice none 0 c]).run Tryd.prog w = .ok v w := by
  obtain ⟨i, hi, hz0, hz1, hz2⟩ := info_parts info_str
  rcases h.2 with ⟨rfl, hn⟩ | ⟨g, cap, cur, rfl, _, _, hnc, _⟩
  · simp [Builtin.append_, run_underlying Tryd.underlying57, sizeOf, typeInfo, hi, Builtin.lenOf, Builtin.firstCells, run_underlying Tryd.underlying9]
  · simp [Builtin.append_, run_underlying Tryd.underlying57, sizeOf, typeInfo, hi, Builtin.lenOf, Builtin.firstCells, hnc, storeCells]
theorem texts_one (l : List ByteArray) : ∀ u ∈ l.map Value.string, u.oneCell' = true := fun u hu => by
  obtain ⟨x, _, rfl⟩ := List.mem_map.1 hu
  rfl
set_option maxRecDepth 100000 in
/-- append(s, x...) of texts. -/
theorem app_texts {ops : Array Oper} {rest : List Oper} {o : Oper} {a : Act} {w : World} {Q : Exit → Act → World → Prop} (s x : Operand) (base : Nat) (xs ys : List ByteArray) (hgd : o.guard = none)
    (ho : o.op = .call { callee := .builtin .append, args := #[s, x], argTypes := #[57, 57] }) (v : Value) (A : Option Addr) (m c : Nat)
    (hs : a.eval s = v) (hx : a.eval x = .slice A m c) (hm : m = ys.length) (hown : OwnT w base v xs) (hr : RT w A ys) (hbase : base ≤ w.heap.size) (hl : xs.length + ys.length ≤ 100000)
    (h : ∀ v1 w1, OwnT w1 base v1 (xs ++ ys) → Below base w w1 → wpList Tryd.prog ops Q rest (a.put o.dst v1) w1) : wpList Tryd.prog ops Q (o :: rest) a w := by
  subst hm
  obtain ⟨i, hi, hz0, hz1, hz2⟩ := info_parts info_str
  by_cases h0 : ys.length = 0
  · obtain rfl : ys = [] := List.eq_nil_of_length_eq_zero h0
    cases A with
    | none =>
      refine wpList_plain hgd fun K hK => ?_
      have hrun := run_append_none w base v xs c o.type hown
      unfold Oper.wp
      simp [execOp, ho, resolve, invoke, builtin, hs, hx, hrun, Result.andThen]
      exact hK _ _ (h v w (by simpa using hown) (Below.refl _ _))
    | some ad =>
      refine wpList_append_own w hgd s x 57 ho base 9 i (.string ByteArray.empty) 1 16 Tryd.underlying57 hi hz0 hz1 hz2 rfl (by decide) v xs.length (xs.map Value.string) hs hown ad 0 c [] hx rfl (fun j u hj => by simp at hj) (fun u hu => by simp at hu) (by unfold maxLen; omega) (by simp at hl; omega) hbase ?_
      intro v1 w1 h1 h2 _
      exact h v1 w1 (by simpa [OwnT] using h1) (hown.grown h2 hbase)
  · obtain ⟨b, off, rfl, hlt, _⟩ := hr 0 (by omega)
    refine wpList_append_own w hgd s x 57 ho base 9 i (.string ByteArray.empty) 1 16 Tryd.underlying57 hi hz0 hz1 hz2 rfl (by decide) v xs.length (xs.map Value.string) hs hown ⟨b, off, none⟩ ys.length c (ys.map Value.string) hx (by simp) (fun j u hj => ?_) (texts_one ys) (by unfold maxLen; omega) (by omega) hbase ?_
    · have hjl : j < ys.length := by
        have := (List.getElem?_eq_some_iff.1 hj).1
        simpa using this
      rw [List.getElem?_map, List.getElem?_eq_getElem hjl] at hj
      obtain ⟨b', off', e, _, hc⟩ := hr j hjl
      injection e with e
      injection e with e1 e2
      subst e1 e2
      rw [add_plain, hc]
      exact hj
    · intro v1 w1 h1 h2 _
      exact h v1 w1 (by simpa [OwnT] using h1) (hown.grown h2 hbase)
theorem BkA.texts {w : World} {B p mp : Nat} {v : Value} {L : List Ent} (h : BkA w B p mp v L) : OwnT w B v (L.map Ent.name) := by
  have := h.names
  unfold OwnT
  rw [List.length_map, List.map_map]
  exact this
def NamesPost (w : World) (l : List ByteArray) (e : Ending) (w' : World) : Prop := ∃ v, e = .returned v ∧ OwnT w' w.heap.size v l ∧ Below w.heap.size w w'
set_option maxRecDepth 100000 in
set_option maxHeartbeats 2000000 in
theorem names_c (B p mp : Nat) (v : Value) (L : List Ent) (w : World) (h : BkA w B p mp v L) (hL : L.length ≤ 1000) : Calls Tryd.prog 28 #[.pointer (some ⟨p, 0, none⟩)] w (NamesPost w (L.map Ent.name)) := by
  have H := Lib.hid h
  obtain ⟨A, c, e, hRT⟩ := h.texts.reads
  rw [List.length_map] at e
  obtain ⟨n, hn⟩ : ∃ n, n = L.length := ⟨_, rfl⟩
  rw [← hn] at e
  subst e
  have hRT1 := hRT.below (below_alloc (Below.refl _ _) (.cells #[] 9))
  have HN := Lib.hid hn; have HRT := Lib.hid hRT1; have HL := Lib.hid hL
  have hc1 : (w.alloc (.cells #[] 9)).cell? ⟨p, 1, none⟩ = some (.slice A n c) := (cell_of_row _ p 1 _ _ _ (blk_old _ h.row)).trans rfl
  clear h hn hRT hRT1 hL
  go_enter Tryd.func28, Tryd.ntmps28
  go_wp2_with fail
  refine (book_is p mp w H.out.cells.1).mono ?_
  rintro e w1 ⟨rfl, rfl⟩
  go_wp2_with (at_builtin; refine app_texts _ _ w.heap.size [] (L.map Ent.name) rfl rfl _ _ _ _ rfl rfl (by rw [List.length_map]; exact HN.out) (OwnT.new _ _ (Nat.le_refl _)) HRT.out (by simp) (by have := HL.out; simp; omega) ?_; intro v1 w1 ho1 hb1)
  go_ret
  exact ⟨_, rfl, by simpa using ho1, (below_alloc (Below.refl _ _) _).trans hb1⟩
set_option maxRecDepth 100000 in
set_option maxHeartbeats 2000000 in
theorem same_texts_c (A B : Option Addr) (c d : Nat) (l : List ByteArray) (w : World) (hA : RT w A l) (hB : RT w B l) (hl : l.length ≤ 100000) :
    Calls Tryd.prog 27 #[.slice A l.length c, .slice B l.length d] w fun e w' => e = .returned (.bool true) ∧ Below w.heap.size w w' := by
  have HA := Lib.hid hA; have HB := Lib.hid hB
  obtain ⟨n, hn⟩ : ∃ n, n = l.length := ⟨_, rfl⟩
  rw [← hn]
  have HN := Lib.hid hn
  have hn2 : n ≤ 100000 := by rw [hn]; exact hl
  clear hA hB hn hl
  go_enter Tryd.func27, Tryd.ntmps27
  go_wp2_with fail
  go_loopw [5] (fun vi wr => ∃ k : Nat, k ≤ n ∧ vi = .int .i64 k ∧ Hid (Below w.heap.size w wr)) (fun i _ => n - (intOf i).toNat)
  case atStart => exact ⟨0, by omega, rfl, Lib.hid (Below.refl _ _)⟩
  case round =>
    obtain ⟨k, hk, rfl, hb⟩ := hrel
    by_cases hlt : k < n
    · have hlt2 : (k : Int) < (n : Int) := by omega
      obtain ⟨b1, o1, rfl, _, h1⟩ := (HA.out.below hb.out) k (by rw [← HN.out]; exact hlt)
      obtain ⟨b2, o2, rfl, _, h2⟩ := (HB.out.below hb.out) k (by rw [← HN.out]; exact hlt)
      obtain ⟨s, hs⟩ : ∃ s, s = l[k]'(by rw [← HN.out]; exact hlt) := ⟨_, rfl⟩
      rw [← hs] at h1 h2
      clear hs
      go_wp2_with fail
      go_quiet (fail)
      go_wp2_with fail
      go_roundw
      case rel => exact ⟨k + 1, by omega, by go_num, Lib.hid (below_drewN hb.out _)⟩
      case measure => simp [intOf]; omega
    · have hlt2 : ¬ (k : Int) < (n : Int) := by omega
      go_wp2_with fail
      go_ret
      exact ⟨rfl, hb.out⟩
end Go.Proofs.YteplaginenhfkaaDoor
