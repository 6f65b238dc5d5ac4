/-
  who: the reference's book in memory; two books side by side. who: the reference's Find, Make, plain. who: the reference's Add, Make; plain.
-/
import Derived.Test.YteplaginenhfkaaDoorWhoA
set_option linter.unusedVariables false
set_option linter.unusedSimpArgs false
namespace Go.Proofs.YteplaginenhfkaaDoor
open Go.RowKit

def Ent.cells (e : Ent) : List Value := [.string e.name, .slice (some ⟨e.blk, 0, none⟩) 16 e.cap, .int .i64 e.fl, .int .i64 e.li, .int .i64 e.re]
def rowsOf (M : List Ent) : List Value := M.flatMap Ent.cells
theorem rowsOf_snoc (M : List Ent) (e : Ent) : rowsOf (M ++ [e]) = rowsOf M ++ e.cells := by simp [rowsOf]
theorem rowsOf_length : ∀ M : List Ent, (rowsOf M).length = M.length * 5
  | [] => rfl
  | e :: r => by
    show (e.cells ++ rowsOf r).length = (r.length + 1) * 5
    rw [List.length_append, rowsOf_length r]
    show 5 + r.length * 5 = _
    omega
theorem rowsOf_at : ∀ (M : List Ent) (k j : Nat) (hk : k < M.length), j < 5 → (rowsOf M)[k * 5 + j]? = (M[k]).cells[j]?
  | e :: r, 0, j, _, hj => by
    show (e.cells ++ rowsOf r)[0 * 5 + j]? = e.cells[j]?
    rw [Nat.zero_mul, Nat.zero_add, List.getElem?_append_left (by show j < 5; exact hj)]
  | e :: r, k + 1, j, hk, hj => by
    show (e.cells ++ rowsOf r)[(k + 1) * 5 + j]? = (r[k]'(by simpa using hk)).cells[j]?
    rw [List.getElem?_append_right (by show 5 ≤ _; omega), ← rowsOf_at r k j (by simpa using hk) hj]
    congr 1
    show (k + 1) * 5 + j - 5 = _
    omega
structure RbA (w : World) (B q : Nat) (v : Value) (M : List Ent) : Prop where
  row : w.heap[q]? = some (.cells #[v] 60 (0, 0))
  rows : w.ownsRow B 45 5 v M.length (rowsOf M)
  first : M = [] → v = .slice none 0 0
  keys : ∀ e ∈ M, RB w (some ⟨e.blk, 0, none⟩) e.key ∧ e.key.length = 16 ∧ B ≤ e.blk
  hq : B ≤ q
def rbS (q : Nat) (v : Value) (k : Nat) : Prop := k = q ∨ v.ownBlock = some k
theorem RbA.kept {S : Nat → Prop} {w w' : World} {B q : Nat} {v : Value} {M : List Ent} (h : RbA w B q v M) (ho : OnlyS S w w') (h1 : ∀ k, rbS q v k → ¬ S k) (h2 : ∀ e ∈ M, ¬ S e.blk) : RbA w' B q v M :=
  ⟨ho.blk h.row (h1 q (Or.inl rfl)), ownsRow_onlyS h.rows ho (fun g hg => h1 g (Or.inr hg)), h.first,
    fun e he => ⟨(h.keys e he).1.onlyS ho (fun ad had => by injection had with had; subst had; exact h2 e he), (h.keys e he).2⟩, h.hq⟩
theorem RbA.below {w w' : World} {B q : Nat} {v : Value} {M : List Ent} (h : RbA w B q v M) (hb : Below w.heap.size w w') : RbA w' B q v M :=
  h.kept (S := fun _ => False) (OnlyS.of_below hb) (fun _ _ h => h) (fun _ _ h => h)
/-- What a row of keys begins with. -/
theorem rb_first {w : World} {b : Nat} {l : List UInt8} (h : RB w (some ⟨b, 0, none⟩) l) (hl : l.length = 16) : b < w.heap.size ∧ ∃ x, w.cell? ⟨b, 0, none⟩ = some (.int .u8 x) := by
  obtain ⟨b', off, ee, hc0⟩ := h.2 0 (by omega)
  injection ee with ee
  injection ee with e1 e2
  subst e1 e2
  exact ⟨World.block_lt_of_cell? w _ hc0, _, hc0⟩
/-- The reference's rows: where they lie. -/
theorem RbA.own {w : World} {B q : Nat} {v : Value} {M : List Ent} (h : RbA w B q v M) :
    (v = .slice none 0 0 ∧ M = []) ∨ ∃ g cap cur, v = .slice (some ⟨g, 0, none⟩) M.length cap ∧ B ≤ g ∧ w.heap[g]? = some (.cells cur 45 (0, 0)) ∧ 0 < M.length ∧
      ∀ k j (hk : k < M.length), j < 5 → w.cell? ⟨g, k * 5 + j, none⟩ = (M[k]).cells[j]? := by
  rcases h.rows.2 with ⟨e, h0⟩ | ⟨g, cap, cur, e, hB, hh, hn, hc, hs, ht⟩
  · exact .inl ⟨e, List.eq_nil_of_length_eq_zero h0⟩
  · by_cases h0 : M = []
    · have := h.first h0
      rw [e] at this
      cases this
    · refine .inr ⟨g, cap, cur, e, hB, hh, List.length_pos_iff.2 h0, fun k j hk hj => ?_⟩
      rw [cell_of_row w g _ _ _ _ hh, ← rowsOf_at M k j hk hj, ← ht, List.getElem?_take, if_pos (by have := Nat.mul_le_mul_right 5 (show k + 1 ≤ M.length from hk); omega), Array.getElem?_toList]
theorem RbA.own_first {w : World} {B q : Nat} {v : Value} {M : List Ent} (h : RbA w B q v M) (g : Nat) (hg : v.ownBlock = some g) : (∃ cur, w.heap[g]? = some (.cells cur 45 (0, 0))) ∧ B ≤ g ∧ ∃ s, w.cell? ⟨g, 0, none⟩ = some (.string s) := by
  rcases h.own with ⟨rfl, _⟩ | ⟨g', cap, cur, rfl, hB, hh, h0, hc⟩
  · cases hg
  · obtain rfl : g' = g := by injection hg
    refine ⟨⟨cur, hh⟩, hB, (M[0]).name, ?_⟩
    have := hc 0 0 h0 (by decide)
    exact this
theorem BkA.own_first {w : World} {B p mp : Nat} {v : Value} {L : List Ent} (h : BkA w B p mp v L) (g : Nat) (hg : v.ownBlock = some g) : (∃ cur, w.heap[g]? = some (.cells cur 9 (0, 0))) ∧ ∃ s, w.cell? ⟨g, 0, none⟩ = some (.string s) := by
  rcases h.names.2 with ⟨rfl, h0⟩ | ⟨g', cap, cur, rfl, hB, hh, hn, hc, hs, ht⟩
  · cases hg
  · obtain rfl : g' = g := by injection hg
    refine ⟨⟨cur, hh⟩, ?_⟩
    have hL : 0 < L.length := List.length_pos_iff.2 (fun e => by have := h.first e; cases this)
    refine ⟨(L[0]).name, ?_⟩
    have h1 : (cur.toList.take (L.length * 1))[0]? = some (Value.string (L[0]'hL).name) := by
      rw [ht, List.getElem?_map, List.getElem?_eq_getElem hL]
      rfl
    rw [List.getElem?_take, if_pos (by omega), Array.getElem?_toList] at h1
    rw [cell_of_row w g' _ _ _ _ hh]
    exact h1
/-- Two books side by side. -/
theorem two_apart {w : World} {B p mp q : Nat} {v u : Value} {L M : List Ent} (h : BkA w B p mp v L) (r : RbA w B q u M) :
    (∀ k, bookS p mp v k → ¬ rbS q u k) ∧ (∀ e ∈ L, ¬ rbS q u e.blk) ∧ (∀ e ∈ M, ¬ bookS p mp v e.blk) := by
  refine ⟨?_, fun e he => ?_, fun e he => ?_⟩
  · rintro k hk hr
    have hrow : (∃ cur t, w.heap[k]? = some (.cells cur t (0, 0)) ∧ (t = 60 ∨ t = 45)) := by
      rcases hr with rfl | hr
      · exact ⟨_, _, r.row, Or.inl rfl⟩
      · obtain ⟨⟨cur, hc⟩, _⟩ := r.own_first k hr
        exact ⟨_, _, hc, Or.inr rfl⟩
    obtain ⟨cur, t, h1, ht⟩ := hrow
    rcases hk with rfl | rfl | hk
    · rw [h.row] at h1
      injection h1 with h1
      injection h1 with _ h2
      rw [← h2] at ht
      rcases ht with ht | ht <;> cases ht
    · have := h.map
      unfold MapAt at this
      rw [this] at h1
      cases h1
    · obtain ⟨⟨cur2, hc⟩, _⟩ := h.own_first k hk
      rw [hc] at h1
      injection h1 with h1
      injection h1 with _ h2
      rw [← h2] at ht
      rcases ht with ht | ht <;> cases ht
  · obtain ⟨k1, k2, _⟩ := h.keys e he
    obtain ⟨_, x, hx⟩ := rb_first k1 k2
    rintro (hq | hq)
    · rw [hq, cell_of_row w q _ _ _ _ r.row] at hx
      rcases r.own with ⟨hv, _⟩ | ⟨g, cap, cur, hv, _⟩ <;> (rw [hv] at hx; cases hx)
    · obtain ⟨_, _, s, hs⟩ := r.own_first _ hq
      rw [hs] at hx
      cases hx
  · obtain ⟨k1, k2, _⟩ := r.keys e he
    obtain ⟨_, x, hx⟩ := rb_first k1 k2
    rintro (hq | hq | hq)
    · rw [hq, h.cells.1] at hx
      cases hx
    · have := h.map
      unfold MapAt at this
      rw [hq] at hx
      simp [World.cell?, this] at hx
    · obtain ⟨_, s, hs⟩ := h.own_first _ hq
      rw [hs] at hx
      cases hx
theorem BkA.beside {w w' : World} {B p mp q : Nat} {v u : Value} {L M : List Ent} (h : BkA w B p mp v L) (r : RbA w B q u M) (ho : OnlyS (rbS q u) w w') : BkA w' B p mp v L :=
  h.kept ho (two_apart h r).1 (two_apart h r).2.1
theorem RbA.beside {w w' : World} {B p mp q : Nat} {v u : Value} {L M : List Ent} (r : RbA w B q u M) (h : BkA w B p mp v L) (ho : OnlyS (bookS p mp v) w w') : RbA w' B q u M :=
  r.kept ho (fun k hk hb => (two_apart h r).1 k hb hk) (two_apart h r).2.2
theorem RbA.stays {w0 w1 w2 : World} {B q : Nat} {u : Value} {M : List Ent} (r : RbA w1 B q u M) (ho : OnlyS (rbS q u) w1 w2) (hb : Below B w0 w1) (hB : B ≤ w1.heap.size) : Below B w0 w2 :=
  OnlyS.below hb ho (fun k hk => by
    rcases hk with rfl | hk
    · exact r.hq
    · exact (r.own_first k hk).2.1) hB
/-- Who they are. -/
structure Who where
  name : ByteArray
  key : List UInt8
  fl : Int
  li : Int
  re : Int
def Ent.who (e : Ent) : Who := ⟨e.name, e.key, e.fl, e.li, e.re⟩
def Twins (L M : List Ent) : Prop := L.map Ent.who = M.map Ent.who
theorem Twins.find : ∀ {L M : List Ent}, Twins L M → ∀ s, (findE L s).map Ent.who = (findE M s).map Ent.who
  | [], [], _, s => rfl
  | [], y :: M, h, s => by cases h
  | x :: L, [], h, s => by cases h
  | x :: L, y :: M, h, s => by
    have h1 : x.who = y.who := by injection h
    have h2 : Twins L M := by injection h
    have hn : x.name = y.name := congrArg Who.name h1
    unfold findE
    rw [List.find?_cons, List.find?_cons, hn]
    by_cases e : s = y.name
    · simp [e, h1]
    · simp only [e, decide_false]
      exact h2.find s
theorem Twins.length {L M : List Ent} (h : Twins L M) : L.length = M.length := by
  have := congrArg List.length h
  simpa using this
theorem Twins.snoc {L M : List Ent} (h : Twins L M) {x y : Ent} (hxy : x.who = y.who) : Twins (L ++ [x]) (M ++ [y]) := by
  unfold Twins at *
  rw [List.map_append, List.map_append, h]
  simp [hxy]
theorem Twins.addS {L M : List Ent} (h : Twins L M) (nm : ByteArray) (n : Nat) (fl li re : Int) : Go.Proofs.YteplaginenhfkaaDoor.addS L nm n fl li re = Go.Proofs.YteplaginenhfkaaDoor.addS M nm n fl li re := by
  unfold Go.Proofs.YteplaginenhfkaaDoor.addS
  rw [h.length, show (findE L nm).isSome = (findE M nm).isSome by
    have := congrArg Option.isSome (h.find nm)
    simpa using this]
theorem Twins.lookE {L M : List Ent} (h : Twins L M) (s : ByteArray) : Go.Proofs.YteplaginenhfkaaDoor.lookE L s = Go.Proofs.YteplaginenhfkaaDoor.lookE M s := by
  have h1 := h.find s
  unfold Go.Proofs.YteplaginenhfkaaDoor.lookE
  cases ha : findE L s with
  | none => rw [ha] at h1; cases hb : findE M s with
    | none => rfl
    | some y => rw [hb] at h1; cases h1
  | some x => rw [ha] at h1; cases hb : findE M s with
    | none => rw [hb] at h1; cases h1
    | some y =>
      rw [hb] at h1
      have h2 : x.who = y.who := by injection h1
      show x.lk = y.lk
      unfold Ent.lk
      rw [show x.fl = y.fl from congrArg Who.fl h2, show x.li = y.li from congrArg Who.li h2, show x.re = y.re from congrArg Who.re h2]
theorem findE_miss : ∀ (L : List Ent) (s : ByteArray), (∀ j (h : j < L.length), ¬ s = (L[j]).name) → findE L s = none
  | [], s, _ => rfl
  | x :: L, s, h => by
    unfold findE
    have h0 : ¬ s = x.name := h 0 (by simp)
    rw [List.find?_cons]
    simp only [h0, decide_false]
    exact findE_miss L s (fun j hj => h (j + 1) (by simpa using hj))
theorem findE_hit : ∀ (L : List Ent) (s : ByteArray) (k : Nat) (hk : k < L.length), (∀ j (h : j < k), ¬ s = (L[j]'(Nat.lt_trans h hk)).name) → s = (L[k]).name → findE L s = some L[k]
  | x :: L, s, 0, _, _, h => by
    have h0 : s = x.name := h
    unfold findE
    rw [List.find?_cons]
    simp [h0]
  | x :: L, s, k + 1, hk, h1, h2 => by
    have h0 : ¬ s = x.name := h1 0 (by omega)
    unfold findE
    rw [List.find?_cons]
    simp only [h0, decide_false]
    exact findE_hit L s k (by simpa using hk) (fun j hj => h1 (j + 1) (by omega)) h2
end Go.Proofs.YteplaginenhfkaaDoor
namespace Go.Proofs.YteplaginenhfkaaDoor
open Go.RowKit

theorem zeroRPers (w : World) : (zeroValue 45).run Tryd.prog w = .ok (.agg #[.string ByteArray.empty, .slice none 0 0, .int .i64 0, .int .i64 0, .int .i64 0]) w := by kernel_rfl
theorem load_rpers (w : World) (g : Nat) (cs : Array Value) (fr : Nat × Nat) (hg : w.heap[g]? = some (.cells cs 45 fr)) (hs : cs.size = 5) : (loadVar 45 ⟨g, 0, none⟩).run Tryd.prog w = .ok (.agg cs) w :=
  run_loadVar_row w g 45 45 cs fr _ hg Tryd.underlying45 rfl (by rw [hs]; kernel_rfl)
set_option maxRecDepth 100000 in
set_option maxHeartbeats 2000000 in
theorem rfind_c (B q : Nat) (v : Value) (M : List Ent) (s : ByteArray) (w : World) (h : RbA w B q v M) (hl : M.length ≤ 1000) : Calls Tryd.prog 21 #[.pointer (some ⟨q, 0, none⟩), .string s] w (FindPost w M s) := by
  have hz := zeroRPers
  have H := Lib.hid h
  obtain ⟨n, hn⟩ : ∃ n, n = M.length := ⟨_, rfl⟩
  have hsh : ∃ A c, v = .slice A n c ∧ Hid (∀ k, (hk : k < M.length) → ∃ g, A = some ⟨g, 0, none⟩ ∧ g < w.heap.size ∧ ∀ j, j < 5 → w.cell? ⟨g, k * 5 + j, none⟩ = (M[k]).cells[j]?) := by
    rcases h.own with ⟨e, h0⟩ | ⟨g, cap, cur, e, hB, hh, h0, hc⟩
    · subst h0
      exact ⟨none, 0, by rw [e, hn]; rfl, Lib.hid (fun k hk => by simp at hk)⟩
    · exact ⟨some ⟨g, 0, none⟩, cap, by rw [e, hn], Lib.hid (fun k hk => ⟨g, rfl, (Array.getElem?_eq_some_iff.1 hh).1, fun j hj => hc k j hk hj⟩)⟩
  obtain ⟨A, c, rfl, HC⟩ := hsh
  have HN := Lib.hid hn
  have hn1 : n ≤ 1000 := by omega
  have hrow : (w.alloc (.cells #[.string ByteArray.empty, .slice none 0 0, .int .i64 0, .int .i64 0, .int .i64 0] 45)).cell? ⟨q, 0, none⟩ = some (.slice A n c) := by
    rw [cell_of_row _ q 0 _ _ _ (blk_old _ h.row)]
    rfl
  obtain ⟨X, hX⟩ : ∃ X, X = w.alloc (.cells #[.string ByteArray.empty, .slice none 0 0, .int .i64 0, .int .i64 0, .int .i64 0] 45) := ⟨_, rfl⟩
  rw [← hX] at hrow
  have HX := Lib.hid hX
  have BX := Lib.hid (show Below w.heap.size w X by rw [hX]; exact below_alloc (Below.refl _ _) _)
  have RX := Lib.hid (show X.heap[w.heap.size]? = some (.cells #[.string ByteArray.empty, .slice none 0 0, .int .i64 0, .int .i64 0, .int .i64 0] 45 (0, 0)) by rw [hX]; exact blk_new _ rfl)
  clear h hl hn hX
  go_enter Tryd.func21, Tryd.ntmps21
  go_wp2_with fail
  rw [← HX.out]
  go_loop [6] (fun vi => ∃ k : Nat, k ≤ n ∧ vi = .int .i64 k ∧ Hid (∀ j, (hj : j < M.length) → j < k → ¬ s = (M[j]).name)) (fun i => n - (intOf i).toNat)
  case atStart => exact ⟨0, by omega, rfl, Lib.hid (fun j _ hj => by omega)⟩
  case round =>
    obtain ⟨k, hk, rfl, hall⟩ := hrel
    by_cases hlt : k < n
    · obtain ⟨g, rfl, hg, hc⟩ := HC.out k (by rw [← HN.out]; exact hlt)
      have hX0 : ∀ j, j < 5 → X.cell? ⟨g, k * 5 + j, none⟩ = (M[k]'(by rw [← HN.out]; exact hlt)).cells[j]? := fun j hj => (BX.out.cell (p := ⟨g, k * 5 + j, none⟩) hg).trans (hc j hj)
      obtain ⟨E, hE⟩ : ∃ E, E = M[k]'(by rw [← HN.out]; exact hlt) := ⟨_, rfl⟩
      rw [← hE] at hX0
      obtain ⟨nm, blk, cap, key, fl, li, re⟩ := E
      have c0 : X.cell? ⟨g, k * 5, none⟩ = some (.string nm) := hX0 0 (by decide)
      have c1 : X.cell? ⟨g, k * 5 + 1, none⟩ = some (.slice (some ⟨blk, 0, none⟩) 16 cap) := hX0 1 (by decide)
      have c2 : X.cell? ⟨g, k * 5 + 2, none⟩ = some (.int .i64 fl) := hX0 2 (by decide)
      have c3 : X.cell? ⟨g, k * 5 + 3, none⟩ = some (.int .i64 li) := hX0 3 (by decide)
      have c4 : X.cell? ⟨g, k * 5 + 4, none⟩ = some (.int .i64 re) := hX0 4 (by decide)
      have HE := Lib.hid hE
      have hlt2 : (k : Int) < (n : Int) := by omega
      clear hX0 hc hE
      by_cases hnm : s = nm
      · have hq : (nm.toList == s.toList) = true := by rw [hnm]; simp
        have HNM := Lib.hid hnm
        clear hnm
        go_wp2_with fail
        obtain ⟨Y, hY⟩ : ∃ Y, Y = X.alloc (.cells #[.string nm, .slice (some ⟨blk, 0, none⟩) 16 cap, .int .i64 fl, .int .i64 li, .int .i64 re] 45) := ⟨_, rfl⟩
        obtain ⟨t7, ht7⟩ : ∃ t7, t7 = X.heap.size := ⟨_, rfl⟩
        have hbY : Below X.heap.size X Y := by rw [hY]; exact below_alloc (Below.refl _ _) _
        have BY := Lib.hid (BX.out.trans (hbY.mono BX.out.size))
        have RY := Lib.hid (blk_below RX.out hbY (Array.getElem?_eq_some_iff.1 RX.out).1)
        have R7 := Lib.hid (show Y.heap[t7]? = some (.cells #[.string nm, .slice (some ⟨blk, 0, none⟩) 16 cap, .int .i64 fl, .int .i64 li, .int .i64 re] 45 (0, 0)) by rw [hY, ht7]; exact blk_new _ rfl)
        have NE := Lib.hid (show w.heap.size ≠ t7 ∧ w.heap.size ≤ t7 by have : X.heap.size = w.heap.size + 1 := by rw [HX.out]; simp
                                                                        omega)
        have hmem : (⟨nm, blk, cap, key, fl, li, re⟩ : Ent) ∈ M := by rw [HE.out]; exact List.getElem_mem _
        obtain ⟨k1, k2, _⟩ := H.out.keys _ hmem
        have K2 := Lib.hid (show key.length = 16 from k2)
        have hbc := bytes_c (some ⟨blk, 0, none⟩) cap key Y (by rw [K2.out]; decide) ((show RB w (some ⟨blk, 0, none⟩) key from k1).below BY.out)
        rw [K2.out] at hbc
        rw [← hY, ← ht7]
        clear hmem k1 k2 hY ht7 hbY c0 c1 c2 c3 c4 hrow
        refine hbc.mono ?_
        clear hbc
        rintro e w3 ⟨v3, rfl, ho3, hb3⟩
        obtain ⟨A3, d3, rfl, _, hr3, hge⟩ := ho3.reads3 (by rw [K2.out]; decide)
        rw [K2.out]
        have B3 := Lib.hid (BY.out.trans (hb3.mono BY.out.size)); have HR3 := Lib.hid hr3
        have R43 := Lib.hid (blk_below RY.out hb3 (Array.getElem?_eq_some_iff.1 RY.out).1)
        have R73 := Lib.hid (blk_below R7.out hb3 (Array.getElem?_eq_some_iff.1 R7.out).1)
        have hy7 := (Array.getElem?_eq_some_iff.1 R7.out).1
        have GE := Lib.hid (show ∀ ad, A3 = some ad → w.heap.size ≤ ad.block ∧ ad.block ≠ w.heap.size ∧ ad.block ≠ t7 from fun ad had => by have := (hge ad had).1; have := BY.out.size; have := NE.out; omega)
        clear ho3 hb3 hr3 hge hy7
        rw [← row_same R73.out]
        have hset := fun cs i v => row_set R73.out cs i v
        have hcell := fun cs j => row_cell R73.out cs j
        have hfro := fun cs j => row_frozen R73.out cs j
        have HZR := Lib.hid (fun cs => (setRow_other w3 t7 w.heap.size cs NE.out.1).trans R43.out)
        go_wp2_with (with_reducible refine wpList_store_any rfl 45 _ _ rfl w.heap.size [.string nm, .slice A3 16 d3, .int .i64 fl, .int .i64 li, .int .i64 re] rfl rfl 45 _ (HZR.out _) 5 (by kernel_rfl) rfl rfl (by simp [Value.oneCell']) ?_ rfl)
        refine bodyPost_ret (v := .tuple #[.agg #[.string nm, .slice A3 16 d3, .int .i64 fl, .int .i64 li, .int .i64 re], .int .i64 0]) ?_ rfl ?_
        · exact (results_row_tmp (p := 4) (u := 5) (ty := 45) rfl _ _ w.heap.size #[.string nm, .slice A3 16 d3, .int .i64 fl, .int .i64 li, .int .i64 re] rfl (load_rpers _ _ _ (0, 0) (setRow_heap _ _ _ _ _ _ (HZR.out #[.string nm, .slice A3 16 d3, .int .i64 fl, .int .i64 li, .int .i64 re])) rfl)).trans rfl
        · have hf : findE M s = some ⟨nm, blk, cap, key, fl, li, re⟩ := by
            rw [HE.out]
            exact findE_hit M s k (by rw [← HN.out]; exact hlt) (fun j hj => hall.out j _ hj) (by rw [← HE.out]; exact HNM.out)
          refine ⟨below_setRow (below_setRow B3.out NE.out.2 _) (Nat.le_refl _) _, fun hn => (by rw [hf] at hn; cases hn), fun x' hx' => ?_⟩
          rw [hf] at hx'
          injection hx' with hx'
          subst hx'
          exact ⟨A3, d3, by rw [K2.out]; rfl, (HR3.out.setRow _ _ (fun ad had => (GE.out ad had).2.2)).setRow _ _ (fun ad had => (GE.out ad had).2.1), fun ad had => (GE.out ad had).1⟩
      · have hq : (nm.toList == s.toList) = false := by
          rw [beq_eq_false_iff_ne]
          intro h
          apply hnm
          rw [Lib.toList_data, Lib.toList_data] at h
          exact (ByteArray.ext (Array.toList_inj.1 h)).symm
        have HA2 := Lib.hid (show ∀ j, (hj : j < M.length) → j < k + 1 → ¬ s = (M[j]).name from fun j hj hjk => by
          by_cases e : j = k
          · subst e
            rw [← HE.out]
            exact hnm
          · exact hall.out j hj (by omega))
        clear hnm
        go_wp2_with fail
        go_round
        case rel => exact ⟨k + 1, by omega, by go_num, HA2⟩
        case measure => simp [intOf]; omega
    · obtain rfl : k = n := by omega
      have HNO := Lib.hid (findE_miss M s (fun j hj => hall.out j hj (by have := HN.out; omega)))
      go_wp2_with (with_reducible refine wpList_store_any rfl 45 _ _ rfl w.heap.size [.string ByteArray.empty, .slice none 0 0, .int .i64 0, .int .i64 0, .int .i64 0] rfl rfl 45 _ RX.out 5 (by kernel_rfl) rfl rfl (by simp [Value.oneCell']) ?_ rfl)
      refine bodyPost_ret (v := .tuple #[.agg #[.string ByteArray.empty, .slice none 0 0, .int .i64 0, .int .i64 0, .int .i64 0], .int .i64 5]) ?_ rfl ?_
      · exact (results_row_tmp (p := 4) (u := 5) (ty := 45) rfl _ _ w.heap.size #[.string ByteArray.empty, .slice none 0 0, .int .i64 0, .int .i64 0, .int .i64 0] rfl (load_rpers _ _ _ (0, 0) (setRow_heap _ _ _ _ _ _ RX.out) rfl)).trans rfl
      · exact ⟨below_setRow BX.out (Nat.le_refl _) _, fun _ => rfl, fun x hx => by rw [HNO.out] at hx; cases hx⟩
end Go.Proofs.YteplaginenhfkaaDoor
namespace Go.Proofs.YteplaginenhfkaaDoor
open Go.RowKit

theorem RbA.keys_ne {w : World} {B q : Nat} {v : Value} {M : List Ent} (h : RbA w B q v M) : ∀ e ∈ M, e.blk ≠ q ∧ (∀ g, v.ownBlock = some g → g ≠ e.blk) ∧ e.blk < w.heap.size := fun e he => by
  obtain ⟨k1, k2, _⟩ := h.keys e he
  obtain ⟨hlt, x, hx⟩ := rb_first k1 k2
  refine ⟨fun hq => ?_, fun g hg e2 => ?_, hlt⟩
  · rw [hq, cell_of_row w q _ _ _ _ h.row] at hx
    rcases h.own with ⟨hv, _⟩ | ⟨g, cap, cur, hv, _⟩ <;> (rw [hv] at hx; cases hx)
  · obtain ⟨_, _, s, hs⟩ := h.own_first _ hg
    rw [e2, hx] at hs
    cases hs
theorem RbA.own_ne {w : World} {B q : Nat} {v : Value} {M : List Ent} (h : RbA w B q v M) (g : Nat) (hg : v.ownBlock = some g) : g ≠ q ∧ g < w.heap.size := by
  obtain ⟨⟨cur, hc⟩, _⟩ := h.own_first g hg
  refine ⟨fun e => ?_, (Array.getElem?_eq_some_iff.1 hc).1⟩
  rw [e, h.row] at hc
  injection hc with hc
  injection hc with _ h2
  cases h2
theorem RbA.grow {w3 W8 w9 : World} {B q : Nat} {v v1 : Value} {M : List Ent} (h : RbA w3 B q v M) (E : Ent) (hR : RB w3 (some ⟨E.blk, 0, none⟩) E.key) (hk : E.key.length = 16) (hBE : B ≤ E.blk) (hEq : E.blk ≠ q) (hEg : ∀ g, v.ownBlock = some g → E.blk ≠ g)
    (hb8 : Below w3.heap.size w3 W8) (hg : W8.grownBy w9 v.ownBlock) (hown : w9.ownsRow B 45 5 v1 (M ++ [E]).length (rowsOf (M ++ [E]))) :
    RbA (w9.setRow q #[v1]) B q v1 (M ++ [E]) ∧ OnlyS (rbS q v) w3 (w9.setRow q #[v1]) ∧ w9.heap[q]? = some (.cells #[v] 60 (0, 0)) := by
  have h9 : OnlyS (fun k => v.ownBlock = some k) w3 w9 := (OnlyS.of_below hb8).trans (OnlyS.of_grown hg)
  have hQ9 := h9.blk h.row (fun hh => (h.own_ne q hh).1 rfl)
  have hF : OnlyS (fun k => k = q) w9 (w9.setRow q #[v1]) := OnlyS.setRow _ w9 q _ rfl
  have hAll : OnlyS (rbS q v) w3 (w9.setRow q #[v1]) := (h9.mono (T := rbS q v) (fun k hk => Or.inr hk)).trans (hF.mono (fun k hk => Or.inl hk))
  refine ⟨⟨setRow_heap _ _ _ _ _ _ hQ9, ownsRow_onlyS hown hF (fun g hg1 e => ?_), fun e => by simp at e, fun e he => ?_, h.hq⟩, hAll, hQ9⟩
  · rcases hown.2 with ⟨rfl, h0⟩ | ⟨g', cap, cur, rfl, hB, hh, _⟩
    · cases hg1
    · obtain rfl : g' = g := by injection hg1
      rw [e, hQ9] at hh
      injection hh with hh
      injection hh with h1 h2 h3
      cases h2
  · rcases List.mem_append.1 he with he | he
    · obtain ⟨a1, a2, a3⟩ := h.keys e he
      obtain ⟨b1, b2, b3⟩ := h.keys_ne e he
      refine ⟨a1.onlyS hAll (fun ad had => ?_), a2, a3⟩
      injection had with had
      subst had
      rintro (hh | hh)
      · exact b1 hh
      · exact b2 _ hh rfl
    · obtain rfl : e = E := by simpa using he
      refine ⟨hR.onlyS hAll (fun ad had => ?_), hk, hBE⟩
      injection had with had
      subst had
      rintro (hh | hh)
      · exact hEq hh
      · exact hEg _ hh rfl
def RMakePost (w : World) (e : Ending) (w' : World) : Prop :=
  e = .returned (.pointer (some ⟨w.heap.size, 0, none⟩)) ∧ Below w.heap.size w w' ∧ RbA w' w.heap.size w.heap.size (.slice none 0 0) []
theorem zeroRBook (w : World) : (zeroValue 60).run Tryd.prog w = .ok (.agg #[.slice none 0 0]) w := by kernel_rfl
set_option maxRecDepth 100000 in
theorem rmake_c (w : World) : Calls Tryd.prog 29 #[] w (RMakePost w) := by
  have hz := zeroRBook
  go_enter Tryd.func29, Tryd.ntmps29
  go_wp2
  go_ret
  exact ⟨rfl, below_alloc (Below.refl _ _) _, blk_new _ rfl, World.ownsRow_nil _ _ _ 5, fun _ => rfl, (fun e he => by cases he), Nat.le_refl _⟩
set_option maxRecDepth 100000 in
theorem plain_c (s : ByteArray) (A : Option Addr) (n c : Nat) (fl li re : Int) (w : World) : Calls Tryd.prog 32 #[persV s A n c fl li re] w fun e w' => e = .returned (persV s A n c fl li re) ∧ Below w.heap.size w w' := by
  have hz := zeroRPers
  unfold persV
  obtain ⟨X, hX⟩ : ∃ X, X = (w.alloc (.cells #[.string s, .slice A n c, .int .i64 fl, .int .i64 li, .int .i64 re] 50)).alloc (.cells #[.string ByteArray.empty, .slice none 0 0, .int .i64 0, .int .i64 0, .int .i64 0] 45) := ⟨_, rfl⟩
  have HX := Lib.hid hX
  have BX := Lib.hid (show Below w.heap.size w X by rw [hX]; exact below_alloc (below_alloc (Below.refl _ _) _) _)
  have RX := Lib.hid (show X.heap[w.heap.size + 1]? = some (.cells #[.string ByteArray.empty, .slice none 0 0, .int .i64 0, .int .i64 0, .int .i64 0] 45 (0, 0)) by rw [hX]; exact blk_new _ (by simp))
  clear hX
  go_enter Tryd.func32, Tryd.ntmps32
  go_wp2_with ((rw [← HX.out]); (with_reducible refine wpList_store_any rfl 45 _ _ rfl (w.heap.size + 1) [.string s, .slice A n c, .int .i64 fl, .int .i64 li, .int .i64 re] rfl rfl 45 _ RX.out 5 (by kernel_rfl) rfl rfl (by simp [Value.oneCell']) ?_ rfl))
  refine bodyPost_ret (v := .agg #[.string s, .slice A n c, .int .i64 fl, .int .i64 li, .int .i64 re]) ?_ rfl ?_
  · exact results_cell_row rfl _ _ (w.heap.size + 1) _ _ (0, 0) _ rfl (setRow_heap _ _ _ _ _ _ RX.out) Tryd.underlying45 rfl (by kernel_rfl)
  · exact ⟨rfl, below_setRow BX.out (by omega) _⟩
end Go.Proofs.YteplaginenhfkaaDoor
