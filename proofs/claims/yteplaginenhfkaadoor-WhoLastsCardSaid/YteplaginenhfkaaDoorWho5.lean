/-
  who: the book in memory; the walk of Add.
-/
import Derived.Test.YteplaginenhfkaaDoorWho4
set_option linter.unusedVariables false
set_option linter.unusedSimpArgs false
namespace Go.Proofs.YteplaginenhfkaaDoor.Last
section
variable {P : Program} {ops : Array Oper} {Q : Exit → Act → World → Prop} {S : World → Prop} {ds : List Nat}
/-- An operation among what follows that turns the world. -/
theorem mid_run {k : Nat} {r : List Nat} {a : Act} {w : World} (o : Oper) (v : Value) (w1 : World) (hi : ops[k]? = some o) (hg : o.guard = none) (hr : (execOp a.eval o).run P w = .ok (.value v) w1)
    (h1 : k ∉ ds → S w → S w1) (h : wpMid P ops Q S ds r (a.put o.dst v) w1) : wpMid P ops Q S ds (k :: r) a w := by
  unfold wpMid wpOp
  simp only [hi]
  rw [if_pos (by simp [Region.wanted, hg])]
  refine .inl ?_
  unfold Oper.wp
  rw [hr]
  exact ⟨h1, h⟩
/-- A store of a whole row among what follows. -/
theorem mid_store {k : Nat} {r : List Nat} {a : Act} {w : World} (o : Oper) (ty : TypeId) (x y : Operand) (hi : ops[k]? = some o) (hg : o.guard = none) (ho : o.op = .store ty x y) (g : Nat) (vs : List Value)
    (hx : a.eval x = .pointer (some ⟨g, 0, none⟩)) (hy : a.eval y = .agg vs.toArray) (t : TypeId) (old : Array Value) (hgr : w.heap[g]? = some (.cells old t (0, 0))) (n : Nat) (hinf : (P.info? ty).map (·.size) = some n)
    (hl : vs.length = n) (hold : old.size = n) (h1 : ∀ v ∈ vs, v.oneCell' = true) (hd : o.dst = none) (hS : k ∉ ds → S w → S (w.setRow g vs.toArray)) (h : wpMid P ops Q S ds r a (w.setRow g vs.toArray)) : wpMid P ops Q S ds (k :: r) a w := by
  unfold wpMid wpOp
  simp only [hi]
  rw [if_pos (by simp [Region.wanted, hg])]
  exact .inl (wp_store_row ty x y ho g vs.toArray hx hy t old hgr (by rw [hinf]; simp [hl]) (by simp [hl, hold]) (Array.all_eq_true_iff_forall_mem.2 (fun v hv => h1 v (by simpa using hv))) ⟨hS, by rw [hd]; exact h⟩)
/-- append among what follows. -/
theorem mid_append {k : Nat} {r : List Nat} {a : Act} {w : World} (o : Oper) (s x : Operand) (t : TypeId) (hi : ops[k]? = some o) (hg : o.guard = none) (ho : o.op = .call { callee := .builtin .append, args := #[s, x], argTypes := #[t, t] })
    (sv xv : Value) (hs : a.eval s = sv) (hx : a.eval x = xv) (v : Value) (w1 : World) (hr : (Builtin.append_ #[t, t] o.type #[sv, xv]).run P w = .ok v w1)
    (h1 : k ∉ ds → S w → S w1) (h : wpMid P ops Q S ds r (a.put o.dst v) w1) : wpMid P ops Q S ds (k :: r) a w := by
  refine mid_run o v w1 hi hg ?_ h1 h
  unfold execOp
  simp only [ho, resolve, invoke, builtin, Sem.run_bind, Sem.run_pure, Result.andThen_ok, List.map_toArray, List.map_cons, List.map_nil, hs, hx, hr]
end
end Go.Proofs.YteplaginenhfkaaDoor.Last
namespace Go.Proofs.YteplaginenhfkaaDoor
open Go.RowKit

structure BkA (w : World) (B p mp : Nat) (v : Value) (L : List Ent) : Prop where
  row : w.heap[p]? = some (.cells #[.map (some mp), v] 66 (0, 0))
  map : MapAt w mp L
  names : w.ownsRow B 9 1 v L.length (L.map fun e => Value.string e.name)
  first : L = [] → v = .slice none 0 0
  keys : ∀ e ∈ L, RB w (some ⟨e.blk, 0, none⟩) e.key ∧ e.key.length = 16 ∧ B ≤ e.blk
  hp : B ≤ p
  hm : B ≤ mp
def bookS (p mp : Nat) (v : Value) (k : Nat) : Prop := k = p ∨ k = mp ∨ v.ownBlock = some k
theorem ownsRow_onlyS {S : Nat → Prop} {w w' : World} {B e n k : Nat} {v : Value} {xs : List Value} (h : w.ownsRow B e k v n xs) (ho : OnlyS S w w') (hS : ∀ g, v.ownBlock = some g → ¬ S g) : w'.ownsRow B e k v n xs := by
  refine ⟨h.1, ?_⟩
  rcases h.2 with h2 | ⟨g, cap, cur, rfl, hg, hh, hr⟩
  · exact .inl h2
  · exact .inr ⟨g, cap, cur, rfl, hg, ho.blk hh (hS g rfl), hr⟩
theorem BkA.kept {S : Nat → Prop} {w w' : World} {B p mp : Nat} {v : Value} {L : List Ent} (h : BkA w B p mp v L) (ho : OnlyS S w w') (h1 : ∀ k, bookS p mp v k → ¬ S k) (h2 : ∀ e ∈ L, ¬ S e.blk) : BkA w' B p mp v L :=
  ⟨ho.blk h.row (h1 p (Or.inl rfl)), ho.blk h.map (h1 mp (Or.inr (Or.inl rfl))), ownsRow_onlyS h.names ho (fun g hg => h1 g (Or.inr (Or.inr hg))), h.first,
    fun e he => ⟨(h.keys e he).1.onlyS ho (fun ad had => by injection had with had; subst had; exact h2 e he), (h.keys e he).2⟩, h.hp, h.hm⟩
theorem BkA.below {w w' : World} {B p mp : Nat} {v : Value} {L : List Ent} (h : BkA w B p mp v L) (hb : Below w.heap.size w w') : BkA w' B p mp v L :=
  h.kept (S := fun _ => False) (OnlyS.of_below hb) (fun _ _ h => h) (fun _ _ h => h)
theorem BkA.lt {w : World} {B p mp : Nat} {v : Value} {L : List Ent} (h : BkA w B p mp v L) : p < w.heap.size ∧ mp < w.heap.size := ⟨(Array.getElem?_eq_some_iff.1 h.row).1, (Array.getElem?_eq_some_iff.1 h.map).1⟩
theorem BkA.ne {w : World} {B p mp : Nat} {v : Value} {L : List Ent} (h : BkA w B p mp v L) : p ≠ mp := fun e => by
  have h1 := h.row
  have h2 := h.map
  unfold MapAt at h2
  rw [e, h2] at h1
  cases h1
theorem BkA.cells {w : World} {B p mp : Nat} {v : Value} {L : List Ent} (h : BkA w B p mp v L) : w.cell? ⟨p, 0, none⟩ = some (.map (some mp)) ∧ w.cell? ⟨p, 1, none⟩ = some v := by
  refine ⟨?_, ?_⟩ <;> (rw [cell_of_row w p _ _ _ _ h.row]; rfl)
theorem BkA.shape {w : World} {B p mp : Nat} {v : Value} {L : List Ent} (h : BkA w B p mp v L) : ∃ A c, v = .slice A L.length c := by
  rcases h.names.2 with ⟨rfl, h0⟩ | ⟨g', cap, cur, rfl, _⟩
  · exact ⟨none, 0, by rw [h0]⟩
  · exact ⟨_, _, rfl⟩
theorem ri_two {w : World} {g : Nat} {x y : Int} (h : w.heap[g]? = some (.cells #[.int .i64 x, .int .i64 y] 3 (0, 0))) : RI w (some ⟨g, 0, none⟩) [x, y] := fun i hi => by
  refine ⟨g, 0, rfl, ?_⟩
  rw [Nat.zero_add, cell_of_row w g _ _ _ _ h]
  have : i = 0 ∨ i = 1 := by simp at hi; omega
  rcases this with rfl | rfl <;> rfl
/-- The names' block is none of the others. -/
theorem BkA.names_ne {w : World} {B p mp : Nat} {v : Value} {L : List Ent} (h : BkA w B p mp v L) (g : Nat) (hg : v.ownBlock = some g) : g ≠ p ∧ g ≠ mp ∧ B ≤ g ∧ g < w.heap.size ∧ ∀ e ∈ L, g ≠ e.blk := by
  rcases h.names.2 with ⟨rfl, h0⟩ | ⟨g', cap, cur, rfl, hB, hh, hn, hc, hs, ht⟩
  · cases hg
  · obtain rfl : g' = g := by injection hg
    refine ⟨fun e => ?_, fun e => ?_, hB, (Array.getElem?_eq_some_iff.1 hh).1, fun x hx e => ?_⟩
    · have h1 := h.row
      rw [← e, hh] at h1
      injection h1 with h1
      injection h1 with h1 h2 h3
      cases h2
    · have h1 := h.map
      unfold MapAt at h1
      rw [← e, hh] at h1
      cases h1
    · obtain ⟨hr, hl, _⟩ := h.keys x hx
      obtain ⟨b, off, ee, hc0⟩ := hr.2 0 (by omega)
      injection ee with ee
      injection ee with e1 e2
      subst e1 e2
      rw [← e, cell_of_row w g' _ _ _ _ hh] at hc0
      have hL : 0 < L.length := List.length_pos_of_mem hx
      have h1 : (cur.toList.take (L.length * 1))[0]? = some (Value.string (L[0]'hL).name) := by
        rw [ht, List.getElem?_map, List.getElem?_eq_getElem hL]
        rfl
      rw [List.getElem?_take, if_pos (by omega), Array.getElem?_toList] at h1
      rw [show (0 : Nat) + 0 = 0 from rfl, h1] at hc0
      injection hc0 with hc0
      cases hc0
theorem info_str : (Tryd.prog.info? 9).map (fun i => (i.zero, i.size, i.bytes)) = some (some (.string ByteArray.empty), 1, 16) := by kernel_rfl
theorem OnlyS.of_grown {w w' : World} {r : Option Nat} (h : w.grownBy w' r) : OnlyS (fun k => r = some k) w w' := ⟨h.os, h.tape, h.output, h.size, fun k hk hne => h.block k hk (fun e => hne e.symm)⟩
theorem OnlyS.mono {S T : Nat → Prop} {w w' : World} (h : OnlyS S w w') (hT : ∀ k, S k → T k) : OnlyS T w w' := ⟨h.os, h.tape, h.output, h.size, fun k hk hn => h.block k hk (fun hs => hn (hT k hs))⟩
theorem BkA.keys_ne {w : World} {B p mp : Nat} {v : Value} {L : List Ent} (h : BkA w B p mp v L) : ∀ e ∈ L, e.blk ≠ p ∧ e.blk ≠ mp ∧ e.blk < w.heap.size := fun x hx => by
  obtain ⟨hr, hl, _⟩ := h.keys x hx
  obtain ⟨b, off, ee, hc0⟩ := hr.2 0 (by omega)
  injection ee with ee
  injection ee with e1 e2
  subst e1 e2
  have hlt := World.block_lt_of_cell? w _ hc0
  refine ⟨fun e => ?_, fun e => ?_, hlt⟩
  · rw [e, cell_of_row w p _ _ _ _ h.row] at hc0
    injection hc0 with hc0
    cases hc0
  · have hm := h.map
    unfold MapAt at hm
    rw [e] at hc0
    simp [World.cell?, hm] at hc0
/-- One more in the book. -/
theorem BkA.grow {w3 W8 w9 : World} {B p mp : Nat} {v v1 : Value} {L : List Ent} (h : BkA w3 B p mp v L) (E : Ent) (hR : RB w3 (some ⟨E.blk, 0, none⟩) E.key) (hk : E.key.length = 16) (hBE : B ≤ E.blk) (hEp : E.blk ≠ p) (hEm : E.blk ≠ mp) (hEg : ∀ g, v.ownBlock = some g → E.blk ≠ g)
    (hb8 : Below (putMap w3 mp (L ++ [E])).heap.size (putMap w3 mp (L ++ [E])) W8) (hg : W8.grownBy w9 v.ownBlock) (hown : w9.ownsRow B 9 1 v1 (L ++ [E]).length ((L ++ [E]).map fun e => Value.string e.name)) :
    BkA (w9.setRow p #[.map (some mp), v1]) B p mp v1 (L ++ [E]) ∧ OnlyS (bookS p mp v) w3 (w9.setRow p #[.map (some mp), v1]) ∧ w9.heap[p]? = some (.cells #[.map (some mp), v] 66 (0, 0)) := by
  have hpm := h.ne
  have hs : (putMap w3 mp (L ++ [E])).heap.size = w3.heap.size := by simp [putMap]
  have hZ : OnlyS (fun k => k = mp) w3 (putMap w3 mp (L ++ [E])) := ⟨rfl, rfl, rfl, by rw [hs]; exact Nat.le_refl _, fun k _ hk => (MapKept.heap_set h.map).2 k hk⟩
  have hZm : MapAt (putMap w3 mp (L ++ [E])) mp (L ++ [E]) := (MapKept.heap_set h.map).1
  have h8 : OnlyS (fun k => k = mp) w3 W8 := hZ.trans (OnlyS.of_below hb8)
  have h9 : OnlyS (fun k => k = mp ∨ v.ownBlock = some k) w3 w9 := (h8.mono (T := fun k => k = mp ∨ v.ownBlock = some k) (fun k hk => Or.inl hk)).trans ((OnlyS.of_grown hg).mono (fun k hk => Or.inr hk))
  have hgn := h.names_ne
  have hS9p : ¬ (p = mp ∨ v.ownBlock = some p) := fun hh => hh.elim hpm (fun e => (hgn p e).1 rfl)
  have hP9 := h9.blk h.row hS9p
  have hF : OnlyS (fun k => k = p) w9 (w9.setRow p #[.map (some mp), v1]) := OnlyS.setRow _ w9 p _ rfl
  have hAll : OnlyS (bookS p mp v) w3 (w9.setRow p #[.map (some mp), v1]) := (h9.mono (T := bookS p mp v) (fun k hk => Or.inr hk)).trans (hF.mono (fun k hk => Or.inl hk))
  have hm9 : MapAt w9 mp (L ++ [E]) := by
    have hlt : mp < (putMap w3 mp (L ++ [E])).heap.size := by rw [hs]; exact h.lt.2
    have hm8 : MapAt W8 mp (L ++ [E]) := blk_below hZm hb8 hlt
    exact (OnlyS.of_grown hg).blk hm8 (fun e => (hgn mp e).2.1 rfl)
  refine ⟨⟨setRow_heap _ _ _ _ _ _ hP9, hF.blk hm9 (Ne.symm hpm), ownsRow_onlyS hown hF (fun g hg1 e => ?_), fun e => by simp at e, fun e he => ?_, h.hp, h.hm⟩, hAll, hP9⟩
  · rcases hown.2 with ⟨rfl, h0⟩ | ⟨g', cap, cur, rfl, hB, hh, _⟩
    · cases hg1
    · obtain rfl : g' = g := by injection hg1
      rw [e, hP9] at hh
      injection hh with hh
      injection hh with h1 h2 h3
      cases h2
  · rcases List.mem_append.1 he with he | he
    · obtain ⟨a1, a2, a3⟩ := h.keys e he
      obtain ⟨b1, b2, b3⟩ := h.keys_ne e he
      refine ⟨a1.onlyS hAll (fun ad had => ?_), a2, a3⟩
      injection had with had
      subst had
      rintro (hh | hh | hh)
      · exact b1 hh
      · exact b2 hh
      · exact (hgn _ hh).2.2.2.2 e he rfl
    · obtain rfl : e = E := by simpa using he
      refine ⟨hR.onlyS hAll (fun ad had => ?_), hk, hBE⟩
      injection had with had
      subst had
      rintro (hh | hh | hh)
      · exact hEp hh
      · exact hEm hh
      · exact hEg _ hh rfl
end Go.Proofs.YteplaginenhfkaaDoor
