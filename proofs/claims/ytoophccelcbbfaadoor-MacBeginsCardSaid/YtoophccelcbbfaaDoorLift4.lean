/-
  More arguments of the rows: slices of slices of bytes; strings.
-/
import Derived.Test.YtoophccelcbbfaaDoorLift3
import Derived.Test.YtoophccelcbbfaaDoorLawMacParts
import Derived.Deep.Matrix
import Derived.ChangeMaps5
set_option linter.unusedVariables false
set_option linter.unusedSimpArgs false
namespace Go.Proofs.YtoophccelcbbfaaDoor
open Go.ChangeShapes Go.WideShapes Go.ChangeAt Go.RowKit
section
variable {H : Type} {enc : TypeId × Value → H}

theorem cellsBytes : Tryd.prog.cellsOf 22 = 1 := by kernel_rfl
theorem bytesByte : Tryd.prog.bytesOf 5 = 1 := by kernel_rfl
theorem spot_none {W : World} {a : Addr} {v : Value} (h : W.cell? (a.add 0) = some v) : a.spot = none := by
  obtain ⟨b, off, spot⟩ := a
  cases spot with
  | none => rfl
  | some q =>
    exfalso
    simp only [Addr.add, if_true] at h
    unfold World.cell? at h
    split at h
    · simp at h
    · cases h
/-- What the cells of a row of bytes read as. -/
theorem rb_of_cells {W : World} {A : Option Addr} {L C : Nat} {zs : List Int} (hz : zs.length = C) (hl : L ≤ C) (hC : C ≤ 140737488351232) (hwf : ∀ n ∈ zs, (Lit.int .u8 n).wf = true) (hn : A = none → C = 0)
    (hc : ∀ a, A = some a → ∀ c, c < C → W.cell? (a.add c) = some (.int .u8 (zs.getD c 0))) : ∃ l : List UInt8, l.length = L ∧ RB W A l := by
  have hlen : ((zs.take L).map fun n => UInt8.ofNat n.toNat).length = L := by simp; omega
  refine ⟨(zs.take L).map fun n => UInt8.ofNat n.toNat, hlen, by rw [hlen]; omega, fun i hi => ?_⟩
  rw [hlen] at hi
  cases A with
  | none => have := hn rfl; omega
  | some x =>
    have h0 := hc x rfl 0 (by omega)
    have hs := spot_none h0
    obtain ⟨b, off, spot⟩ := x
    simp only at hs
    subst hs
    refine ⟨b, off, rfl, ?_⟩
    have hi' := hc _ rfl i (by omega)
    rw [add_plain] at hi'
    rw [hi']
    have hw := hwf (zs.getD i 0) (by rw [List.getD_eq_getElem?_getD, List.getElem?_eq_getElem (by omega)]; exact List.getElem_mem _)
    obtain ⟨n, hn', hlt⟩ := wf_u8 hw
    congr 2
    have e : ((zs.take L).map fun n => UInt8.ofNat n.toNat).getD i 0 = UInt8.ofNat (zs.getD i 0).toNat := by
      simp only [List.getD_eq_getElem?_getD, List.getElem?_map, List.getElem?_take, if_pos hi]
      rw [List.getElem?_eq_getElem (by omega)]
      rfl
    rw [e, hn', UInt8.toNat_ofNat', Int.toNat_natCast, Nat.mod_eq_of_lt hlt]
theorem weightsAll_mem {P : Program} {e : TypeId} : ∀ {ds : List (DataW H)} {d : DataW H}, d ∈ ds → ∀ n ∈ d.weights P e, n ∈ DataW.weightsAll P e ds
  | d0 :: ds, d, hd, n, hn => by
    simp only [DataW.weightsAll, List.mem_append]
    rcases List.mem_cons.1 hd with rfl | h
    · exact Or.inl hn
    · exact Or.inr (weightsAll_mem h n hn)
theorem open_rows {W : World} {base : Nat} {v : Value} {d : DataW H} {ps : List MemPlace} {ts : List TypeId} {ds : List (DataW H)} {j : Nat}
    (hsz : (DataW.weightsEach Tryd.prog ts ds).all (· ≤ reachBytes) = true) (ht : ts[j]? = some 41) (hd : ds[j]? = some d)
    (hval : Value.okWide Tryd.prog W .any base 41 v) (h : DataW.Trod enc Tryd.prog W 0 (fun _ => true) true 41 v d ps) :
    ∃ (A : Option Addr) (c : Nat) (ls : List (List UInt8)), v = .slice A ls.length c ∧ ls.length ≤ 140737488355328 ∧ RBc W A ls := by
  obtain ⟨A, len, cap, rfl⟩ := okWide_slice Tryd.underlying41 hval
  obtain ⟨fuel, hf⟩ := h
  rcases Deep.open_int_rows Tryd.underlying41 Tryd.underlying22 Tryd.underlying5 cellsBytes cellsByte hf with ⟨hcs, _⟩ | ⟨a, n, c, As, Ls, Cs, Zs, hcs, _, hl, _, hx, hrow⟩
  · simp [Value.cells] at hcs
    obtain ⟨rfl, rfl, rfl⟩ := hcs
    exact ⟨none, 0, [], rfl, by simp, fun i hi => by simp at hi⟩
  · simp [Value.cells] at hcs
    obtain ⟨rfl, rfl, rfl⟩ := hcs
    obtain ⟨hx, _⟩ := Prod.mk.inj hx
    have hreach : reachBytes = 140737488351232 := by decide
    have hw : ∀ r, r < len → Cs r ≤ 140737488351232 := fun r hr => by
      obtain ⟨e1, _, _, hz, _, hnil, hsome⟩ := hrow r (by omega)
      cases hA : As r with
      | none => rw [hnil hA]; omega
      | some x =>
        have hm : Deep.intRow (H := H) .u8 (As r) (Ls r) (Zs r) ∈ (List.range len).map fun r => Deep.intRow (H := H) .u8 (As r) (Ls r) (Zs r) := List.mem_map.2 ⟨r, List.mem_range.2 hr, rfl⟩
        have hmem : (((Zs r).take (Ls r)).length + ((Zs r).drop (Ls r)).length) * Tryd.prog.bytesOf 5 ∈ (Deep.intRow (H := H) .u8 (As r) (Ls r) (Zs r)).weights Tryd.prog 22 := by
          rw [hA]
          simp [Deep.intRow, DataW.weights, Tryd.underlying22, lits]
        have h2 := DataW.weights_mem_each ht hd _ (show _ ∈ d.weights Tryd.prog 41 by
          rw [hx]
          simp only [DataW.weights, Tryd.underlying41, List.mem_cons, List.mem_append]
          exact Or.inr (Or.inl (weightsAll_mem hm _ hmem)))
        have h3 := of_decide_eq_true (List.all_eq_true.1 hsz _ h2)
        rw [bytesByte, hreach] at h3
        simp at h3
        omega
    have hrows : ∀ r, r < len → ∃ l : List UInt8, l.length = Ls r ∧ RB W (As r) l := fun r hr => by
      obtain ⟨e1, h1, _, hz, hwf, hnil, hsome⟩ := hrow r (by omega)
      exact rb_of_cells hz h1 (hw r hr) hwf hnil (fun a' ha => (hsome a' ha).2)
    obtain ⟨f, hf'⟩ := Deep.choose_lt hrows
    have hlen : ((List.range len).map f).length = len := by simp
    have z := sized_slice hsz ht (by rw [hd, hx]) Tryd.underlying41
    have hb : Tryd.prog.bytesOf 22 = 24 := by kernel_rfl
    rw [hb, hreach] at z
    simp at z
    refine ⟨some a, cap, (List.range len).map f, by rw [hlen], by rw [hlen]; omega, fun i hi => ?_⟩
    rw [hlen] at hi
    obtain ⟨e1, h1, _⟩ := hrow i (by omega)
    have hs : a.spot = none := by
      obtain ⟨e0, _⟩ := hrow 0 (by omega)
      exact spot_none e0
    obtain ⟨b, off, spot⟩ := a
    simp only at hs
    subst hs
    rw [add_plain] at e1
    obtain ⟨hfl, hfr⟩ := hf' i hi
    refine ⟨b, off, As i, Cs i, rfl, ?_, ?_, ?_⟩
    · simpa [hfl] using e1
    · simpa [hfl] using h1
    · simpa using hfr
theorem open_str {W : World} {base : Nat} {v : Value} {d : DataW H} {ps : List MemPlace} {ts : List TypeId} {ds : List (DataW H)} {j : Nat}
    (hsz : (DataW.weightsEach Tryd.prog ts ds).all (· ≤ reachBytes) = true) (ht : ts[j]? = some 9) (hd : ds[j]? = some d)
    (hval : Value.okWide Tryd.prog W .any base 9 v) (h : DataW.Trod enc Tryd.prog W 0 (fun _ => true) true 9 v d ps) :
    ∃ s : ByteArray, v = .string s ∧ s.size ≤ 140737488351232 := by
  obtain ⟨s, rfl, rfl, _, _⟩ := Go.ChangeMaps.open_string Tryd.underlying9 hval h
  have := sized_string hsz ht hd
  rw [show reachBytes = 140737488351232 by decide, ← Lib.size_eq] at this
  exact ⟨s, rfl, this⟩
end
end Go.Proofs.YtoophccelcbbfaaDoor
