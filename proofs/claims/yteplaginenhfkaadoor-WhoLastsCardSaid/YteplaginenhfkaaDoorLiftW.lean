/-
  More arguments of the rows: a slice of principals.
-/
import Derived.Test.YteplaginenhfkaaDoorLiftS
import Derived.Test.YteplaginenhfkaaDoorWhoI
import Derived.Deep.Slices
import Derived.Deep.Fields
import Derived.ChangeSame
set_option linter.unusedVariables false
set_option linter.unusedSimpArgs false
namespace Go.Proofs.YteplaginenhfkaaDoor
open Go.ChangeShapes Go.WideShapes Go.ChangeAt Go.RowKit Go.Deep
section
variable {H : Type} {enc : TypeId × Value → H}

theorem bytesByte : Tryd.prog.bytesOf 5 = 1 := by kernel_rfl
theorem spot_none {W : World} {a : Addr} {v : Value} (h : W.cell? (a.add 0) = some v) : a.spot = none := by
  obtain ⟨b, off, spot⟩ := a
  cases spot with
  | none => rfl
  | some q =>
    exfalso
    simp only [Addr.add, if_true] at h
    unfold World.cell? at h
    split at h
    · simp at h
    · cases h
/-- What the cells of a row of bytes read as. -/
theorem rb_of_cells {W : World} {A : Option Addr} {L C : Nat} {zs : List Int} (hz : zs.length = C) (hl : L ≤ C) (hC : C ≤ 140737488351232) (hwf : ∀ n ∈ zs, (Lit.int .u8 n).wf = true) (hn : A = none → C = 0)
    (hc : ∀ a, A = some a → ∀ c, c < C → W.cell? (a.add c) = some (.int .u8 (zs.getD c 0))) : ∃ l : List UInt8, l.length = L ∧ RB W A l := by
  have hlen : ((zs.take L).map fun n => UInt8.ofNat n.toNat).length = L := by simp; omega
  refine ⟨(zs.take L).map fun n => UInt8.ofNat n.toNat, hlen, by rw [hlen]; omega, fun i hi => ?_⟩
  rw [hlen] at hi
  cases A with
  | none => have := hn rfl; omega
  | some x =>
    have h0 := hc x rfl 0 (by omega)
    have hs := spot_none h0
    obtain ⟨b, off, spot⟩ := x
    simp only at hs
    subst hs
    refine ⟨b, off, rfl, ?_⟩
    have hi' := hc _ rfl i (by omega)
    rw [add_plain] at hi'
    rw [hi']
    have hw := hwf (zs.getD i 0) (by rw [List.getD_eq_getElem?_getD, List.getElem?_eq_getElem (by omega)]; exact List.getElem_mem _)
    obtain ⟨u, hu⟩ := wf_u8 hw
    have hn' : zs.getD i 0 = ((u.toNat : Nat) : Int) := hu
    have hlt : u.toNat < 256 := UInt8.toNat_lt _
    congr 2
    have e : ((zs.take L).map fun n => UInt8.ofNat n.toNat).getD i 0 = UInt8.ofNat (zs.getD i 0).toNat := by
      simp only [List.getD_eq_getElem?_getD, List.getElem?_map, List.getElem?_take, if_pos hi]
      rw [List.getElem?_eq_getElem (by omega)]
      rfl
    rw [e, hn', UInt8.toNat_ofNat', Int.toNat_natCast, Nat.mod_eq_of_lt hlt]
theorem weightsAll_mem {P : Program} {e : TypeId} : ∀ {ds : List (DataW H)} {d : DataW H}, d ∈ ds → ∀ n ∈ d.weights P e, n ∈ DataW.weightsAll P e ds
  | d0 :: ds, d, hd, n, hn => by
    simp only [DataW.weightsAll, List.mem_append]
    rcases List.mem_cons.1 hd with rfl | h
    · exact Or.inl hn
    · exact Or.inr (weightsAll_mem h n hn)
/-- A slice of bytes that is read inside of something. -/
theorem open_key {W : World} {v : Value} {y : DataW H × List MemPlace} {fuel : Nat} (hf : DataW.trod enc Tryd.prog W 0 (fun _ => true) true fuel 24 [v] = some y) (hw : ∀ n ∈ y.1.weights Tryd.prog 24, n ≤ reachBytes) :
    ∃ (A : Option Addr) (c : Nat) (l : List UInt8), v = .slice A l.length c ∧ l.length ≤ c ∧ RB W A l := by
  rcases open_ints Tryd.underlying24 Tryd.underlying5 cellsByte hf with ⟨hcs, _⟩ | ⟨x, n, c, zs, hcs, _, hl, _, hz, hx, hcell, hwf⟩
  · simp at hcs
    exact ⟨none, 0, [], by rw [hcs]; rfl, Nat.le_refl _, RB.nil _ _⟩
  · simp at hcs
    subst hcs
    have hreach : reachBytes = 140737488351232 := by decide
    have hzc : zs.length = c := by simpa using hz
    have h1 : zs.length ≤ 140737488351232 := by
      have := hw ((zs.take n).length + (zs.drop n).length) (by
        rw [hx]
        simp only [DataW.weights, Tryd.underlying24, lits, List.length_map, bytesByte, Nat.mul_one]
        exact List.mem_cons_self)
      rw [hreach] at this
      simp at this
      omega
    obtain ⟨l, hl1, hl2⟩ := rb_of_cells (A := some x) (L := n) (C := c) hzc hl (by omega) hwf (fun h => by cases h) (fun a ha i hi => by injection ha with ha; subst ha; exact hcell i (by omega))
    exact ⟨some x, c, l, by rw [hl1], by omega, hl2⟩
theorem cellsPers : Tryd.prog.cellsOf 50 = 5 := by kernel_rfl
theorem bytesPers : Tryd.prog.bytesOf 50 = 64 := by kernel_rfl
instance : Inhabited Pin := ⟨⟨ByteArray.empty, none, 0, [], 0, 0, 0⟩⟩
set_option maxRecDepth 100000 in
/-- One principal among those that came in. -/
theorem open_pin {W : World} {a : Addr} {cs : List Value} {y : DataW H × List MemPlace} {fuel : Nat} (hc : W.cells? 0 a 5 = some cs) (hf : DataW.trod enc Tryd.prog W 0 (fun _ => true) true fuel 50 cs = some y) (hw : ∀ n ∈ y.1.weights Tryd.prog 50, n ≤ reachBytes) :
    ∃ x : Pin, W.cell? (a.add 0) = some (.string x.nm) ∧ W.cell? (a.add 1) = some (.slice x.A x.key.length x.c) ∧ W.cell? (a.add 2) = some (.int .i64 x.fl) ∧ W.cell? (a.add 3) = some (.int .i64 x.li) ∧ W.cell? (a.add 4) = some (.int .i64 x.re) ∧
      RB W x.A x.key ∧ x.key.length ≤ x.c ∧ x.nm.size ≤ 140737488351232 := by
  obtain ⟨ys, n, _, hx, hlen, hyl, hg⟩ := DataW.trod_struct Tryd.underlying50 hf
  have l5 : cs.length = 5 := hlen.trans cellsPers
  have y5 : ys.length = 5 := hyl
  have cS : Tryd.prog.cellsOf 9 = 1 := by kernel_rfl
  have cI : Tryd.prog.cellsOf 3 = 1 := by kernel_rfl
  have cB : Tryd.prog.cellsOf 24 = 1 := by kernel_rfl
  obtain ⟨_, _, hat⟩ := World.cells?_some hc
  match cs, l5, ys, y5 with
  | [c0, c1, c2, c3, c4], _, [y0, y1, y2, y3, y4], _ =>
    have h0 : DataW.trod enc Tryd.prog W 0 (fun _ => true) true n 9 [c0] = some y0 := by simpa [cS] using hg 0 _ rfl
    have h1 : DataW.trod enc Tryd.prog W 0 (fun _ => true) true n 24 [c1] = some y1 := by simpa [cB] using hg 1 _ rfl
    have h2 : DataW.trod enc Tryd.prog W 0 (fun _ => true) true n 3 [c2] = some y2 := by simpa [cI] using hg 2 _ rfl
    have h3 : DataW.trod enc Tryd.prog W 0 (fun _ => true) true n 3 [c3] = some y3 := by simpa [cI] using hg 3 _ rfl
    have h4 : DataW.trod enc Tryd.prog W 0 (fun _ => true) true n 3 [c4] = some y4 := by simpa [cI] using hg 4 _ rfl
    have hwy : ∀ k, (k ∈ y0.1.weights Tryd.prog 9 ∨ k ∈ y1.1.weights Tryd.prog 24) → k ≤ reachBytes := fun k hk => hw k (by
      rw [hx]
      simp only [DataW.weights, Tryd.underlying50, List.map_cons, List.map_nil, DataW.weightsEach, List.mem_append]
      rcases hk with hk | hk
      · exact Or.inl hk
      · exact Or.inr (Or.inl hk))
    obtain ⟨s0, e0, x0, _⟩ := DataW.trod_string Tryd.underlying9 h0
    obtain ⟨A, c, l, e1, hlc, hRB⟩ := open_key h1 (fun k hk => hwy k (Or.inr hk))
    obtain ⟨z2, e2, _, _⟩ := DataW.trod_int Tryd.underlying3 h2
    obtain ⟨z3, e3, _, _⟩ := DataW.trod_int Tryd.underlying3 h3
    obtain ⟨z4, e4, _, _⟩ := DataW.trod_int Tryd.underlying3 h4
    simp at e0 e2 e3 e4
    subst e0 e1 e2 e3 e4
    have hs0 : s0.size ≤ 140737488351232 := by
      have := hwy s0.data.toList.length (Or.inl (by rw [x0]; simp [DataW.weights]))
      rw [show reachBytes = 140737488351232 by decide, ← Lib.size_eq] at this
      exact this
    exact ⟨⟨s0, A, c, l, z2, z3, z4⟩, hat 0 (by decide), hat 1 (by decide), hat 2 (by decide), hat 3 (by decide), hat 4 (by decide), hRB, hlc, hs0⟩
set_option maxRecDepth 100000 in
/-- A slice of principals that came in. -/
theorem open_persons {W : World} {base : Nat} {v : Value} {d : DataW H} {ps : List MemPlace} {ts : List TypeId} {ds : List (DataW H)} {j : Nat}
    (hsz : (DataW.weightsEach Tryd.prog ts ds).all (· ≤ reachBytes) = true) (ht : ts[j]? = some 22) (hd : ds[j]? = some d)
    (hval : Value.okWide Tryd.prog W .any base 22 v) (h : DataW.Trod enc Tryd.prog W 0 (fun _ => true) true 22 v d ps) :
    ∃ (A : Option Addr) (c : Nat) (l : List Pin), v = .slice A l.length c ∧ l.length ≤ 140737488355328 ∧ RP W A l := by
  obtain ⟨A, len, cap, rfl⟩ := okWide_slice Tryd.underlying22 hval
  obtain ⟨fuel, hf⟩ := h
  have hw : ∀ n ∈ d.weights Tryd.prog 22, n ≤ reachBytes := fun n hn => of_decide_eq_true (List.all_eq_true.1 hsz _ (DataW.weights_mem_each ht hd _ hn))
  rcases open_slice Tryd.underlying22 hf with ⟨hcs, _⟩ | ⟨a, len', cap', m, n, D, Pl, hcs, _, hl, _, hmm, hx, hi⟩
  · simp [Value.cells] at hcs
    obtain ⟨rfl, rfl, rfl⟩ := hcs
    exact ⟨none, 0, [], rfl, by simp, fun i hi => by simp at hi⟩
  · simp [Value.cells] at hcs
    obtain ⟨rfl, rfl, rfl⟩ := hcs
    obtain ⟨hx, _⟩ := Prod.mk.inj hx
    simp only [if_true] at hmm
    have hreach : reachBytes = 140737488351232 := by decide
    have hlen : len ≤ 140737488351232 := by
      have := hw ((((List.range len).map D).length + ((List.range (m - len)).map fun j => D (len + j)).length) * 64) (by
        rw [hx]
        simp only [DataW.weights, Tryd.underlying22, bytesPers]
        exact List.mem_cons_self)
      rw [hreach] at this
      simp only [List.length_map, List.length_range] at this
      omega
    have hrows : ∀ r, r < len → ∃ x : Pin, W.cell? (a.add (r * 5 + 0)) = some (.string x.nm) ∧ W.cell? (a.add (r * 5 + 1)) = some (.slice x.A x.key.length x.c) ∧ W.cell? (a.add (r * 5 + 2)) = some (.int .i64 x.fl) ∧ W.cell? (a.add (r * 5 + 3)) = some (.int .i64 x.li) ∧ W.cell? (a.add (r * 5 + 4)) = some (.int .i64 x.re) ∧
      RB W x.A x.key ∧ x.key.length ≤ x.c ∧ x.nm.size ≤ 140737488351232 := fun r hr => by
      obtain ⟨cs', hc, ht'⟩ := hi r (by omega)
      rw [cellsPers] at hc
      have hm : D r ∈ (List.range len).map D := List.mem_map.2 ⟨r, List.mem_range.2 hr, rfl⟩
      obtain ⟨x, h0, h1, h2, h3, h4, h5⟩ := open_pin hc ht' (fun k hk => hw k (by
        rw [hx]
        simp only [DataW.weights, Tryd.underlying22, List.mem_cons, List.mem_append]
        exact Or.inr (Or.inl (weightsAll_mem hm _ hk))))
      rw [Go.Deep.add_add] at h0 h1 h2 h3 h4
      exact ⟨x, h0, h1, h2, h3, h4, h5⟩
    obtain ⟨f, hf'⟩ := choose_lt hrows
    have hlf : ((List.range len).map f).length = len := by simp
    refine ⟨some a, cap, (List.range len).map f, by rw [hlf], by rw [hlf]; omega, fun i hi' => ?_⟩
    rw [hlf] at hi'
    have hs : a.spot = none := by
      have := (hf' 0 (by omega)).1
      rw [Nat.zero_mul] at this
      exact spot_none this
    obtain ⟨b, off, spot⟩ := a
    simp only at hs
    subst hs
    obtain ⟨h0, h1, h2, h3, h4, h5, h6, h7⟩ := hf' i hi'
    simp only [add_plain] at h0 h1 h2 h3 h4
    have hb := World.block_lt_of_cell? W _ h0
    refine ⟨b, off, rfl, hb, ?_⟩
    rw [List.getElem_map, List.getElem_range]
    exact ⟨h0, h1, h2, h3, h4, h5, h6, h7⟩
set_option maxRecDepth 100000 in
theorem open_array {W : World} {base : Nat} {t e n : Nat} {k : IntKind} {v : Value} {d : DataW H} {ps : List MemPlace} (hu : Tryd.prog.underlying t = some (.array n e)) (he : Tryd.prog.underlying e = some (.int k)) (hc : Tryd.prog.cellsOf e = 1) (hct : Tryd.prog.cellsOf t = n)
    (hval : Value.okWide Tryd.prog W .any base t v) (h : DataW.Trod enc Tryd.prog W 0 (fun _ => true) true t v d ps) :
    ∃ zs : List Int, v = .agg (zs.map (Value.int k)).toArray ∧ zs.length = n ∧ ∀ z ∈ zs, (Lit.int k z).wf = true := by
  obtain ⟨cs, rfl, hsz, _⟩ : ∃ cs, v = .agg cs ∧ cs.size = Tryd.prog.cellsOf t ∧ Row.okWide Tryd.prog W .any base t cs := by
    simpa [Value.okWide, hu] using hval
  rw [hct] at hsz
  obtain ⟨fuel, hf⟩ := h
  obtain ⟨xs, m, _, ex, _, hl, hel⟩ := DataW.trod_array hu hf
  have key : ∀ i, i < n → ∃ z, cs.toList[i]? = some (.int k z) ∧ (Lit.int k z).wf = true := fun i hi => by
    have hE := hel i hi
    rw [hc, Nat.mul_one, List.getElem?_eq_getElem (by omega)] at hE
    obtain ⟨z, e1, e2, e3⟩ := DataW.trod_int he hE
    refine ⟨z, ?_, e3⟩
    have h0 : (((Value.agg cs).cells.toList.drop i).take 1)[0]? = [Value.int k z][0]? := congrArg (fun l => l[0]?) e1
    rw [List.getElem?_take, if_pos (by decide), List.getElem?_drop, Nat.add_zero] at h0
    exact h0
  refine ⟨cs.toList.map (fun v => match v with | .int _ z => z | _ => 0), ?_, by simp [hsz], ?_⟩
  · have : (cs.toList.map (fun v => match v with | .int _ z => z | _ => 0)).map (Value.int k) = cs.toList := by
      apply List.ext_getElem?
      intro i
      rw [List.getElem?_map, List.getElem?_map]
      by_cases hi : i < n
      · obtain ⟨z, hz, _⟩ := key i hi
        rw [hz]; rfl
      · rw [List.getElem?_eq_none (by simp; omega)]; rfl
    rw [this]
  · intro z hz
    obtain ⟨i, hi⟩ := List.mem_iff_getElem?.1 hz
    rw [List.getElem?_map] at hi
    by_cases hin : i < n
    · obtain ⟨z', hz', hw⟩ := key i hin
      rw [hz'] at hi
      simp at hi
      rw [← hi]; exact hw
    · rw [List.getElem?_eq_none (by simp; omega)] at hi; cases hi
theorem cells3 : Tryd.prog.cellsOf 23 = 3 := by kernel_rfl
theorem cellsInt1 : Tryd.prog.cellsOf 3 = 1 := by kernel_rfl
theorem open_three {W : World} {base : Nat} {v : Value} {d : DataW H} {ps : List MemPlace} (hval : Value.okWide Tryd.prog W .any base 23 v) (h : DataW.Trod enc Tryd.prog W 0 (fun _ => true) true 23 v d ps) :
    ∃ x0 x1 x2 : Int, v = .agg #[.int .i64 x0, .int .i64 x1, .int .i64 x2] := by
  obtain ⟨zs, rfl, hl, hw⟩ := open_array Tryd.underlying23 Tryd.underlying3 cellsInt1 cells3 hval h
  match zs, hl with
  | [x0, x1, x2], _ => exact ⟨x0, x1, x2, rfl⟩
theorem cellsTick : Tryd.prog.cellsOf 39 = 7 := by kernel_rfl
set_option maxRecDepth 100000 in
/-- A ticket that came in. -/
theorem open_tick {W : World} {base : Nat} {v : Value} {d : DataW H} {ps : List MemPlace} {ts : List TypeId} {ds : List (DataW H)} {j : Nat}
    (hsz : (DataW.weightsEach Tryd.prog ts ds).all (· ≤ reachBytes) = true) (ht : ts[j]? = some 39) (hd : ds[j]? = some d)
    (hval : Value.okWide Tryd.prog W .any base 39 v) (h : DataW.Trod enc Tryd.prog W 0 (fun _ => true) true 39 v d ps) :
    ∃ (cl sv : ByteArray) (A : Option Addr) (n c : Nat) (fr un re fl : Int), v = tkV cl sv A n c fr un re fl ∧ cl.size ≤ 140737488351232 ∧ sv.size ≤ 140737488351232 ∧ (Lit.int .i64 fl).wf = true := by
  have hw : ∀ n ∈ d.weights Tryd.prog 39, n ≤ reachBytes := fun n hn => of_decide_eq_true (List.all_eq_true.1 hsz _ (DataW.weights_mem_each ht hd _ hn))
  obtain ⟨cs, rfl, hcs⟩ := okWide_struct Tryd.underlying39 hval
  obtain ⟨l⟩ := cs
  obtain ⟨fuel, hf⟩ := h
  obtain ⟨ys, n, _, hx, hlen, hyl, hg⟩ := DataW.trod_struct Tryd.underlying39 hf
  have y7 : ys.length = 7 := hyl
  have l7 : l.length = 7 := by simpa using hcs.trans cellsTick
  have cS : Tryd.prog.cellsOf 9 = 1 := by kernel_rfl
  have cI : Tryd.prog.cellsOf 3 = 1 := by kernel_rfl
  have cB : Tryd.prog.cellsOf 24 = 1 := by kernel_rfl
  match l, l7, ys, y7 with
  | [c0, c1, c2, c3, c4, c5, c6], _, [y0, y1, y2, y3, y4, y5, y6], _ =>
    obtain ⟨hx, _⟩ := Prod.mk.inj hx
    have h0 : DataW.trod enc Tryd.prog W 0 (fun _ => true) true n 9 [c0] = some y0 := by simpa [cS, Value.cells] using hg 0 _ rfl
    have h1 : DataW.trod enc Tryd.prog W 0 (fun _ => true) true n 9 [c1] = some y1 := by simpa [cS, Value.cells] using hg 1 _ rfl
    have h2 : DataW.trod enc Tryd.prog W 0 (fun _ => true) true n 24 [c2] = some y2 := by simpa [cB, Value.cells] using hg 2 _ rfl
    have h3 : DataW.trod enc Tryd.prog W 0 (fun _ => true) true n 3 [c3] = some y3 := by simpa [cI, Value.cells] using hg 3 _ rfl
    have h4 : DataW.trod enc Tryd.prog W 0 (fun _ => true) true n 3 [c4] = some y4 := by simpa [cI, Value.cells] using hg 4 _ rfl
    have h5 : DataW.trod enc Tryd.prog W 0 (fun _ => true) true n 3 [c5] = some y5 := by simpa [cI, Value.cells] using hg 5 _ rfl
    have h6 : DataW.trod enc Tryd.prog W 0 (fun _ => true) true n 3 [c6] = some y6 := by simpa [cI, Value.cells] using hg 6 _ rfl
    have hwy : ∀ k, (k ∈ y0.1.weights Tryd.prog 9 ∨ k ∈ y1.1.weights Tryd.prog 9 ∨ k ∈ y2.1.weights Tryd.prog 24) → k ≤ reachBytes := fun k hk => hw k (by
      rw [hx]
      simp only [DataW.weights, Tryd.underlying39, List.map_cons, List.map_nil, DataW.weightsEach, List.mem_append]
      rcases hk with hk | hk | hk
      · exact Or.inl hk
      · exact Or.inr (Or.inl hk)
      · exact Or.inr (Or.inr (Or.inl hk)))
    obtain ⟨s0, e0, x0, _⟩ := DataW.trod_string Tryd.underlying9 h0
    obtain ⟨s1, e1, x1, _⟩ := DataW.trod_string Tryd.underlying9 h1
    obtain ⟨A, c, kl, e2, _, _⟩ := open_key h2 (fun k hk => hwy k (Or.inr (Or.inr hk)))
    obtain ⟨z3, e3, _, _⟩ := DataW.trod_int Tryd.underlying3 h3
    obtain ⟨z4, e4, _, _⟩ := DataW.trod_int Tryd.underlying3 h4
    obtain ⟨z5, e5, _, _⟩ := DataW.trod_int Tryd.underlying3 h5
    obtain ⟨z6, e6, _, w6⟩ := DataW.trod_int Tryd.underlying3 h6
    simp at e0 e1 e3 e4 e5 e6
    subst e0 e1 e2 e3 e4 e5 e6
    have hs0 : s0.size ≤ 140737488351232 := by
      have := hwy s0.data.toList.length (Or.inl (by rw [x0]; simp [DataW.weights]))
      rw [show reachBytes = 140737488351232 by decide, ← Lib.size_eq] at this
      exact this
    have hs1 : s1.size ≤ 140737488351232 := by
      have := hwy s1.data.toList.length (Or.inr (Or.inl (by rw [x1]; simp [DataW.weights])))
      rw [show reachBytes = 140737488351232 by decide, ← Lib.size_eq] at this
      exact this
    exact ⟨s0, s1, A, kl.length, c, z3, z4, z5, z6, rfl, hs0, hs1, w6⟩
end
end Go.Proofs.YteplaginenhfkaaDoor
