/-
  The walk of the statement WhoGrants.
-/
import Derived.Test.YteplaginenhfkaaDoorWhoI
import Derived.Test.YteplaginenhfkaaDoorWhoN
set_option linter.unusedVariables false
set_option linter.unusedSimpArgs false
namespace Go.Proofs.YteplaginenhfkaaDoor.Last
section
variable {P : Program} {ops : Array Oper} {Q : Exit → Act → World → Prop} {md : Region.Mode} {S : World → Prop} {ds pu : List Nat}
def wpHdP (P : Program) (ops : Array Oper) (S : World → Prop) (pu : List Nat) (K : Act → Prop) : List Nat → Act → Prop
  | [], a => K a
  | i :: r, a => ∃ o v, ops[i]? = some o ∧ YieldsIf P ops S o v a ∧ (i ∈ pu → Yields P ops o v a) ∧ wpHdP P ops S pu K r (a.put o.dst v)
def hdPB (md : Region.Mode) (ops : Array Oper) (ds pu rest : List Nat) : List Nat → Array Bool → Bool
  | [], listed => seqL md ops rest listed
  | i :: hd, listed => (decide (i ∈ pu) || (Region.closedB md ops listed && Region.lastB md ops listed ds i)) &&
      (Region.ready md ops listed).contains i && Region.free md ops listed i && hdPB md ops ds pu rest hd (listed.setIfInBounds i true)
theorem wpAnyLast_hdP (hsel : Region.noSelect ops = true) (hQ : ∀ (d : Option Tmp) (v : Value) c (a : Act) w, Q (.panic c) (a.put d v) w → Q (.panic c) a w) {rest : List Nat} {w : World} (hS : S w) :
    ∀ (hd : List Nat) (listed : Array Bool) (a : Act), hdPB md ops ds pu rest hd listed = true → wpHdP P ops S pu (fun a' => wpMid P ops Q S ds rest a' w) hd a → wpAnyLast P md ops Q S ds (hd.length + rest.length) listed a w
  | [], listed, a, hB, h => by
    rw [List.length_nil, Nat.zero_add]
    exact wpAnyLast_of_mid rest listed a w (by simpa [hdPB] using hB) h
  | i :: hd, listed, a, hB, h => by
    obtain ⟨o, v, h0, hy, hp, h⟩ := h
    simp only [hdPB, Bool.and_eq_true, Bool.or_eq_true, decide_eq_true_eq] at hB
    obtain ⟨⟨⟨hm, hr⟩, hf⟩, hB'⟩ := hB
    have hrest := wpAnyLast_hdP hsel hQ hS hd _ _ hB' h
    rw [List.length_cons, show hd.length + 1 + rest.length = (hd.length + rest.length) + 1 by omega]
    rcases hm with hm | ⟨hc, hl⟩
    · exact wpAnyLast_any h0 (Region.noSelect_spec hsel) (fun c a w => hQ _ _ c a w) _ _ _ _ (Region.free_spec h0 hf) (by simpa using hr) (hp hm) hrest
    · exact wpAnyLast_take h0 hsel hf hr hc hl (fun c a w => hQ _ _ c a w) hy hS hrest
def holdPB (md : Region.Mode) (ops : Array Oper) (hd rest ds pu : List Nat) : Bool :=
  Region.noSelect ops && decide (hd.length + rest.length = ops.size) && hdPB md ops ds pu rest hd (Array.replicate ops.size false)
/-- Reads first; those of pu tell the same in whatever world. -/
theorem region_holdP {id : Nat} {a : Act} {w : World} {l : List Oper} (S : World → Prop) (hd rest ds pu : List Nat) (hm : P.follows .mixedOrders = true) (hB : holdPB .any l.toArray hd rest ds pu = true)
    (hQ : ∀ (d : Option Tmp) (v : Value) c (a : Act) w, Q (.panic c) (a.put d v) w → Q (.panic c) a w) (hS : S (w.drewN 1))
    (h : wpHdP P l.toArray S pu (fun a' => wpMid P l.toArray Q S ds rest a' (w.drewN 1)) hd a) : (Code.region id l.toArray true).wp P Q a w := by
  simp only [holdPB, Bool.and_eq_true, decide_eq_true_eq] at hB
  obtain ⟨⟨hsel, hn⟩, hlex⟩ := hB
  refine wp_region_last (S := S) (ds := ds) hm ?_
  have H := wpAnyLast_hdP (P := P) (md := .any) (Q := Q) (S := S) (ds := ds) hsel hQ hS hd _ a hlex h
  rw [hn] at H
  exact H
theorem holdP_read {K : Act → Prop} {i : Nat} {r : List Nat} {a : Act} (o : Oper) (v : Value) (hi : ops[i]? = some o) (hg : o.guard = none) (hn : i ∉ pu) (hr : ∀ w, S w → (execOp a.eval o).run P w = .ok (.value v) w)
    (h : wpHdP P ops S pu K r (a.put o.dst v)) : wpHdP P ops S pu K (i :: r) a :=
  ⟨o, v, hi, .inl ⟨by simp [Region.wanted, hg], hr⟩, fun hp => absurd hp hn, h⟩
theorem holdP_pure {K : Act → Prop} {i : Nat} {r : List Nat} {a : Act} (o : Oper) (v : Value) (hi : ops[i]? = some o) (hg : o.guard = none) (hr : ∀ w, (execOp a.eval o).run P w = .ok (.value v) w)
    (h : wpHdP P ops S pu K r (a.put o.dst v)) : wpHdP P ops S pu K (i :: r) a :=
  ⟨o, v, hi, .inl ⟨by simp [Region.wanted, hg], fun w _ => hr w⟩, fun _ => .inl ⟨by simp [Region.wanted, hg], hr⟩, h⟩
end
end Go.Proofs.YteplaginenhfkaaDoor.Last
namespace Go.Proofs.YteplaginenhfkaaDoor
open Go.RowKit

set_option maxRecDepth 100000 in
set_option maxHeartbeats 2000000 in
theorem same_tick_c (t : GT) (w : World) : Calls Tryd.prog 20 #[t.val, t.val] w fun e w' => e = .returned (.bool true) ∧ Below w.heap.size w w' := by
  obtain ⟨cl, sv, fr, un, re, fl⟩ := t
  unfold GT.val tkV
  go_enter Tryd.func20, Tryd.ntmps20
  go_wp2_with fail
  have hsm := fun W => same_c none none 0 0 [] [] W (RB.nil _ _) (RB.nil _ _)
  rw [decide_eq_true rfl] at hsm
  refine (hsm _).mono ?_
  clear hsm
  rintro e w' ⟨rfl, rfl⟩
  go_wp2_with fail
  go_ret
  exact ⟨rfl, below_alloc (below_alloc (Below.refl _ _) _) _⟩
theorem BkA.low {w : World} {B p mp : Nat} {v : Value} {L : List Ent} (h : BkA w B p mp v L) (g : Nat) (hg : g < B) (cs : Array Value) : BkA (w.setRow g cs) B p mp v L :=
  h.kept (OnlyS.setRow (fun k => k = g) w g cs rfl) (fun k hk e => by subst e; exact h.not_low k hg hk) (fun e he hb => by have := (h.keys e he).2.2; omega)
theorem RbA.low {w : World} {B q : Nat} {u : Value} {M : List Ent} (h : RbA w B q u M) (g : Nat) (hg : g < B) (cs : Array Value) : RbA (w.setRow g cs) B q u M :=
  h.kept (OnlyS.setRow (fun k => k = g) w g cs rfl) (fun k hk e => by
    subst e
    rcases hk with hk | hk
    · have := h.hq; omega
    · have := (h.own_first _ hk).2.1; omega) (fun e he hb => by have := (h.keys e he).2.2; omega)
theorem Twins.ok {L M : List Ent} (h : Twins L M) (hf : ∀ e ∈ L, e.full) : ∀ e ∈ M, e.ok := fun y hy => by
  have hm : y.who ∈ L.map Ent.who := by rw [show L.map Ent.who = M.map Ent.who from h]; exact List.mem_map.2 ⟨y, hy, rfl⟩
  obtain ⟨x, hx, e⟩ := List.mem_map.1 hm
  obtain ⟨⟨a, b, c⟩, _⟩ := hf x hx
  have e1 : x.fl = y.fl := congrArg Who.fl e
  have e2 : x.li = y.li := congrArg Who.li e
  have e3 : x.re = y.re := congrArg Who.re e
  exact ⟨by rw [← e1]; exact a, by rw [← e2]; exact b, by rw [← e3]; exact c⟩
set_option maxRecDepth 100000 in
set_option maxHeartbeats 4000000 in
theorem law_who_grants (A : Option Addr) (c : Nat) (ps : List Pin) (cl sv : ByteArray) (TA : Option Addr) (tn tc : Nat) (fr un re fl now : Int) (w : World) (hl : ps.length ≤ 140737488355328) (hR : RP w A ps) (hcl : cl.size ≤ 140737488351232) (hsv : sv.size ≤ 140737488351232)
    (hfl : -9223372036854775808 ≤ fl ∧ fl ≤ 9223372036854775807) (hT : Tab w) :
    Calls Tryd.prog 4 #[.slice A ps.length c, tkV cl sv TA tn tc fr un re fl, .int .i64 now] w fun e w' => e = .returned (.bool true) ∧ Below w.heap.size w w' := by
  have hzt := zeroTick
  unfold tkV
  obtain ⟨W0, hW0⟩ : ∃ W0, W0 = w.alloc (.cells #[.string cl, .string sv, .slice TA tn tc, .int .i64 fr, .int .i64 un, .int .i64 re, .int .i64 fl] 39) := ⟨_, rfl⟩
  have hb0 : Below w.heap.size w W0 := by rw [hW0]; exact below_alloc (Below.refl _ _) _
  have HBC := Lib.hid (both_c A c ps W0 hl (hR.below hb0))
  obtain ⟨t4, ht4⟩ : ∃ t4, t4 = w.heap.size := ⟨_, rfl⟩
  have R4 := Lib.hid (show W0.heap[t4]? = some (.cells #[.string cl, .string sv, .slice TA tn tc, .int .i64 fr, .int .i64 un, .int .i64 re, .int .i64 fl] 39 (0, 0)) by rw [hW0, ht4]; exact blk_new _ rfl)
  have HT := Lib.hid hT; have B0 := Lib.hid hb0; have HW0 := Lib.hid hW0; have HT4 := Lib.hid ht4; have HFL := Lib.hid hfl
  obtain ⟨m1, hm1⟩ : ∃ m, m = min cl.size 100 := ⟨_, rfl⟩
  obtain ⟨m2, hm2⟩ : ∃ m, m = min sv.size 100 := ⟨_, rfl⟩
  have hk1 := min_len cl.size 100 100 rfl
  have hk2 := min_len sv.size 100 100 rfl
  rw [← hm1] at hk1
  rw [← hm2] at hk2
  obtain ⟨S1, hS1⟩ : ∃ x, x = cutS cl 100 := ⟨_, rfl⟩
  obtain ⟨S2, hS2⟩ : ∃ x, x = cutS sv 100 := ⟨_, rfl⟩
  have hsl1 := fun W => run_slice_str cl m1 (by omega) W
  rw [hm1, show cl.extract 0 (min cl.size 100) = S1 from hS1.symm, ← hm1] at hsl1
  have hsl2 := fun W => run_slice_str sv m2 (by omega) W
  rw [hm2, show sv.extract 0 (min sv.size 100) = S2 from hS2.symm, ← hm2] at hsl2
  have HK1 := Lib.hid hk1; have HK2 := Lib.hid hk2; have HSL1 := Lib.hid hsl1; have HSL2 := Lib.hid hsl2
  clear hl hR hT hm1 hm2 hk1 hk2 hsl1 hsl2 hS1 hS2 hb0 hW0 ht4 hfl
  go_enter Tryd.func4, Tryd.ntmps4
  go_wp2_with fail
  rw [← HW0.out, ← HT4.out]
  refine HBC.out.mono ?_
  rintro e w1 ⟨p, mp, q, rfl, v, L, u, M, hx, hy, ht, hf, hLk, hb1⟩
  have BX := Lib.hid hx; have BY := Lib.hid hy; have TW := Lib.hid ht; have LK := Lib.hid hLk; have FU := Lib.hid hf; have B1 := Lib.hid (B0.out.trans (hb1.mono B0.out.size))
  have R41 := Lib.hid (blk_below R4.out hb1 (Array.getElem?_eq_some_iff.1 R4.out).1)
  have TLT := Lib.hid (Array.getElem?_eq_some_iff.1 R4.out).1
  clear hx hy ht hf hLk hb1
  go_wp2_with fail
  have SC := Lib.hid (show ∀ W : World, (∀ j, W.cell? ⟨t4, j, none⟩ = w1.cell? ⟨t4, j, none⟩) → (W.cell? ⟨t4, 0, none⟩ = some (.string cl) ∧ W.cell? ⟨t4, 1, none⟩ = some (.string sv)) from fun W hW =>
    ⟨(hW 0).trans ((cell_of_row w1 t4 0 _ _ _ R41.out).trans rfl), (hW 1).trans ((cell_of_row w1 t4 1 _ _ _ R41.out).trans rfl)⟩)
  refine Last.region_holdP (fun W => ∀ j, W.cell? ⟨t4, j, none⟩ = w1.cell? ⟨t4, j, none⟩) [0, 1, 2, 3, 4, 5, 6, 7, 8, 9, 10, 11, 12, 13, 14] [15, 16, 17] [15, 16, 17] [11, 12, 13] (by kernel_rfl) (by kernel_rfl) (fun d _ _ _ _ h => by cases d <;> exact h) (fun _ => rfl) ?_
  refine Last.holdP_read _ (.pointer (some ⟨t4, 0, none⟩)) rfl rfl (by decide) (fun W' _ => ?_) ?_
  · go_simp
  refine Last.holdP_read _ (.string cl) rfl rfl (by decide) (fun W' hW => ?_) ?_
  · have hc := (SC.out W' hW).1
    clear hW
    go_simp
  refine Last.holdP_read _ (.pointer (some ⟨t4, 0, none⟩)) rfl rfl (by decide) (fun W' _ => ?_) ?_
  · go_simp
  refine Last.holdP_read _ (.string cl) rfl rfl (by decide) (fun W' hW => ?_) ?_
  · have hc := (SC.out W' hW).1
    clear hW
    go_simp
  refine Last.holdP_read _ (.int .i64 (cl.size : Int)) rfl rfl (by decide) (fun W' hW => ?_) ?_
  · clear hW
    go_simp
  refine Last.holdP_read _ (.int .i64 (m1 : Int)) rfl rfl (by decide) (fun W' hW => ?_) ?_
  · have hc := HK1.out
    clear hW
    go_simp
  refine Last.holdP_read _ (.string S1) rfl rfl (by decide) (fun W' hW => ?_) ?_
  · have hc := HSL1.out W'
    clear hW
    go_simp
  refine Last.holdP_read _ (.pointer (some ⟨t4, 1, none⟩)) rfl rfl (by decide) (fun W' _ => ?_) ?_
  · go_simp
  refine Last.holdP_read _ (.string sv) rfl rfl (by decide) (fun W' hW => ?_) ?_
  · have hc := (SC.out W' hW).2
    clear hW
    go_simp
  refine Last.holdP_read _ (.pointer (some ⟨t4, 1, none⟩)) rfl rfl (by decide) (fun W' _ => ?_) ?_
  · go_simp
  refine Last.holdP_read _ (.string sv) rfl rfl (by decide) (fun W' hW => ?_) ?_
  · have hc := (SC.out W' hW).2
    clear hW
    go_simp
  refine Last.holdP_pure _ (.int .i64 (sv.size : Int)) rfl rfl (fun W' => ?_) ?_
  · go_simp
  refine Last.holdP_pure _ (.int .i64 (m2 : Int)) rfl rfl (fun W' => ?_) ?_
  · have hc := HK2.out
    go_simp
  refine Last.holdP_pure _ (.string S2) rfl rfl (fun W' => ?_) ?_
  · have hc := HSL2.out W'
    go_simp
  refine Last.holdP_read _ (.pointer (some ⟨t4, 0, none⟩)) rfl rfl (by decide) (fun W' _ => ?_) ?_
  · go_simp
  show Last.wpMid _ _ _ _ _ _ _ _
  refine Last.mid_tail 15 (by kernel_rfl) (by decide) ?_
  simp only [List.drop_succ_cons, List.drop_zero]
  have hd1 : Below w1.heap.size w1 (w1.drewN 1) := below_drewN (Below.refl _ _) 1
  have R4D := Lib.hid (blk_below R41.out hd1 (Array.getElem?_eq_some_iff.1 R41.out).1)
  obtain ⟨Z0, hZ0⟩ : ∃ Z0, Z0 = w1.drewN 1 := ⟨_, rfl⟩
  have BX := Lib.hid (BX.out.below hd1); have BY := Lib.hid (BY.out.below hd1); have BZ := Lib.hid (B1.out.trans (hd1.mono B1.out.size))
  rw [← hZ0] at BX BY BZ R4D ⊢
  clear hZ0 hd1
  rw [← row_same R4D.out]
  have hset := fun cs i v => row_set R4D.out cs i v
  have hcell := fun cs j => row_cell R4D.out cs j
  have hfro := fun cs j => row_frozen R4D.out cs j
  go_wp2_with fail
  clear hset hcell hfro
  obtain ⟨Z, hZ⟩ : ∃ Z, Z = Z0.setRow t4 #[.string S1, .string S2, .slice TA tn tc, .int .i64 fr, .int .i64 un, .int .i64 re, .int .i64 fl] := ⟨_, rfl⟩
  rw [← hZ]
  have BX := Lib.hid (show BkA Z W0.heap.size p mp v L by rw [hZ]; exact BX.out.low t4 TLT.out _)
  have BY := Lib.hid (show RbA Z W0.heap.size q u M by rw [hZ]; exact BY.out.low t4 TLT.out _)
  have BZ := Lib.hid (show Below w.heap.size w Z by rw [hZ]; exact below_setRow BZ.out (by rw [HT4.out]; exact Nat.le_refl _) _)
  have R4 := Lib.hid (show Z.heap[t4]? = some (.cells #[.string S1, .string S2, .slice TA tn tc, .int .i64 fr, .int .i64 un, .int .i64 re, .int .i64 fl] 39 (0, 0)) by rw [hZ]; exact setRow_heap _ _ _ _ _ _ R4D.out)
  clear hZ
  have hgc := grant_c _ p mp v L S1 S2 TA tn tc fr un re fl now Z BX.out (fun e he => (FU.out e he).1)
  obtain ⟨⟨T, cd, er⟩, hG⟩ : ∃ x, x = grantK (lookE L S1) (lookE L S2) S1 S2 fr un re fl now := ⟨_, rfl⟩
  rw [← hG] at hgc
  have HG := Lib.hid hG
  refine hgc.mono ?_
  clear hgc hG
  rintro e w2 ⟨rfl, hb2⟩
  have BX := Lib.hid (BX.out.below hb2); have BY := Lib.hid (BY.out.below hb2); have BZ := Lib.hid (BZ.out.trans (hb2.mono BZ.out.size)); have R4 := Lib.hid (blk_below R4.out hb2 (Array.getElem?_eq_some_iff.1 R4.out).1)
  clear hb2
  unfold GT.val tkV
  simp only
  have hb3 : Below w2.heap.size w2 (w2.alloc (.cells #[.string T.cl, .string T.sv, .slice none 0 0, .int .i64 T.fr, .int .i64 T.un, .int .i64 T.re, .int .i64 T.fl] 39)) := below_alloc (Below.refl _ _) _
  have R43 := blk_below R4.out hb3 (Array.getElem?_eq_some_iff.1 R4.out).1
  have ct0 := (cell_of_row _ t4 0 _ _ _ R43).trans rfl
  have ct1 := (cell_of_row _ t4 1 _ _ _ R43).trans rfl
  have ct2 := (cell_of_row _ t4 2 _ _ _ R43).trans rfl
  have ct3 := (cell_of_row _ t4 3 _ _ _ R43).trans rfl
  have ct4 := (cell_of_row _ t4 4 _ _ _ R43).trans rfl
  have ct5 := (cell_of_row _ t4 5 _ _ _ R43).trans rfl
  have ct6 := (cell_of_row _ t4 6 _ _ _ R43).trans rfl
  clear hb3 R43
  go_wp2_with fail
  clear ct0 ct1 ct2 ct3 ct4 ct5 ct6
  obtain ⟨X3, hX3⟩ : ∃ X, X = w2.alloc (.cells #[.string T.cl, .string T.sv, .slice none 0 0, .int .i64 T.fr, .int .i64 T.un, .int .i64 T.re, .int .i64 T.fl] 39) := ⟨_, rfl⟩
  obtain ⟨t10, ht10⟩ : ∃ t, t = w2.heap.size := ⟨_, rfl⟩
  rw [← hX3, ← ht10]
  have hbX : Below w2.heap.size w2 X3 := by rw [hX3]; exact below_alloc (Below.refl _ _) _
  have R10 := Lib.hid (show X3.heap[t10]? = some (.cells #[.string T.cl, .string T.sv, .slice none 0 0, .int .i64 T.fr, .int .i64 T.un, .int .i64 T.re, .int .i64 T.fl] 39 (0, 0)) by rw [hX3, ht10]; exact blk_new _ rfl)
  have BX := Lib.hid (BX.out.below hbX); have BY := Lib.hid (BY.out.below hbX); have BZ := Lib.hid (BZ.out.trans (hbX.mono BZ.out.size))
  clear hX3 ht10 hbX
  have hgc := rgrant_c _ q u M S1 S2 TA tn tc fr un re fl now X3 BY.out (by have := LK.out; have := TW.out.length; omega) (TW.out.ok FU.out) HFL.out
  rw [← TW.out.lookE, ← TW.out.lookE, ← HG.out] at hgc
  refine hgc.mono ?_
  clear hgc
  rintro e w4 ⟨rfl, hb4⟩
  have BZ := Lib.hid (BZ.out.trans (hb4.mono BZ.out.size))
  have hb5 : Below w4.heap.size w4 (w4.alloc (.cells #[.string T.cl, .string T.sv, .slice none 0 0, .int .i64 T.fr, .int .i64 T.un, .int .i64 T.re, .int .i64 T.fl] 39)) := below_alloc (Below.refl _ _) _
  have R105 := blk_below (blk_below R10.out hb4 (Array.getElem?_eq_some_iff.1 R10.out).1) hb5 (Nat.lt_of_lt_of_le (Array.getElem?_eq_some_iff.1 R10.out).1 hb4.size)
  unfold GT.val tkV
  simp only
  have ct0 := (cell_of_row _ t10 0 _ _ _ R105).trans rfl
  have ct1 := (cell_of_row _ t10 1 _ _ _ R105).trans rfl
  have ct2 := (cell_of_row _ t10 2 _ _ _ R105).trans rfl
  have ct3 := (cell_of_row _ t10 3 _ _ _ R105).trans rfl
  have ct4 := (cell_of_row _ t10 4 _ _ _ R105).trans rfl
  have ct5 := (cell_of_row _ t10 5 _ _ _ R105).trans rfl
  have ct6 := (cell_of_row _ t10 6 _ _ _ R105).trans rfl
  clear hb4 hb5 R105
  go_wp2_with fail
  clear ct0 ct1 ct2 ct3 ct4 ct5 ct6
  refine (same_tick_c T _).mono ?_
  rintro e w5 ⟨rfl, hb5⟩
  have BZ := Lib.hid ((below_alloc BZ.out (.cells #[.string T.cl, .string T.sv, .slice none 0 0, .int .i64 T.fr, .int .i64 T.un, .int .i64 T.re, .int .i64 T.fl] 39)).trans (hb5.mono (by have := BZ.out.size; simp; omega)))
  clear hb5
  go_wp2_with fail
  refine (works_c19 w5 (HT.out.below BZ.out)).mono ?_
  rintro e w6 ⟨rfl, hb6⟩
  have BZ := Lib.hid (BZ.out.trans (hb6.mono BZ.out.size))
  clear hb6
  go_wp2_with fail
  go_ret
  exact ⟨rfl, BZ.out⟩
end Go.Proofs.YteplaginenhfkaaDoor
