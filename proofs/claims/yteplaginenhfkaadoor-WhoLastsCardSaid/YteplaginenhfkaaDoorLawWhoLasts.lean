/-
  The walk of the statement WhoLasts.
-/
import Derived.Test.YteplaginenhfkaaDoorWhoI
import Derived.Test.YteplaginenhfkaaDoorWhoM
set_option linter.unusedVariables false
set_option linter.unusedSimpArgs false
namespace Go.Proofs.YteplaginenhfkaaDoor.Last
section
variable {P : Program} {ops : Array Oper} {Q : Exit → Act → World → Prop} {md : Region.Mode} {S : World → Prop} {ds pu : List Nat}
def wpHdP (P : Program) (ops : Array Oper) (S : World → Prop) (pu : List Nat) (K : Act → Prop) : List Nat → Act → Prop
  | [], a => K a
  | i :: r, a => ∃ o v, ops[i]? = some o ∧ YieldsIf P ops S o v a ∧ (i ∈ pu → Yields P ops o v a) ∧ wpHdP P ops S pu K r (a.put o.dst v)
def hdPB (md : Region.Mode) (ops : Array Oper) (ds pu rest : List Nat) : List Nat → Array Bool → Bool
  | [], listed => seqL md ops rest listed
  | i :: hd, listed => (decide (i ∈ pu) || (Region.closedB md ops listed && Region.lastB md ops listed ds i)) &&
      (Region.ready md ops listed).contains i && Region.free md ops listed i && hdPB md ops ds pu rest hd (listed.setIfInBounds i true)
theorem wpAnyLast_hdP (hsel : Region.noSelect ops = true) (hQ : ∀ (d : Option Tmp) (v : Value) c (a : Act) w, Q (.panic c) (a.put d v) w → Q (.panic c) a w) {rest : List Nat} {w : World} (hS : S w) :
    ∀ (hd : List Nat) (listed : Array Bool) (a : Act), hdPB md ops ds pu rest hd listed = true → wpHdP P ops S pu (fun a' => wpMid P ops Q S ds rest a' w) hd a → wpAnyLast P md ops Q S ds (hd.length + rest.length) listed a w
  | [], listed, a, hB, h => by
    rw [List.length_nil, Nat.zero_add]
    exact wpAnyLast_of_mid rest listed a w (by simpa [hdPB] using hB) h
  | i :: hd, listed, a, hB, h => by
    obtain ⟨o, v, h0, hy, hp, h⟩ := h
    simp only [hdPB, Bool.and_eq_true, Bool.or_eq_true, decide_eq_true_eq] at hB
    obtain ⟨⟨⟨hm, hr⟩, hf⟩, hB'⟩ := hB
    have hrest := wpAnyLast_hdP hsel hQ hS hd _ _ hB' h
    rw [List.length_cons, show hd.length + 1 + rest.length = (hd.length + rest.length) + 1 by omega]
    rcases hm with hm | ⟨hc, hl⟩
    · exact wpAnyLast_any h0 (Region.noSelect_spec hsel) (fun c a w => hQ _ _ c a w) _ _ _ _ (Region.free_spec h0 hf) (by simpa using hr) (hp hm) hrest
    · exact wpAnyLast_take h0 hsel hf hr hc hl (fun c a w => hQ _ _ c a w) hy hS hrest
def holdPB (md : Region.Mode) (ops : Array Oper) (hd rest ds pu : List Nat) : Bool :=
  Region.noSelect ops && decide (hd.length + rest.length = ops.size) && hdPB md ops ds pu rest hd (Array.replicate ops.size false)
/-- Reads first; those of pu tell the same in whatever world. -/
theorem region_holdP {id : Nat} {a : Act} {w : World} {l : List Oper} (S : World → Prop) (hd rest ds pu : List Nat) (hm : P.follows .mixedOrders = true) (hB : holdPB .any l.toArray hd rest ds pu = true)
    (hQ : ∀ (d : Option Tmp) (v : Value) c (a : Act) w, Q (.panic c) (a.put d v) w → Q (.panic c) a w) (hS : S (w.drewN 1))
    (h : wpHdP P l.toArray S pu (fun a' => wpMid P l.toArray Q S ds rest a' (w.drewN 1)) hd a) : (Code.region id l.toArray true).wp P Q a w := by
  simp only [holdPB, Bool.and_eq_true, decide_eq_true_eq] at hB
  obtain ⟨⟨hsel, hn⟩, hlex⟩ := hB
  refine wp_region_last (S := S) (ds := ds) hm ?_
  have H := wpAnyLast_hdP (P := P) (md := .any) (Q := Q) (S := S) (ds := ds) hsel hQ hS hd _ a hlex h
  rw [hn] at H
  exact H
theorem holdP_read {K : Act → Prop} {i : Nat} {r : List Nat} {a : Act} (o : Oper) (v : Value) (hi : ops[i]? = some o) (hg : o.guard = none) (hn : i ∉ pu) (hr : ∀ w, S w → (execOp a.eval o).run P w = .ok (.value v) w)
    (h : wpHdP P ops S pu K r (a.put o.dst v)) : wpHdP P ops S pu K (i :: r) a :=
  ⟨o, v, hi, .inl ⟨by simp [Region.wanted, hg], hr⟩, fun hp => absurd hp hn, h⟩
theorem holdP_pure {K : Act → Prop} {i : Nat} {r : List Nat} {a : Act} (o : Oper) (v : Value) (hi : ops[i]? = some o) (hg : o.guard = none) (hr : ∀ w, (execOp a.eval o).run P w = .ok (.value v) w)
    (h : wpHdP P ops S pu K r (a.put o.dst v)) : wpHdP P ops S pu K (i :: r) a :=
  ⟨o, v, hi, .inl ⟨by simp [Region.wanted, hg], fun w _ => hr w⟩, fun _ => .inl ⟨by simp [Region.wanted, hg], hr⟩, h⟩
end
end Go.Proofs.YteplaginenhfkaaDoor.Last
namespace Go.Proofs.YteplaginenhfkaaDoor
open Go.RowKit

set_option maxRecDepth 100000 in
set_option maxHeartbeats 2000000 in
theorem same_tick_c (t : GT) (w : World) : Calls Tryd.prog 20 #[t.val, t.val] w fun e w' => e = .returned (.bool true) ∧ Below w.heap.size w w' := by
  obtain ⟨cl, sv, fr, un, re, fl⟩ := t
  unfold GT.val tkV
  go_enter Tryd.func20, Tryd.ntmps20
  go_wp2_with fail
  have hsm := fun W => same_c none none 0 0 [] [] W (RB.nil _ _) (RB.nil _ _)
  rw [decide_eq_true rfl] at hsm
  refine (hsm _).mono ?_
  clear hsm
  rintro e w' ⟨rfl, rfl⟩
  go_wp2_with fail
  go_ret
  exact ⟨rfl, below_alloc (below_alloc (Below.refl _ _) _) _⟩
theorem BkA.low {w : World} {B p mp : Nat} {v : Value} {L : List Ent} (h : BkA w B p mp v L) (g : Nat) (hg : g < B) (cs : Array Value) : BkA (w.setRow g cs) B p mp v L :=
  h.kept (OnlyS.setRow (fun k => k = g) w g cs rfl) (fun k hk e => by subst e; exact h.not_low k hg hk) (fun e he hb => by have := (h.keys e he).2.2; omega)
theorem RbA.low {w : World} {B q : Nat} {u : Value} {M : List Ent} (h : RbA w B q u M) (g : Nat) (hg : g < B) (cs : Array Value) : RbA (w.setRow g cs) B q u M :=
  h.kept (OnlyS.setRow (fun k => k = g) w g cs rfl) (fun k hk e => by
    subst e
    rcases hk with hk | hk
    · have := h.hq; omega
    · have := (h.own_first _ hk).2.1; omega) (fun e he hb => by have := (h.keys e he).2.2; omega)
theorem Twins.ok {L M : List Ent} (h : Twins L M) (hf : ∀ e ∈ L, e.full) : ∀ e ∈ M, e.ok := fun y hy => by
  have hm : y.who ∈ L.map Ent.who := by rw [show L.map Ent.who = M.map Ent.who from h]; exact List.mem_map.2 ⟨y, hy, rfl⟩
  obtain ⟨x, hx, e⟩ := List.mem_map.1 hm
  obtain ⟨⟨a, b, c⟩, _⟩ := hf x hx
  have e1 : x.fl = y.fl := congrArg Who.fl e
  have e2 : x.li = y.li := congrArg Who.li e
  have e3 : x.re = y.re := congrArg Who.re e
  exact ⟨by rw [← e1]; exact a, by rw [← e2]; exact b, by rw [← e3]; exact c⟩
/-! ### What lasts -/
structure Lasts (x y : Ent) (cl sv : ByteArray) (re fl now : Int) (T : GT) : Prop where
  now0 : 0 ≤ now ∧ now ≤ 1099511627776
  c : T.cl = cl
  s : T.sv = sv
  f0 : 0 ≤ T.fr ∧ T.fr ≤ 1099511627776
  u0 : 0 ≤ T.un ∧ T.un ≤ 2199023255552
  r0 : 0 ≤ T.re ∧ T.re ≤ 2199023255552
  fromNow : now ≤ T.fr
  untilThen : T.fr < T.un
  life : T.un - T.fr ≤ mn x.li y.li
  flags : ((T.fl = 0 ∨ T.fl = 8) ∧ T.re = 0) ∨ ((fl = 4 ∨ fl = 12) ∧ T.fl = fl ∧ 0 < re ∧ T.un ≤ T.re ∧ (T.re - T.fr ≤ mn x.re y.re ∨ T.re = T.un))
theorem refused_zero {fr un fl cfl cli sfl sli now : Int} (h : refusedS fr un fl cfl cli sfl sli now = 0) :
    ¬ bits .and .i64 cfl 1 = 0 ∧ ¬ bits .and .i64 sfl 2 = 0 ∧ bits .andNot .i64 fl (bits .and .i64 (bits .and .i64 cfl sfl) 12) = 0 ∧ ¬ (un ≠ 0 ∧ un ≤ mx fr now) := by
  unfold refusedS refusedZ at h
  by_cases h1 : bits .and .i64 cfl 1 = 0
  · rw [if_pos h1] at h; cases h
  · rw [if_neg h1] at h
    by_cases h2 : bits .and .i64 sfl 2 = 0
    · rw [if_pos h2] at h; cases h
    · rw [if_neg h2] at h
      by_cases h3 : bits .andNot .i64 fl (bits .and .i64 (bits .and .i64 cfl sfl) 12) = 0
      · rw [if_neg (fun e => e h3)] at h
        by_cases h4 : (if sli < cli then sli else cli) < fr - now
        · rw [if_pos h4] at h; cases h
        · rw [if_neg h4] at h
          by_cases h5 : un ≠ 0 ∧ un ≤ (if fr < now then now else fr)
          · rw [if_pos h5] at h; cases h
          · exact ⟨h1, h2, h3, h5⟩
      · rw [if_pos h3] at h; cases h
theorem flags_in {fl cfl sfl : Int} (hc : 0 ≤ cfl ∧ cfl ≤ 15) (hs : 0 ≤ sfl ∧ sfl ≤ 15) (hf : -9223372036854775808 ≤ fl ∧ fl ≤ 9223372036854775807) (e : bits .andNot .i64 fl (bits .and .i64 (bits .and .i64 cfl sfl) 12) = 0) : fl = 0 ∨ fl = 4 ∨ fl = 8 ∨ fl = 12 := by
  obtain ⟨c, rfl⟩ := fin16 hc
  obtain ⟨s, rfl⟩ := fin16 hs
  rcases bm_mask c s with hm | hm | hm | hm
  · exact bm_other fl hf.1 hf.2 0 (by rw [hm] at e; exact e)
  · exact bm_other fl hf.1 hf.2 1 (by rw [hm] at e; exact e)
  · exact bm_other fl hf.1 hf.2 2 (by rw [hm] at e; exact e)
  · exact bm_other fl hf.1 hf.2 3 (by rw [hm] at e; exact e)
theorem and4 : bits .and .i64 (0 : Int) 4 = 0 ∧ bits .and .i64 (4 : Int) 4 = 4 ∧ bits .and .i64 (8 : Int) 4 = 0 ∧ bits .and .i64 (12 : Int) 4 = 4 := by decide +kernel
theorem not4 : bits .andNot .i64 (0 : Int) 4 = 0 ∧ bits .andNot .i64 (4 : Int) 4 = 0 ∧ bits .andNot .i64 (8 : Int) 4 = 8 ∧ bits .andNot .i64 (12 : Int) 4 = 8 := by decide +kernel
theorem lasts_of {x y : Ent} {cl sv : ByteArray} {fr un re fl now : Int} (hx : x.ok) (hy : y.ok) (h1 : [now, fr, un, re].all okTime = true) (hr : ¬ (un ≠ 0 ∧ un ≤ mx fr now)) (hf : fl = 0 ∨ fl = 4 ∨ fl = 8 ∨ fl = 12) :
    Lasts x y cl sv re fl now (grantT cl sv fr un re fl x.li x.re y.li y.re now) := by
  have hbd : (0 ≤ now ∧ now ≤ 1099511627776) ∧ (0 ≤ fr ∧ fr ≤ 1099511627776) ∧ (0 ≤ un ∧ un ≤ 1099511627776) ∧ (0 ≤ re ∧ re ≤ 1099511627776) := by
    simpa [okTime] using h1
  obtain ⟨⟨q1, q2⟩, ⟨q3, q4⟩, ⟨q5, q6⟩, q7, q8⟩ := hbd
  obtain ⟨_, ⟨x1, x2⟩, x3, x4⟩ := hx
  obtain ⟨_, ⟨y1, y2⟩, y3, y4⟩ := hy
  obtain ⟨F, hF⟩ : ∃ F, mx fr now = F := ⟨_, rfl⟩
  obtain ⟨Mn, hM⟩ : ∃ F, mn x.li y.li = F := ⟨_, rfl⟩
  obtain ⟨Rn, hR⟩ : ∃ F, mn x.re y.re = F := ⟨_, rfl⟩
  have f1 : now ≤ F ∧ 0 ≤ F ∧ F ≤ 1099511627776 := by rw [← hF]; unfold mx; split <;> omega
  have m1 : 1 ≤ Mn ∧ Mn ≤ 1099511627776 := by rw [← hM]; unfold mn; split <;> omega
  have r1 : 1 ≤ Rn ∧ Rn ≤ 1099511627776 := by rw [← hR]; unfold mn; split <;> omega
  obtain ⟨U, hU⟩ : ∃ U, (if un = 0 ∨ F + Mn < un then F + Mn else un) = U := ⟨_, rfl⟩
  rw [hF] at hr
  have u1 : F < U ∧ U ≤ F + Mn := by
    rw [← hU]
    by_cases e1 : un = 0
    · rw [if_pos (Or.inl e1)]; omega
    · by_cases e2 : F + Mn < un
      · rw [if_pos (Or.inr e2)]; omega
      · rw [if_neg (fun h => h.elim e1 e2)]
        have : ¬ un ≤ F := fun h => hr ⟨e1, h⟩
        omega
  obtain ⟨Z1, hZ1⟩ : ∃ Z, mn re (F + Rn) = Z := ⟨_, rfl⟩
  have z1 : 0 ≤ Z1 ∧ Z1 ≤ F + Rn ∧ Z1 ≤ re := by rw [← hZ1]; unfold mn; split <;> omega
  obtain ⟨Z2, hZ2⟩ : ∃ Z, mx Z1 U = Z := ⟨_, rfl⟩
  have z2 : U ≤ Z2 ∧ (Z2 = Z1 ∨ Z2 = U) := by rw [← hZ2]; unfold mx; split <;> omega
  rw [grantT_eq hF hM hR hU hZ1 hZ2 rfl rfl]
  by_cases hc : bits .and .i64 fl 4 = 0 ∨ re = 0
  · rw [if_pos hc]
    refine ⟨⟨q1, q2⟩, rfl, rfl, ⟨f1.2.1, f1.2.2⟩, ⟨by show 0 ≤ U; omega, by show U ≤ _; omega⟩, ⟨Int.le_refl 0, by show (0 : Int) ≤ _; decide⟩, f1.1, u1.1, by show U - F ≤ _; omega, Or.inl ⟨?_, rfl⟩⟩
    show bits .andNot .i64 fl 4 = 0 ∨ bits .andNot .i64 fl 4 = 8
    rcases hf with rfl | rfl | rfl | rfl
    · exact Or.inl not4.1
    · exact Or.inl not4.2.1
    · exact Or.inr not4.2.2.1
    · exact Or.inr not4.2.2.2
  · rw [if_neg hc]
    have hre : ¬ re = 0 := fun h => hc (Or.inr h)
    refine ⟨⟨q1, q2⟩, rfl, rfl, ⟨f1.2.1, f1.2.2⟩, ⟨by show 0 ≤ U; omega, by show U ≤ _; omega⟩, ⟨by show 0 ≤ Z2; omega, by show Z2 ≤ _; omega⟩, f1.1, u1.1, by show U - F ≤ _; omega, Or.inr ⟨?_, rfl, by omega, z2.1, by show Z2 - F ≤ _ ∨ Z2 = U; omega⟩⟩
    rcases hf with rfl | rfl | rfl | rfl
    · exact absurd (Or.inl and4.1) hc
    · exact Or.inl rfl
    · exact absurd (Or.inl and4.2.2.1) hc
    · exact Or.inr rfl
theorem grant_tells {L : List Ent} {cl sv : ByteArray} {fr un re fl now : Int} {T : GT} {cd er : Int} (hok : ∀ e ∈ L, e.ok) (hf : -9223372036854775808 ≤ fl ∧ fl ≤ 9223372036854775807) (h : (T, cd, er) = grantK (lookE L cl) (lookE L sv) cl sv fr un re fl now) :
    (¬ (er = 0 ∧ cd = 0) → T = zeroT) ∧ (er = 0 → cd = 0 → ∃ x y, findE L cl = some x ∧ findE L sv = some y ∧ Lasts x y cl sv re fl now T) := by
  cases h1 : [now, fr, un, re].all okTime with
  | false =>
    unfold grantK at h
    rw [if_pos h1] at h
    injection h with e1 e2
    injection e2 with e2 e3
    exact ⟨fun _ => e1, fun e => by rw [e3] at e; cases e⟩
  | true =>
    by_cases h2 : refusedS fr un fl (lookE L cl).fl (lookE L cl).li (lookE L sv).fl (lookE L sv).li now = 0
    · unfold grantK at h
      rw [if_neg (by rw [h1]; decide), if_neg (fun h => h h2)] at h
      injection h with e1 e2
      injection e2 with e2 e3
      refine ⟨fun hn => absurd ⟨e3, e2⟩ hn, fun _ _ => ?_⟩
      obtain ⟨a1, a2, a3, a4⟩ := refused_zero h2
      cases hc : findE L cl with
      | none =>
        exfalso
        apply a1
        rw [show (lookE L cl).fl = 0 by unfold lookE; rw [hc]; rfl]
        decide +kernel
      | some x =>
        cases hs : findE L sv with
        | none =>
          exfalso
          apply a2
          rw [show (lookE L sv).fl = 0 by unfold lookE; rw [hs]; rfl]
          decide +kernel
        | some y =>
          have hx := hok x (List.mem_of_find?_eq_some hc)
          have hy := hok y (List.mem_of_find?_eq_some hs)
          have ex : lookE L cl = x.lk := by unfold lookE; rw [hc]; rfl
          have ey : lookE L sv = y.lk := by unfold lookE; rw [hs]; rfl
          rw [ex, ey] at a3
          have hfl := flags_in hx.1 hy.1 hf a3
          refine ⟨x, y, rfl, rfl, ?_⟩
          rw [e1, ex, ey]
          exact lasts_of hx hy h1 a4 hfl
    · unfold grantK at h
      rw [if_neg (by rw [h1]; decide), if_pos h2] at h
      injection h with e1 e2
      injection e2 with e2 e3
      exact ⟨fun _ => e1, fun _ e => absurd (e2.symm.trans e) h2⟩
theorem who_find {L M : List Ent} (h : Twins L M) {s : ByteArray} {x : Ent} (hx : findE L s = some x) : ∃ y, findE M s = some y ∧ y.who = x.who := by
  have h1 := h.find s
  rw [hx] at h1
  cases hb : findE M s with
  | none => rw [hb] at h1; cases h1
  | some y => rw [hb] at h1; exact ⟨y, rfl, by injection h1 with h1; exact h1.symm⟩
set_option maxRecDepth 100000 in
set_option maxHeartbeats 8000000 in
theorem law_who_lasts (A : Option Addr) (c : Nat) (ps : List Pin) (cl sv : ByteArray) (TA : Option Addr) (tn tc : Nat) (fr un re fl now : Int) (w : World) (hl : ps.length ≤ 140737488355328) (hR : RP w A ps) (hcl : cl.size ≤ 140737488351232) (hsv : sv.size ≤ 140737488351232)
    (hfl : -9223372036854775808 ≤ fl ∧ fl ≤ 9223372036854775807) (hT : Tab w) :
    Calls Tryd.prog 5 #[.slice A ps.length c, tkV cl sv TA tn tc fr un re fl, .int .i64 now] w fun e w' => e = .returned (.bool true) ∧ Below w.heap.size w w' := by
  have hzt := zeroTick
  have hzr := zeroRPers
  unfold tkV
  obtain ⟨W0, hW0⟩ : ∃ W0, W0 = w.alloc (.cells #[.string cl, .string sv, .slice TA tn tc, .int .i64 fr, .int .i64 un, .int .i64 re, .int .i64 fl] 39) := ⟨_, rfl⟩
  have hb0 : Below w.heap.size w W0 := by rw [hW0]; exact below_alloc (Below.refl _ _) _
  have HWK := Lib.hid (works_c19 W0 (hT.below hb0))
  obtain ⟨t4, ht4⟩ : ∃ t4, t4 = w.heap.size := ⟨_, rfl⟩
  have R4 := Lib.hid (show W0.heap[t4]? = some (.cells #[.string cl, .string sv, .slice TA tn tc, .int .i64 fr, .int .i64 un, .int .i64 re, .int .i64 fl] 39 (0, 0)) by rw [hW0, ht4]; exact blk_new _ rfl)
  have HT := Lib.hid hT; have B0 := Lib.hid hb0; have HW0 := Lib.hid hW0; have HT4 := Lib.hid ht4; have HFL := Lib.hid hfl; have HL := Lib.hid hl; have HR := Lib.hid (hR.below hb0)
  obtain ⟨m1, hm1⟩ : ∃ m, m = min cl.size 100 := ⟨_, rfl⟩
  obtain ⟨m2, hm2⟩ : ∃ m, m = min sv.size 100 := ⟨_, rfl⟩
  have hk1 := min_len cl.size 100 100 rfl
  have hk2 := min_len sv.size 100 100 rfl
  rw [← hm1] at hk1
  rw [← hm2] at hk2
  obtain ⟨S1, hS1⟩ : ∃ x, x = cutS cl 100 := ⟨_, rfl⟩
  obtain ⟨S2, hS2⟩ : ∃ x, x = cutS sv 100 := ⟨_, rfl⟩
  have hsl1 := fun W => run_slice_str cl m1 (by omega) W
  rw [hm1, show cl.extract 0 (min cl.size 100) = S1 from hS1.symm, ← hm1] at hsl1
  have hsl2 := fun W => run_slice_str sv m2 (by omega) W
  rw [hm2, show sv.extract 0 (min sv.size 100) = S2 from hS2.symm, ← hm2] at hsl2
  have HK1 := Lib.hid hk1; have HK2 := Lib.hid hk2; have HSL1 := Lib.hid hsl1; have HSL2 := Lib.hid hsl2
  clear hl hR hT hm1 hm2 hk1 hk2 hsl1 hsl2 hS1 hS2 hb0 hW0 ht4 hfl
  go_enter Tryd.func5, Tryd.ntmps5
  go_wp2_with fail
  rw [← HW0.out, ← HT4.out]
  refine HWK.out.mono ?_
  rintro e w0 ⟨rfl, hb⟩
  have HBC := Lib.hid (both_c A c ps w0 HL.out (HR.out.below hb))
  have B0 := Lib.hid (B0.out.trans (hb.mono B0.out.size)); have R4 := Lib.hid (blk_below R4.out hb (Array.getElem?_eq_some_iff.1 R4.out).1)
  clear hb
  go_wp2_with fail
  refine HBC.out.mono ?_
  rintro e w1 ⟨p, mp, q, rfl, v, L, u, M, hx, hy, ht, hf, hLk, hb1⟩
  have BX := Lib.hid hx; have BY := Lib.hid hy; have TW := Lib.hid ht; have LK := Lib.hid hLk; have FU := Lib.hid hf; have B1 := Lib.hid (B0.out.trans (hb1.mono B0.out.size))
  have R41 := Lib.hid (blk_below R4.out hb1 (Array.getElem?_eq_some_iff.1 R4.out).1)
  have TLT := Lib.hid (Array.getElem?_eq_some_iff.1 R4.out).1
  clear hx hy ht hf hLk hb1
  go_wp2_with fail
  have SC := Lib.hid (show ∀ W : World, (∀ j, W.cell? ⟨t4, j, none⟩ = w1.cell? ⟨t4, j, none⟩) → (W.cell? ⟨t4, 0, none⟩ = some (.string cl) ∧ W.cell? ⟨t4, 1, none⟩ = some (.string sv)) from fun W hW =>
    ⟨(hW 0).trans ((cell_of_row w1 t4 0 _ _ _ R41.out).trans rfl), (hW 1).trans ((cell_of_row w1 t4 1 _ _ _ R41.out).trans rfl)⟩)
  refine Last.region_holdP (fun W => ∀ j, W.cell? ⟨t4, j, none⟩ = w1.cell? ⟨t4, j, none⟩) [0, 1, 2, 3, 4, 5, 6, 7, 8, 9, 10, 11, 12, 13, 14] [15, 16, 17] [15, 16, 17] [11, 12, 13] (by kernel_rfl) (by kernel_rfl) (fun d _ _ _ _ h => by cases d <;> exact h) (fun _ => rfl) ?_
  refine Last.holdP_read _ (.pointer (some ⟨t4, 0, none⟩)) rfl rfl (by decide) (fun W' _ => ?_) ?_
  · go_simp
  refine Last.holdP_read _ (.string cl) rfl rfl (by decide) (fun W' hW => ?_) ?_
  · have hc := (SC.out W' hW).1
    clear hW
    go_simp
  refine Last.holdP_read _ (.pointer (some ⟨t4, 0, none⟩)) rfl rfl (by decide) (fun W' _ => ?_) ?_
  · go_simp
  refine Last.holdP_read _ (.string cl) rfl rfl (by decide) (fun W' hW => ?_) ?_
  · have hc := (SC.out W' hW).1
    clear hW
    go_simp
  refine Last.holdP_read _ (.int .i64 (cl.size : Int)) rfl rfl (by decide) (fun W' hW => ?_) ?_
  · clear hW
    go_simp
  refine Last.holdP_read _ (.int .i64 (m1 : Int)) rfl rfl (by decide) (fun W' hW => ?_) ?_
  · have hc := HK1.out
    clear hW
    go_simp
  refine Last.holdP_read _ (.string S1) rfl rfl (by decide) (fun W' hW => ?_) ?_
  · have hc := HSL1.out W'
    clear hW
    go_simp
  refine Last.holdP_read _ (.pointer (some ⟨t4, 1, none⟩)) rfl rfl (by decide) (fun W' _ => ?_) ?_
  · go_simp
  refine Last.holdP_read _ (.string sv) rfl rfl (by decide) (fun W' hW => ?_) ?_
  · have hc := (SC.out W' hW).2
    clear hW
    go_simp
  refine Last.holdP_read _ (.pointer (some ⟨t4, 1, none⟩)) rfl rfl (by decide) (fun W' _ => ?_) ?_
  · go_simp
  refine Last.holdP_read _ (.string sv) rfl rfl (by decide) (fun W' hW => ?_) ?_
  · have hc := (SC.out W' hW).2
    clear hW
    go_simp
  refine Last.holdP_pure _ (.int .i64 (sv.size : Int)) rfl rfl (fun W' => ?_) ?_
  · go_simp
  refine Last.holdP_pure _ (.int .i64 (m2 : Int)) rfl rfl (fun W' => ?_) ?_
  · have hc := HK2.out
    go_simp
  refine Last.holdP_pure _ (.string S2) rfl rfl (fun W' => ?_) ?_
  · have hc := HSL2.out W'
    go_simp
  refine Last.holdP_read _ (.pointer (some ⟨t4, 0, none⟩)) rfl rfl (by decide) (fun W' _ => ?_) ?_
  · go_simp
  show Last.wpMid _ _ _ _ _ _ _ _
  refine Last.mid_tail 15 (by kernel_rfl) (by decide) ?_
  simp only [List.drop_succ_cons, List.drop_zero]
  have hd1 : Below w1.heap.size w1 (w1.drewN 1) := below_drewN (Below.refl _ _) 1
  have R4D := Lib.hid (blk_below R41.out hd1 (Array.getElem?_eq_some_iff.1 R41.out).1)
  obtain ⟨Z0, hZ0⟩ : ∃ Z0, Z0 = w1.drewN 1 := ⟨_, rfl⟩
  have BX := Lib.hid (BX.out.below hd1); have BY := Lib.hid (BY.out.below hd1); have BZ := Lib.hid (B1.out.trans (hd1.mono B1.out.size))
  rw [← hZ0] at BX BY BZ R4D ⊢
  clear hZ0 hd1
  rw [← row_same R4D.out]
  have hset := fun cs i v => row_set R4D.out cs i v
  have hcell := fun cs j => row_cell R4D.out cs j
  have hfro := fun cs j => row_frozen R4D.out cs j
  go_wp2_with fail
  clear hset hcell hfro
  obtain ⟨Z, hZ⟩ : ∃ Z, Z = Z0.setRow t4 #[.string S1, .string S2, .slice TA tn tc, .int .i64 fr, .int .i64 un, .int .i64 re, .int .i64 fl] := ⟨_, rfl⟩
  rw [← hZ]
  have BX := Lib.hid (show BkA Z w0.heap.size p mp v L by rw [hZ]; exact BX.out.low t4 TLT.out _)
  have BY := Lib.hid (show RbA Z w0.heap.size q u M by rw [hZ]; exact BY.out.low t4 TLT.out _)
  have BZ := Lib.hid (show Below w.heap.size w Z by rw [hZ]; exact below_setRow BZ.out (by rw [HT4.out]; exact Nat.le_refl _) _)
  have R4 := Lib.hid (show Z.heap[t4]? = some (.cells #[.string S1, .string S2, .slice TA tn tc, .int .i64 fr, .int .i64 un, .int .i64 re, .int .i64 fl] 39 (0, 0)) by rw [hZ]; exact setRow_heap _ _ _ _ _ _ R4D.out)
  clear hZ
  have hgc := grant_c _ p mp v L S1 S2 TA tn tc fr un re fl now Z BX.out (fun e he => (FU.out e he).1)
  obtain ⟨⟨T, cd, er⟩, hG⟩ : ∃ x, x = grantK (lookE L S1) (lookE L S2) S1 S2 fr un re fl now := ⟨_, rfl⟩
  rw [← hG] at hgc
  obtain ⟨hno, hyes⟩ := grant_tells (fun e he => (FU.out e he).1) HFL.out hG
  have HNO := Lib.hid hno; have HYES := Lib.hid hyes
  refine hgc.mono ?_
  clear hgc hG hno hyes
  rintro e w2 ⟨rfl, hb2⟩
  have BY := Lib.hid (BY.out.below hb2); have BZ := Lib.hid (BZ.out.trans (hb2.mono BZ.out.size)); have R4 := Lib.hid (blk_below R4.out hb2 (Array.getElem?_eq_some_iff.1 R4.out).1)
  clear hb2
  simp only
  by_cases g1 : er = 0 ∧ cd = 0
  · obtain ⟨rfl, rfl⟩ := g1
    obtain ⟨x, y, hfx, hfy, hla⟩ := HYES.out rfl rfl
    obtain ⟨x', hfx', ewx⟩ := who_find TW.out hfx
    obtain ⟨y', hfy', ewy⟩ := who_find TW.out hfy
    obtain ⟨⟨n1, n2⟩, l1, l2, ⟨f1, f2⟩, ⟨u1, u2⟩, ⟨r1, r2⟩, l3, l4, l5, l6⟩ := hla
    obtain ⟨Tcl, Tsv, Tf, Tu, Tr, Tl⟩ := T
    simp only at l1 l2 f1 f2 u1 u2 r1 r2 l3 l4 l5 l6
    subst l1 l2
    rw [show x.li = x'.li from (congrArg Who.li ewx).symm, show y.li = y'.li from (congrArg Who.li ewy).symm] at l5
    rw [show x.re = x'.re from (congrArg Who.re ewx).symm, show y.re = y'.re from (congrArg Who.re ewy).symm] at l6
    have HFX := Lib.hid hfx'; have HFY := Lib.hid hfy'
    have L5 := Lib.hid l5; have L6 := Lib.hid l6
    clear hfx hfy hfx' hfy' ewx ewy l5 l6 HNO HYES
    unfold GT.val tkV
    simp only
    have hb3 : Below w2.heap.size w2 (w2.alloc (.cells #[.string Tcl, .string Tsv, .slice none 0 0, .int .i64 Tf, .int .i64 Tu, .int .i64 Tr, .int .i64 Tl] 39)) := below_alloc (Below.refl _ _) _
    have ct0 := (cell_of_row _ t4 0 _ _ _ (blk_below R4.out hb3 (Array.getElem?_eq_some_iff.1 R4.out).1)).trans rfl
    go_wp2_with fail
    clear ct0
    obtain ⟨X3, hX3⟩ : ∃ X, X = w2.alloc (.cells #[.string Tcl, .string Tsv, .slice none 0 0, .int .i64 Tf, .int .i64 Tu, .int .i64 Tr, .int .i64 Tl] 39) := ⟨_, rfl⟩
    obtain ⟨t10, ht10⟩ : ∃ t, t = w2.heap.size := ⟨_, rfl⟩
    rw [← hX3] at hb3
    rw [← hX3, ← ht10]
    have R10 := Lib.hid (show X3.heap[t10]? = some (.cells #[.string Tcl, .string Tsv, .slice none 0 0, .int .i64 Tf, .int .i64 Tu, .int .i64 Tr, .int .i64 Tl] 39 (0, 0)) by rw [hX3, ht10]; exact blk_new _ rfl)
    have BY := Lib.hid (BY.out.below hb3); have BZ := Lib.hid (BZ.out.trans (hb3.mono BZ.out.size)); have R4 := Lib.hid (blk_below R4.out hb3 (Array.getElem?_eq_some_iff.1 R4.out).1)
    clear hX3 ht10 hb3
    refine (rfind_c _ q u M Tcl X3 BY.out (by have := LK.out; have := TW.out.length; omega)).mono ?_
    intro e w4 hpost
    obtain ⟨hb4, _, hp2⟩ := hpost
    obtain ⟨A2, d2, rfl, _, _⟩ := hp2 x' HFX.out
    have BY := Lib.hid (BY.out.below hb4); have BZ := Lib.hid (BZ.out.trans (hb4.mono BZ.out.size)); have R4 := Lib.hid (blk_below R4.out hb4 (Array.getElem?_eq_some_iff.1 R4.out).1); have R10 := Lib.hid (blk_below R10.out hb4 (Array.getElem?_eq_some_iff.1 R10.out).1)
    clear hb4 hp2
    obtain ⟨xn, xb, xc, xk, xfl, xli, xre⟩ := x'
    obtain ⟨k2, hk2⟩ : ∃ k, k = xk.length := ⟨_, rfl⟩
    simp only at L5 L6
    simp only
    rw [← hk2]
    unfold persV
    clear hk2
    have hb5 : Below w4.heap.size w4 (w4.alloc (.cells #[.string xn, .slice A2 k2 d2, .int .i64 xfl, .int .i64 xli, .int .i64 xre] 45)) := below_alloc (Below.refl _ _) _
    have ct1 := (cell_of_row _ t4 1 _ _ _ (blk_below R4.out hb5 (Array.getElem?_eq_some_iff.1 R4.out).1)).trans rfl
    go_wp2_with fail
    clear ct1
    obtain ⟨X5, hX5⟩ : ∃ X, X = w4.alloc (.cells #[.string xn, .slice A2 k2 d2, .int .i64 xfl, .int .i64 xli, .int .i64 xre] 45) := ⟨_, rfl⟩
    obtain ⟨t13, ht13⟩ : ∃ t, t = w4.heap.size := ⟨_, rfl⟩
    rw [← hX5] at hb5
    rw [← hX5, ← ht13]
    have R13 := Lib.hid (show X5.heap[t13]? = some (.cells #[.string xn, .slice A2 k2 d2, .int .i64 xfl, .int .i64 xli, .int .i64 xre] 45 (0, 0)) by rw [hX5, ht13]; exact blk_new _ rfl)
    have BY := Lib.hid (BY.out.below hb5); have BZ := Lib.hid (BZ.out.trans (hb5.mono BZ.out.size)); have R4 := Lib.hid (blk_below R4.out hb5 (Array.getElem?_eq_some_iff.1 R4.out).1); have R10 := Lib.hid (blk_below R10.out hb5 (Array.getElem?_eq_some_iff.1 R10.out).1)
    clear hX5 ht13 hb5
    refine (rfind_c _ q u M Tsv X5 BY.out (by have := LK.out; have := TW.out.length; omega)).mono ?_
    intro e w6 hpost
    obtain ⟨hb6, _, hp2⟩ := hpost
    obtain ⟨A5, d5, rfl, _, _⟩ := hp2 y' HFY.out
    have BZ := Lib.hid (BZ.out.trans (hb6.mono BZ.out.size)); have R4 := Lib.hid (blk_below R4.out hb6 (Array.getElem?_eq_some_iff.1 R4.out).1); have R10 := Lib.hid (blk_below R10.out hb6 (Array.getElem?_eq_some_iff.1 R10.out).1); have R13 := Lib.hid (blk_below R13.out hb6 (Array.getElem?_eq_some_iff.1 R13.out).1)
    clear hb6 hp2
    obtain ⟨yn, yb, yc, yk, yfl, yli, yre⟩ := y'
    obtain ⟨k5, hk5⟩ : ∃ k, k = yk.length := ⟨_, rfl⟩
    simp only at L5 L6
    simp only
    rw [← hk5]
    unfold persV
    clear hk5
    go_wp2_with fail
    obtain ⟨X7, hX7⟩ : ∃ X, X = w6.alloc (.cells #[.string yn, .slice A5 k5 d5, .int .i64 yfl, .int .i64 yli, .int .i64 yre] 45) := ⟨_, rfl⟩
    obtain ⟨t15, ht15⟩ : ∃ t, t = w6.heap.size := ⟨_, rfl⟩
    have hb7 : Below w6.heap.size w6 X7 := by rw [hX7]; exact below_alloc (Below.refl _ _) _
    have R15 : X7.heap[t15]? = some (.cells #[.string yn, .slice A5 k5 d5, .int .i64 yfl, .int .i64 yli, .int .i64 yre] 45 (0, 0)) := by rw [hX7, ht15]; exact blk_new _ rfl
    rw [← hX7, ← ht15]
    have BZ := Lib.hid (BZ.out.trans (hb7.mono BZ.out.size)); have R4 := Lib.hid (blk_below R4.out hb7 (Array.getElem?_eq_some_iff.1 R4.out).1); have R10 := Lib.hid (blk_below R10.out hb7 (Array.getElem?_eq_some_iff.1 R10.out).1)
    have R13 := blk_below R13.out hb7 (Array.getElem?_eq_some_iff.1 R13.out).1
    have u3 : X7.cell? ⟨t13, 3, none⟩ = some (.int .i64 xli) := cell_of_row X7 t13 3 _ _ _ R13
    have u4 : X7.cell? ⟨t13, 4, none⟩ = some (.int .i64 xre) := cell_of_row X7 t13 4 _ _ _ R13
    have v3 : X7.cell? ⟨t15, 3, none⟩ = some (.int .i64 yli) := cell_of_row X7 t15 3 _ _ _ R15
    have v4 : X7.cell? ⟨t15, 4, none⟩ = some (.int .i64 yre) := cell_of_row X7 t15 4 _ _ _ R15
    clear hX7 ht15 hb7 R13 R15
    obtain ⟨Mn, hM⟩ : ∃ F, (if yli < xli then yli else xli) = F := ⟨_, rfl⟩
    obtain ⟨Rn, hR⟩ : ∃ F, (if yre < xre then yre else xre) = F := ⟨_, rfl⟩
    have l5 := L5.out
    have l6 := L6.out
    rw [show mn xli yli = Mn from hM] at l5
    rw [show mn xre yre = Rn from hR] at l6
    have L6 := Lib.hid l6
    clear l6
    go_quiet (fail)
    clear u3 u4 v3 v4 hM hR
    obtain ⟨Y, hY⟩ : ∃ Y, Y = X7.drewN nq := ⟨_, rfl⟩
    have hbY : Below X7.heap.size X7 Y := by rw [hY]; exact below_drewN (Below.refl _ _) _
    have BZ := Lib.hid (BZ.out.trans (hbY.mono BZ.out.size))
    have R4 := blk_below R4.out hbY (Array.getElem?_eq_some_iff.1 R4.out).1
    have R10 := blk_below R10.out hbY (Array.getElem?_eq_some_iff.1 R10.out).1
    rw [← hY]
    clear hY hbY
    have ct0 : Y.cell? ⟨t4, 0, none⟩ = some (.string Tcl) := cell_of_row Y t4 0 _ _ _ R4
    have ct1 : Y.cell? ⟨t4, 1, none⟩ = some (.string Tsv) := cell_of_row Y t4 1 _ _ _ R4
    have ct5 : Y.cell? ⟨t4, 5, none⟩ = some (.int .i64 re) := cell_of_row Y t4 5 _ _ _ R4
    have ct6 : Y.cell? ⟨t4, 6, none⟩ = some (.int .i64 fl) := cell_of_row Y t4 6 _ _ _ R4
    have d0 : Y.cell? ⟨t10, 0, none⟩ = some (.string Tcl) := cell_of_row Y t10 0 _ _ _ R10
    have d1 : Y.cell? ⟨t10, 1, none⟩ = some (.string Tsv) := cell_of_row Y t10 1 _ _ _ R10
    have d2' : Y.cell? ⟨t10, 2, none⟩ = some (.slice none 0 0) := cell_of_row Y t10 2 _ _ _ R10
    have d3 : Y.cell? ⟨t10, 3, none⟩ = some (.int .i64 Tf) := cell_of_row Y t10 3 _ _ _ R10
    have d4 : Y.cell? ⟨t10, 4, none⟩ = some (.int .i64 Tu) := cell_of_row Y t10 4 _ _ _ R10
    have d5' : Y.cell? ⟨t10, 5, none⟩ = some (.int .i64 Tr) := cell_of_row Y t10 5 _ _ _ R10
    have d6 : Y.cell? ⟨t10, 6, none⟩ = some (.int .i64 Tl) := cell_of_row Y t10 6 _ _ _ R10
    clear R4 R10
    have h1 : ¬ Tf < now := by omega
    have h2 : ¬ Tu ≤ Tf := by omega
    have h3 : ¬ Mn < Tu - Tf := by omega
    rcases L6.out with ⟨hT, hr0⟩ | ⟨hT, rfl, hre, hur, hlast⟩
    · subst hr0
      rcases hT with rfl | rfl
      all_goals
        go_wp2_with fail
        go_ret
        exact ⟨rfl, BZ.out⟩
    · have h4 : ¬ Tr < Tu := by omega
      rcases hT with rfl | rfl
      all_goals
        by_cases e5 : Tr - Tf ≤ Rn
        · go_wp2_with fail
          go_ret
          exact ⟨rfl, BZ.out⟩
        · obtain rfl : Tr = Tu := hlast.resolve_left e5
          go_wp2_with fail
          go_ret
          exact ⟨rfl, BZ.out⟩
  · obtain rfl := HNO.out g1
    unfold zeroT GT.val tkV
    simp only
    have HSZ := Lib.hid (fun W => same_tick_c zeroT W)
    by_cases g2 : er = 0
    · subst g2
      have g3 : (cd != 0) = true := by simpa using g1
      go_wp2_with fail
      refine (HSZ.out _).mono ?_
      rintro e w5 ⟨rfl, hb5⟩
      have BZ := Lib.hid ((below_alloc BZ.out (.cells #[.string ByteArray.empty, .string ByteArray.empty, .slice none 0 0, .int .i64 0, .int .i64 0, .int .i64 0, .int .i64 0] 39)).trans (hb5.mono (by have := BZ.out.size; simp; omega)))
      go_wp2
      go_ret
      exact ⟨rfl, BZ.out⟩
    · have g3 : (er != 0) = true := by simpa using g2
      clear g1
      go_wp2_with fail
      refine (HSZ.out _).mono ?_
      rintro e w5 ⟨rfl, hb5⟩
      have BZ := Lib.hid ((below_alloc BZ.out (.cells #[.string ByteArray.empty, .string ByteArray.empty, .slice none 0 0, .int .i64 0, .int .i64 0, .int .i64 0, .int .i64 0] 39)).trans (hb5.mono (by have := BZ.out.size; simp; omega)))
      go_wp2
      go_ret
      exact ⟨rfl, BZ.out⟩
end Go.Proofs.YteplaginenhfkaaDoor
