/-
  who: the walks of refused and Grant.
-/
import Derived.Test.YteplaginenhfkaaDoorWho9
import Derived.Test.YteplaginenhfkaaDoorHold2
set_option linter.unusedVariables false
set_option linter.unusedSimpArgs false
namespace Go.Proofs.YteplaginenhfkaaDoor
open Go.RowKit

def tkV (cl sv : ByteArray) (A : Option Addr) (n c : Nat) (fr un re fl : Int) : Value := .agg #[.string cl, .string sv, .slice A n c, .int .i64 fr, .int .i64 un, .int .i64 re, .int .i64 fl]
def refusedZ (z1 z2 z3 fr un cli sli now : Int) : Int :=
  if z1 = 0 then 6 else if z2 = 0 then 7 else if z3 ≠ 0 then 12 else if (if sli < cli then sli else cli) < fr - now then 12 else if un ≠ 0 ∧ un ≤ (if fr < now then now else fr) then 12 else 0
def refusedS (fr un fl cfl cli sfl sli now : Int) : Int :=
  refusedZ (bits .and .i64 cfl 1) (bits .and .i64 sfl 2) (bits .andNot .i64 fl (bits .and .i64 (bits .and .i64 cfl sfl) 12)) fr un cli sli now
theorem retZ {a b : Int} {w w' : World} (h : b = a) (hb : Below w.heap.size w w') : (Ending.returned (Value.int .i64 a) = .returned (.int .i64 b)) ∧ Below w.heap.size w w' := ⟨by rw [h], hb⟩
set_option maxRecDepth 100000 in
set_option maxHeartbeats 1000000 in
theorem refused_c (cl sv : ByteArray) (A : Option Addr) (n c : Nat) (fr un re fl : Int) (cn : ByteArray) (cA : Option Addr) (cm cc : Nat) (cfl cli cre : Int) (sn : ByteArray) (sA : Option Addr) (sm sc : Nat) (sfl sli sre now : Int) (w : World)
    (h1 : 0 ≤ fr) (h2 : fr ≤ 1099511627776) (h3 : 0 ≤ now) (h4 : now ≤ 1099511627776) :
    Calls Tryd.prog 42 #[tkV cl sv A n c fr un re fl, persV cn cA cm cc cfl cli cre, persV sn sA sm sc sfl sli sre, .int .i64 now] w fun e w' => e = .returned (.int .i64 (refusedS fr un fl cfl cli sfl sli now)) ∧ Below w.heap.size w w' := by
  unfold tkV persV refusedS
  obtain ⟨z0, hz0⟩ : ∃ z0, bits .and .i64 (bits .and .i64 cfl sfl) 12 = z0 := ⟨_, rfl⟩
  obtain ⟨z1, hz1⟩ : ∃ z1, bits .and .i64 cfl 1 = z1 := ⟨_, rfl⟩
  obtain ⟨z2, hz2⟩ : ∃ z1, bits .and .i64 sfl 2 = z1 := ⟨_, rfl⟩
  rw [hz0, hz1, hz2]
  obtain ⟨z3, hz3⟩ : ∃ z1, bits .andNot .i64 fl z0 = z1 := ⟨_, rfl⟩
  rw [hz3]
  go_enter Tryd.func42, Tryd.ntmps42
  go_wp2
  all_goals
    go_ret
    refine retZ ?_ (below_alloc (below_alloc (below_alloc (Below.refl _ _) _) _) _)
    unfold refusedZ
    simp_all <;> omega
/-! ### Grant -/
structure GT where
  cl : ByteArray
  sv : ByteArray
  fr : Int
  un : Int
  re : Int
  fl : Int
def GT.val (t : GT) : Value := tkV t.cl t.sv none 0 0 t.fr t.un t.re t.fl
def zeroT : GT := ⟨ByteArray.empty, ByteArray.empty, 0, 0, 0, 0⟩
def mx (a b : Int) : Int := if a < b then b else a
def mn (a b : Int) : Int := if b < a then b else a
def grantT (cl sv : ByteArray) (fr un re fl cli cre sli sre now : Int) : GT :=
  if bits .and .i64 fl 4 = 0 ∨ re = 0 then ⟨cl, sv, mx fr now, if un = 0 ∨ mx fr now + mn cli sli < un then mx fr now + mn cli sli else un, 0, bits .andNot .i64 fl 4⟩
  else ⟨cl, sv, mx fr now, if un = 0 ∨ mx fr now + mn cli sli < un then mx fr now + mn cli sli else un, mx (mn re (mx fr now + mn cre sre)) (if un = 0 ∨ mx fr now + mn cli sli < un then mx fr now + mn cli sli else un), fl⟩
structure Lk where
  fl : Int
  li : Int
  re : Int
def Ent.lk (e : Ent) : Lk := ⟨e.fl, e.li, e.re⟩
def lookE (L : List Ent) (s : ByteArray) : Lk := ((findE L s).map Ent.lk).getD ⟨0, 0, 0⟩
def grantK (c s : Lk) (cl sv : ByteArray) (fr un re fl now : Int) : GT × Int × Int :=
  if [now, fr, un, re].all okTime = false then (zeroT, 0, 2) else
    if refusedS fr un fl c.fl c.li s.fl s.li now ≠ 0 then (zeroT, refusedS fr un fl c.fl c.li s.fl s.li now, 0) else
      (grantT cl sv fr un re fl c.li c.re s.li s.re now, 0, 0)
def GrantPost (w : World) (o : GT × Int × Int) (e : Ending) (w' : World) : Prop := e = .returned (.tuple #[o.1.val, .int .i64 o.2.1, .int .i64 o.2.2]) ∧ Below w.heap.size w w'
theorem zeroTick (w : World) : (zeroValue 39).run Tryd.prog w = .ok (.agg #[.string ByteArray.empty, .string ByteArray.empty, .slice none 0 0, .int .i64 0, .int .i64 0, .int .i64 0, .int .i64 0]) w := by kernel_rfl
theorem results_cell_tmp2 {fn : Func} {p u u2 : Tmp} {ty : TypeId} (h : fn.results = #[.cell p ty, .tmp u, .tmp u2]) (tmps : Array Value) (P : Program) (w : World) :
    (results fn tmps).run P w =
      ((asAddr (tmps.getD p undef)).run P w).andThen fun a w₁ => ((loadVar ty a).run P w₁).andThen fun v w₂ => .ok (.tuple #[v, tmps.getD u undef, tmps.getD u2 undef]) w₂ := by
  simp only [results, h]
  simp [Sem.run_bind, Result.andThen]
theorem results_row_tmp2 {fn : Func} {p u u2 : Tmp} {ty : TypeId} (h : fn.results = #[.cell p ty, .tmp u, .tmp u2]) (tmps : Array Value) (w : World) (g : Nat) (cs : Array Value)
    (hp : tmps.getD p undef = .pointer (some ⟨g, 0, none⟩)) (hl : (loadVar ty ⟨g, 0, none⟩).run Tryd.prog w = .ok (.agg cs) w) :
    (results fn tmps).run Tryd.prog w = .ok (.tuple #[.agg cs, tmps.getD u undef, tmps.getD u2 undef]) w := by
  rw [results_cell_tmp2 h, hp]
  simp only [asAddr, Sem.run_pure, Result.andThen_ok, hl]
theorem load_tick (w : World) (g : Nat) (cs : Array Value) (fr : Nat × Nat) (hg : w.heap[g]? = some (.cells cs 39 fr)) (hs : cs.size = 7) : (loadVar 39 ⟨g, 0, none⟩).run Tryd.prog w = .ok (.agg cs) w :=
  run_loadVar_row w g 39 39 cs fr _ hg Tryd.underlying39 rfl (by rw [hs]; kernel_rfl)
theorem ri_four {w : World} {g : Nat} {x y z u : Int} (h : w.heap[g]? = some (.cells #[.int .i64 x, .int .i64 y, .int .i64 z, .int .i64 u] 3 (0, 0))) : RI w (some ⟨g, 0, none⟩) [x, y, z, u] := fun i hi => by
  refine ⟨g, 0, rfl, ?_⟩
  rw [Nat.zero_add, cell_of_row w g _ _ _ _ h]
  have : i = 0 ∨ i = 1 ∨ i = 2 ∨ i = 3 := by simp at hi; omega
  rcases this with rfl | rfl | rfl | rfl <;> rfl
def zt : List Value := [.string ByteArray.empty, .string ByteArray.empty, .slice none 0 0, .int .i64 0, .int .i64 0, .int .i64 0, .int .i64 0]
set_option maxRecDepth 100000 in
set_option maxHeartbeats 1000000 in
theorem grant_v (P : Value) (cl sv : ByteArray) (A : Option Addr) (n c : Nat) (fr un re fl now : Int) (w : World) (h : NoB P w) : Calls Tryd.prog 18 #[P, tkV cl sv A n c fr un re fl, .int .i64 now] w (GrantPost w (zeroT, 0, 1)) := by
  have H := Lib.hid h
  have hz := zeroTick
  clear h
  unfold tkV
  obtain ⟨X, hX⟩ : ∃ X, X = (w.alloc (.cells #[.string cl, .string sv, .slice A n c, .int .i64 fr, .int .i64 un, .int .i64 re, .int .i64 fl] 39)).alloc (.cells #[.string ByteArray.empty, .string ByteArray.empty, .slice none 0 0, .int .i64 0, .int .i64 0, .int .i64 0, .int .i64 0] 39) := ⟨_, rfl⟩
  have HX := Lib.hid hX
  have BX := Lib.hid (show Below w.heap.size w X by rw [hX]; exact below_alloc (below_alloc (Below.refl _ _) _) _)
  have RX := Lib.hid (show X.heap[w.heap.size + 1]? = some (.cells #[.string ByteArray.empty, .string ByteArray.empty, .slice none 0 0, .int .i64 0, .int .i64 0, .int .i64 0, .int .i64 0] 39 (0, 0)) by rw [hX]; exact blk_new _ (by simp))
  clear hX
  go_enter Tryd.func18, Tryd.ntmps18
  go_wp2_with fail
  rw [← HX.out]
  refine (H.out _ BX.out).mono ?_
  rintro e w1 ⟨rfl, rfl⟩
  go_wp2_with (with_reducible refine wpList_store_any rfl 39 _ _ rfl (w.heap.size + 1) [.string ByteArray.empty, .string ByteArray.empty, .slice none 0 0, .int .i64 0, .int .i64 0, .int .i64 0, .int .i64 0] rfl rfl 39 _ RX.out 7 (by kernel_rfl) rfl rfl (by simp [Value.oneCell']) ?_ rfl)
  refine bodyPost_ret (v := .tuple #[.agg #[.string ByteArray.empty, .string ByteArray.empty, .slice none 0 0, .int .i64 0, .int .i64 0, .int .i64 0, .int .i64 0], .int .i64 0, .int .i64 1]) ?_ rfl ?_
  · exact (results_row_tmp2 (p := 6) (u := 7) (u2 := 8) (ty := 39) rfl _ _ (w.heap.size + 1) #[.string ByteArray.empty, .string ByteArray.empty, .slice none 0 0, .int .i64 0, .int .i64 0, .int .i64 0, .int .i64 0] rfl (load_tick _ _ _ (0, 0) (setRow_heap _ _ _ _ _ _ RX.out) rfl)).trans rfl
  · exact ⟨rfl, below_setRow BX.out (by omega) _⟩
end Go.Proofs.YteplaginenhfkaaDoor
