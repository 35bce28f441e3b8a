/- The program's tables for the evaluator; what the library's functions on strings and types.Fun give; no condition. -/
import Derived.Test.YtmehknlijcbphaaGreatDoorFun2
import Derived.Test.YtmehknlijcbphaaGreatDoorShelf
import Derived.Lib.AppendIntMem
namespace Go.Proofs.YtmehknlijcbphaaGreatDoor
open Go Go.RowKit Go.Shelf Ev

def fnTabP (P : Program) (f : FuncId) : Option Func := match P.funcs[f]? with
  | some fn => if (fn.name == "runtime.NumGoroutine") = true then none else some fn
  | none => none
theorem fnTabP_some {P : Program} {f : FuncId} {fn : Func} (hf : fnTabP P f = some fn) : P.funcs[f]? = some fn ∧ (fn.name == "runtime.NumGoroutine") = false := by
  unfold fnTabP at hf
  split at hf
  · rename_i fn' hf'
    split at hf
    · cases hf
    · rename_i hn
      injection hf with hf
      subst hf
      exact ⟨hf', by simpa using hn⟩
  · cases hf
def noOrc : BinOp → AV → AV → Option Bool := fun _ _ _ => none
def tabOfP (P : Program) (o : BinOp → AV → AV → Option Bool) : Tab := { info := P.info?, under := P.underlying, fn := fnTabP P, orc := o }
theorem tabOfP_ok [Syms] (P : Program) (o : BinOp → AV → AV → Option Bool)
    (h : ∀ op x y b, o op x y = some b → ∀ (c : Cx) (ux uy : Value) (xt : TypeId) (xo yo : Operand) (w : World), Real c x ux → Real c y uy → (do eqGuard op xt xo yo ux uy; binOp op xt ux uy : Sem Value).run P w = .ok (.bool b) w) : (tabOfP P o).Ok P :=
  ⟨fun _ _ h => h, fun _ _ h => h, fun _ _ hf => fnTabP_some hf, h⟩
noncomputable def fnTab : FuncId → Option Func := fnTabP Tryz.prog
noncomputable def tabOf (o : BinOp → AV → AV → Option Bool) : Tab := tabOfP Tryz.prog o
theorem tabOf_ok [Syms] (o : BinOp → AV → AV → Option Bool)
    (h : ∀ op x y b, o op x y = some b → ∀ (c : Cx) (ux uy : Value) (xt : TypeId) (xo yo : Operand) (w : World), Real c x ux → Real c y uy → (do eqGuard op xt xo yo ux uy; binOp op xt ux uy : Sem Value).run Tryz.prog w = .ok (.bool b) w) : (tabOf o).Ok Tryz.prog :=
  tabOfP_ok Tryz.prog o h
theorem mixed_ok : Tryz.prog.follows .mixedOrders = true := by kernel_rfl

/-- The table of what is white. -/
def Tabd (W : World) : Prop := Lib.TabIs Tryz.prog W "strings.asciiSpace" .u8 Lib.asciiSpaceTab
theorem tabd_below (W W' : World) (hb : Below W.heap.size W W') (h : Tabd W) : Tabd W' := Lib.tabBelow_of_tabIs h W' hb

/-! ### types.Fun -/
def ext50 (ap : List AV → Option AV) : List AV → Option AV
  | [.agg ts, .sl n ps none] => if ts.length = 4 ∧ ps.length = n * 4 ∧ n ≤ 1000 then (funIdx ap ps (seqTo n n) ts).map .agg else none
  | [.agg ts, .lit (.slice none 0 0)] => if ts.length = 4 then some (.agg ts) else none
  | _ => none

/-- What is known of one function. -/
def OneOk [Syms] (f : FuncId) (g : List AV → Option AV) : Prop := ∀ args r, g args = some r → ∀ (W : World) (ok : Nat → Nat → Prop) (vs : List Value), (∀ b o, ok b o → b < W.heap.size) → RealL (argCx W ok) args vs → Tabd W →
  (∃ fn, Tryz.prog.funcs[f]? = some fn ∧ fn.body.isNone = false ∧ (fn.name == "runtime.NumGoroutine") = false) ∧ Calls Tryz.prog f vs.toArray W fun e W' => ∃ u, e = .returned u ∧ ResOk W ok W' r u

theorem four {vs : List Value} (h : vs.length = 4) : ∃ a b c d, vs = [a, b, c, d] := by
  match vs, h with
  | [a, b, c, d], _ => exact ⟨a, b, c, d, rfl⟩

theorem ext50_ok [Syms] {ap : List AV → Option AV} (hap : OneOk 32 ap) : OneOk 14 (ext50 ap) := by
  intro args r h W ok vs hok hargs h0
  refine ⟨⟨_, Tryz.func14, by kernel_rfl, by kernel_rfl⟩, ?_⟩
  unfold ext50 at h
  split at h
  · rename_i ts n ps
    split at h
    · rename_i hc
      cases hf : funIdx ap ps (seqTo n n) ts with
      | none => rw [hf] at h; cases h
      | some acc =>
        rw [hf] at h
        injection h with h
        subst h
        obtain ⟨u1, us, rfl, h1, h2⟩ := realL_cons_inv hargs
        obtain ⟨u2, us2, rfl, h3, h4⟩ := realL_cons_inv h2
        obtain rfl := realL_nil_inv h4
        simp only [Real] at h1 h3
        obtain ⟨v4, rfl, h5, h6⟩ := h1
        obtain ⟨b, off, cap, vps, rfl, h7, h8, h9, _⟩ := h3
        have hl := h5.length
        obtain ⟨t0, t1, t2, t3, rfl⟩ := four (by rw [hl]; exact hc.1)
        have hl2 := h8.length
        exact fun_any tabd_below (fun args r h W ok vs a b c => (hap args r h W ok vs a b c).2) W ok hok h0 t0 t1 t2 t3 ts h5 ⟨h6 _ (by simp), h6 _ (by simp), h6 _ (by simp), h6 _ (by simp)⟩ (some ⟨b, off, none⟩) n cap hc.2.2 ps vps h8 (by omega) (fun _ => ⟨b, off, rfl, h9⟩) acc hf
    · cases h
  · rename_i ts
    split at h
    · rename_i hc
      injection h with h
      subst h
      obtain ⟨u1, us, rfl, h1, h2⟩ := realL_cons_inv hargs
      obtain ⟨u2, us2, rfl, h3, h4⟩ := realL_cons_inv h2
      obtain rfl := realL_nil_inv h4
      simp only [Real] at h1 h3
      obtain ⟨v4, rfl, h5, h6⟩ := h1
      subst h3
      have hl := h5.length
      obtain ⟨t0, t1, t2, t3, rfl⟩ := four (by rw [hl]; exact hc)
      exact fun_any tabd_below (fun args r h W ok vs a b c => (hap args r h W ok vs a b c).2) W ok hok h0 t0 t1 t2 t3 ts h5 ⟨h6 _ (by simp), h6 _ (by simp), h6 _ (by simp), h6 _ (by simp)⟩ none 0 0 (by omega) [] [] realL_nil (by simp) (fun h => by omega) ts rfl
    · cases h
  · cases h

/-! ### strings -/
def ascii (s : ByteArray) : Bool := s.data.toList.all fun b => decide (b.toNat < 128)
theorem ascii_at {s : ByteArray} (h : ascii s = true) : ∀ (j : Nat) b, s.data.toList[j]? = some b → b.toNat < 128 := fun j b hj => by
  have := List.all_eq_true.1 h b (List.mem_of_getElem? hj)
  simpa using this
def strsAV (l : List ByteArray) : List AV := l.map fun x => .lit (.string x)
/-- A new row of strings is handed back. -/
theorem strs_res [Syms] {W W' : World} {ok : Nat → Nat → Prop} (l : List ByteArray) (hb : Below W.heap.size W W') : ResOk W ok (W'.alloc (.cells (l.map Value.string).toArray 9)) (.sl l.length (strsAV l) none) (.slice (some ⟨W'.heap.size, 0, none⟩) l.length l.length) := by
  refine ⟨hb.alloc hb.size _, argCx (W'.alloc (.cells (l.map Value.string).toArray 9)) (fun b _ => b = W'.heap.size), rfl, ?_, ?_, fun _ _ _ _ _ h => by cases h⟩
  · rintro b o rfl
    exact ⟨.inr hb.size, by rw [alloc_size]; omega⟩
  · simp only [Real]
    refine ⟨W'.heap.size, 0, l.length, l.map Value.string, rfl, Nat.le_refl _, ?_, fun j v hj => ⟨?_, rfl, ?_⟩, trivial⟩
    · have := realL_lits (c := argCx (W'.alloc (.cells (l.map Value.string).toArray 9)) (fun b _ => b = W'.heap.size)) (l.map Value.string)
      rw [List.map_map] at this
      exact this
    · rw [Nat.zero_add]
      show (W'.alloc _).cell? _ = _
      rw [row_cell (alloc_new _ _)]
      exact hj
    · have := List.mem_of_getElem? hj
      simp only [List.mem_map] at this
      obtain ⟨s, _, rfl⟩ := this
      rfl

def ext64 : List AV → Option AV
  | [.lit (.string s)] => if s.size < 1000 ∧ ascii s = true then some (.sl ((Lib.fields s.data.toList).map fun l => (⟨l.toArray⟩ : ByteArray)).length (strsAV ((Lib.fields s.data.toList).map fun l => ⟨l.toArray⟩)) none) else none
  | _ => none
theorem ext64_ok [Syms] : OneOk 46 ext64 := by
  intro args r h W ok vs hok hargs h0
  refine ⟨⟨_, Tryz.func46, by kernel_rfl, by kernel_rfl⟩, ?_⟩
  unfold ext64 at h
  split at h
  · rename_i s
    split at h
    · rename_i hc
      injection h with h
      subst h
      obtain ⟨u1, us, rfl, h1, h2⟩ := realL_cons_inv hargs
      obtain rfl := realL_nil_inv h2
      simp only [Real] at h1
      subst h1
      refine (Tryz.strings_Fields s W (by omega) (ascii_at hc.2) h0).mono ?_
      rintro e w' ⟨rfl, rfl⟩
      have := strs_res (ok := ok) ((Lib.fields s.data.toList).map fun l => (⟨l.toArray⟩ : ByteArray)) (Below.refl W.heap.size W)
      rw [List.map_map] at this
      refine ⟨_, rfl, ?_⟩
      simp only [List.length_map] at this ⊢
      exact this
    · cases h
  · cases h

def ext67 : List AV → Option AV
  | [.lit (.string s), .lit (.string sep)] => if sep.size = 0 ∧ s.size < 1000 ∧ ascii s = true then some (.sl (Lib.charsB s).length (strsAV (Lib.charsB s)) none) else none
  | _ => none
theorem ext67_ok [Syms] : OneOk 49 ext67 := by
  intro args r h W ok vs hok hargs h0
  refine ⟨⟨_, Tryz.func49, by kernel_rfl, by kernel_rfl⟩, ?_⟩
  unfold ext67 at h
  split at h
  · rename_i s sep
    split at h
    · rename_i hc
      injection h with h
      subst h
      obtain ⟨u1, us, rfl, h1, h2⟩ := realL_cons_inv hargs
      obtain ⟨u2, us2, rfl, h3, h4⟩ := realL_cons_inv h2
      obtain rfl := realL_nil_inv h4
      simp only [Real] at h1 h3
      subst h1
      subst h3
      refine (Tryz.strings_Split_chars s sep W hc.1 (by omega) (ascii_at hc.2.2)).mono ?_
      rintro e w' ⟨rfl, rfl⟩
      have hbl : Below W.heap.size W (W.iter s s.size) := (Below.refl _ W).alloc (Nat.le_refl _) _
      have hlen : (Lib.charsB s).length = s.size := Lib.charsUpTo_length s s.size
      have := strs_res (ok := ok) (Lib.charsB s) hbl
      refine ⟨_, rfl, ?_⟩
      rw [hlen] at this ⊢
      exact this
    · cases h
  · cases h

def ext32 : List AV → Option AV
  | [.lit (.string s), .lit (.int .i64 c)] => if 0 ≤ c ∧ c ≤ 1000 ∧ s.size ≤ 1000 then some (.lit (.string ⟨(Lib.repeatL s.data.toList c.toNat).toArray⟩)) else none
  | _ => none
theorem lit_res [Syms] {W W' : World} {ok : Nat → Nat → Prop} (v : Value) (hb : Below W.heap.size W W') : ResOk W ok W' (.lit v) v :=
  ⟨hb, argCx W' (fun _ _ => False), rfl, fun _ _ h => h.elim, by simp only [Real], fun _ _ _ _ _ h => by cases h⟩
theorem ext32_ok [Syms] : OneOk 38 ext32 := by
  intro args r h W ok vs hok hargs h0
  refine ⟨⟨_, Tryz.func38, by kernel_rfl, by kernel_rfl⟩, ?_⟩
  unfold ext32 at h
  split at h
  · rename_i s c
    split at h
    · rename_i hc
      injection h with h
      subst h
      obtain ⟨u1, us, rfl, h1, h2⟩ := realL_cons_inv hargs
      obtain ⟨u2, us2, rfl, h3, h4⟩ := realL_cons_inv h2
      obtain rfl := realL_nil_inv h4
      simp only [Real] at h1 h3
      subst h1
      subst h3
      obtain ⟨k, rfl⟩ := Int.eq_ofNat_of_zero_le hc.1
      have hk : k ≤ 1000 := by omega
      have hm : s.size * k ≤ 1000 * 1000 := Nat.mul_le_mul hc.2.2 hk
      refine (Tryz.strings_Repeat s k W (by omega) (by omega)).mono ?_
      rintro e w' ⟨rfl, hb⟩
      exact ⟨_, rfl, lit_res _ hb⟩
    · cases h
  · cases h

/-! ### all of them -/
def extNone : FuncId → Option (List AV → Option AV) := fun _ => none
/-- Apply, by the evaluator. -/
noncomputable def apply63 : List AV → Option AV := evCall Tryz.prog (tabOf noOrc) extNone 10000 40 32
noncomputable def ext0 : FuncId → Option (List AV → Option AV)
  | 14 => some (ext50 apply63)
  | 46 => some ext64
  | 49 => some ext67
  | 38 => some ext32
  | _ => none
theorem tabNo_ok [Syms] : (tabOf noOrc).Ok Tryz.prog := tabOf_ok noOrc (fun _ _ _ _ h => by cases h)
theorem apply63_ok [Syms] : OneOk 32 apply63 := fun args r h => evCall_sound (Inv := Tabd) tabNo_ok mixed_ok tabd_below (ext := extNone) (fun _ _ h => by cases h) 10000 40 32 args r h
theorem ext0_ok [Syms] : ExtOk Tryz.prog Tabd ext0 := by
  intro f g h
  unfold ext0 at h
  split at h
  · injection h with h; subst h; exact ext50_ok apply63_ok
  · injection h with h; subst h; exact ext64_ok
  · injection h with h; subst h; exact ext67_ok
  · injection h with h; subst h; exact ext32_ok
  · cases h

/-- One function more is known: at no argument, its result. -/
def addExt (ext : FuncId → Option (List AV → Option AV)) (f : FuncId) (g : List AV → Option AV) : FuncId → Option (List AV → Option AV) := fun k => if k = f then some g else ext k
theorem addExt_ok [Syms] {ext : FuncId → Option (List AV → Option AV)} (h : ExtOk Tryz.prog Tabd ext) {f : FuncId} {g : List AV → Option AV} (hg : OneOk f g) : ExtOk Tryz.prog Tabd (addExt ext f g) := by
  intro k g' hk
  unfold addExt at hk
  split at hk
  · rename_i e
    subst e
    injection hk with hk
    subst hk
    exact hg
  · exact h k g' hk
/-- What the evaluator says of a call. -/
theorem oneOk [Syms] {o : BinOp → AV → AV → Option Bool} (ho : (tabOf o).Ok Tryz.prog) {ext : FuncId → Option (List AV → Option AV)} (h : ExtOk Tryz.prog Tabd ext) (n : Nat) (f : FuncId) : OneOk f (evCall Tryz.prog (tabOf o) ext 10000 n f) :=
  fun args r hr => evCall_sound (Inv := Tabd) ho mixed_ok tabd_below h 10000 n f args r hr
/-- A function without arguments whose result has been found. -/
def const0 (r : AV) : List AV → Option AV
  | [] => some r
  | _ => none
theorem const0_ok [Syms] {o : BinOp → AV → AV → Option Bool} (ho : (tabOf o).Ok Tryz.prog) {ext : FuncId → Option (List AV → Option AV)} (h : ExtOk Tryz.prog Tabd ext) {n : Nat} {f : FuncId} {r : AV} (hr : evCall Tryz.prog (tabOf o) ext 10000 n f [] = some r) : OneOk f (const0 r) := by
  intro args r' h'
  unfold const0 at h'
  split at h'
  · injection h' with h'
    subst h'
    exact oneOk ho h n f [] r hr
  · cases h'

/-- A law that the evaluator answers. -/
theorem law_of [Syms] {o : BinOp → AV → AV → Option Bool} (ho : (tabOf o).Ok Tryz.prog) {ext : FuncId → Option (List AV → Option AV)} (h : ExtOk Tryz.prog Tabd ext) {n : Nat} {f : FuncId} {args : List AV} {b : Bool} (hr : evCall Tryz.prog (tabOf o) ext 10000 n f args = some (.lit (.bool b)))
    {W : World} (hW : Tabd W) {vs : List Value} (hvs : RealL (argCx W (fun _ _ => False)) args vs) : Calls Tryz.prog f vs.toArray W fun e W' => e = .returned (.bool b) ∧ Below W.heap.size W W' := by
  refine (oneOk ho h n f args _ hr W (fun _ _ => False) vs (fun _ _ h => h.elim) hvs hW).2.mono ?_
  rintro e W' ⟨u, rfl, hb, c1, _, _, hu, _⟩
  simp only [Real] at hu
  subst hu
  exact ⟨rfl, hb⟩
end Go.Proofs.YtmehknlijcbphaaGreatDoor
