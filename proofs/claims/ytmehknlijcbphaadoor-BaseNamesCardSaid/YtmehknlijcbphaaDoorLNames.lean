/- The law BaseNames, by the evaluator: Builtin at every name, Tuple at every number; no condition. -/
import Derived.Test.YtmehknlijcbphaaDoorPr1
namespace Go.Proofs.YtmehknlijcbphaaDoor
open Go Go.RowKit Ev

/-- The built-in names. -/
def bNames : List (List UInt8) := [[105, 110, 116, 65, 100, 100], [105, 110, 116, 83, 117, 98], [105, 110, 116, 77, 117, 108], [105, 110, 116, 81, 117, 111, 116], [105, 110, 116, 82, 101, 109], [105, 110, 116, 78, 101, 103], [105, 110, 116, 69, 113], [105, 110, 116, 76, 116], [105, 110, 116, 76, 101], [111, 114, 100], [99, 104, 114], [115, 101, 113], [114, 97, 105, 115, 101], [114, 101, 116, 117, 114, 110, 73, 79], [98, 105, 110, 100, 73, 79], [112, 117, 116, 67, 104, 97, 114], [103, 101, 116, 67, 104, 97, 114], [116, 104, 114, 111, 119, 73, 79], [101, 118, 97, 108, 117, 97, 116, 101], [99, 97, 116, 99, 104, 73, 79], [109, 97, 115, 107, 73, 79], [117, 110, 109, 97, 115, 107, 73, 79], [73, 110, 116], [67, 104, 97, 114], [45, 62], [73, 79], [66, 111, 111, 108], [70, 97, 108, 115, 101], [84, 114, 117, 101], [91, 93], [58], [40, 41], [40, 44, 41], [40, 44, 44, 41], [40, 44, 44, 44, 41], [40, 44, 44, 44, 44, 41], [40, 44, 44, 44, 44, 44, 41], [40, 44, 44, 44, 44, 44, 44, 41], [69, 120, 99], [68, 105, 118, 66, 121, 90, 101, 114, 111], [78, 111, 77, 97, 116, 99, 104], [76, 111, 111, 112], [70, 97, 105, 108, 117, 114, 101], [73, 110, 116, 101, 114, 114, 117, 112, 116]]
def bName (k : Nat) : AV := .lit (.string ⟨(bNames.getD k []).toArray⟩)
def boolIs (r : Option AV) : Option Bool := match r with
  | some (.lit (.bool b)) => some b
  | _ => none
theorem boolIs_eq {r : Option AV} {b : Bool} (h : boolIs r = some b) : r = some (.lit (.bool b)) := by
  unfold boolIs at h
  split at h
  · injection h with h
    rw [h]
  · cases h
noncomputable def evB (f k : Nat) : Option AV := evCall Tryd.prog (tabOf noOrc) extK 10000 30 f [bName k]
noncomputable def evT (f k : Nat) : Option AV := evCall Tryd.prog (tabOf noOrc) extK 10000 30 f [.lit (.int .i64 k)]
theorem b8 : ((List.range 44).all fun k => (boolIs (evB 8 k)) == some true) = true := by kernel_rfl
theorem b9 : ((List.range 44).all fun k => (boolIs (evB 9 k)) == some true) = true := by kernel_rfl
theorem b8_no : evCall Tryd.prog (tabOf (orcN bNames)) extK 10000 30 8 [.sym 0] = some (.lit (.bool false)) := by kernel_rfl
theorem b9_no : evCall Tryd.prog (tabOf (orcN bNames)) extK 10000 30 9 [.sym 0] = some (.lit (.bool false)) := by kernel_rfl
def tupName (k : Nat) : ByteArray := if k = 0 then ⟨#[40, 41]⟩ else if k = 1 then ⟨#[]⟩ else ⟨(([40] : List UInt8) ++ List.replicate (k - 1) 44 ++ [41]).toArray⟩
theorem t10 : ((List.range 8).map fun k => evT 10 k) = (List.range 8).map fun k => some (.lit (.string (tupName k))) := by kernel_rfl
theorem t11 : ((List.range 8).map fun k => evT 11 k) = (List.range 8).map fun k => some (.lit (.string (tupName k))) := by kernel_rfl
/-- What is known of a number that is no tuple's: it is below 2 and not 0 (neg), or above 7; and a text is itself. -/
def orcT (neg : Bool) : BinOp → AV → AV → Option Bool
  | .eql, .sym 1, .lit (.int .i64 0) => some false
  | .lss, .sym 1, .lit (.int .i64 2) => some neg
  | .gtr, .sym 1, .lit (.int .i64 7) => some (!neg)
  | .eql, .sym 3, .sym 3 => some true
  | _, _, _ => none
section
variable (xt : TypeId) (xo yo : Operand) (w : World)
theorem run_int_eql (x y : Int) : (do eqGuard .eql xt xo yo (.int .i64 x) (.int .i64 y); binOp .eql xt (.int .i64 x) (.int .i64 y) : Sem Value).run Tryd.prog w = .ok (.bool (x == y)) w := by
  simp [eqGuard, binOp, Op.intCmp, go_sem]
theorem run_int_gtr (x y : Int) : (do eqGuard .gtr xt xo yo (.int .i64 x) (.int .i64 y); binOp .gtr xt (.int .i64 x) (.int .i64 y) : Sem Value).run Tryd.prog w = .ok (.bool (decide (x > y))) w := by
  simp [eqGuard, binOp, Op.intCmp, go_sem]
end
theorem orcT_ok {name : ByteArray} {n : Int} {te : ByteArray} {neg : Bool} (h : (neg = true ∧ n < 0) ∨ (neg = false ∧ 7 < n)) : letI := symsOf name n te; (tabOf (orcT neg)).Ok Tryd.prog := by
  letI := symsOf name n te
  refine tabOf_ok _ ?_
  intro op x y b hb c ux uy xt xo yo w hx hy
  have v1 : Syms.val 1 = .int .i64 n := rfl
  have v3 : Syms.val 3 = .string te := rfl
  have e0 : (n == 0) = false := by rw [beq_eq_false_iff_ne]; omega
  have e1 : decide (n < 2) = neg := by rcases h with ⟨rfl, h⟩ | ⟨rfl, h⟩ <;> simp <;> omega
  have e2 : decide (n > 7) = !neg := by rcases h with ⟨rfl, h⟩ | ⟨rfl, h⟩ <;> simp <;> omega
  unfold orcT at hb
  split at hb
  · injection hb with hb
    simp only [Real, v1] at hx hy
    subst hb hx hy
    rw [run_int_eql, e0]
  · injection hb with hb
    simp only [Real, v1] at hx hy
    subst hb hx hy
    rw [run_int_lss, e1]
  · injection hb with hb
    simp only [Real, v1] at hx hy
    subst hb hx hy
    rw [run_int_gtr, e2]
  · injection hb with hb
    simp only [Real, v3] at hx hy
    subst hb hx hy
    rw [run_str_eql, beq_self_eq_true]
  · cases hb
theorem t10_neg : evCall Tryd.prog (tabOf (orcT true)) extK 10000 30 10 [.sym 1] = some (.lit (.string ⟨#[]⟩)) := by kernel_rfl
theorem t11_neg : evCall Tryd.prog (tabOf (orcT true)) extK 10000 30 11 [.sym 1] = some (.lit (.string ⟨#[]⟩)) := by kernel_rfl
theorem t10_big : evCall Tryd.prog (tabOf (orcT false)) extK 10000 30 10 [.sym 1] = some (.lit (.string ⟨#[]⟩)) := by kernel_rfl
theorem t11_big : evCall Tryd.prog (tabOf (orcT false)) extK 10000 30 11 [.sym 1] = some (.lit (.string ⟨#[]⟩)) := by kernel_rfl

/-- A value that the evaluator answers. -/
theorem lit_of [Syms] {o : BinOp → AV → AV → Option Bool} (ho : (tabOf o).Ok Tryd.prog) {ext : FuncId → Option (List AV → Option AV)} (h : ExtOk Tryd.prog Tabd ext) {n : Nat} {f : FuncId} {args : List AV} {v : Value} (hr : evCall Tryd.prog (tabOf o) ext 10000 n f args = some (.lit v))
    {W : World} (hW : Tabd W) {vs : List Value} (hvs : RealL (argCx W (fun _ _ => False)) args vs) : Calls Tryd.prog f vs.toArray W fun e W' => e = .returned v ∧ Below W.heap.size W W' := by
  refine (oneOk ho h n f args _ hr W (fun _ _ => False) vs (fun _ _ h => h.elim) hvs hW).2.mono ?_
  rintro e W' ⟨u, rfl, hb, c1, _, _, hu, _⟩
  simp only [Real] at hu
  subst hu
  exact ⟨rfl, hb⟩
/-- At the argument a the function gives v. -/
def Ans (f : FuncId) (a v : Value) : Prop := ∀ W : World, Tabd W → Calls Tryd.prog f #[a] W fun e W' => e = .returned v ∧ Below W.heap.size W W'
theorem builtin_both (name : ByteArray) : ∃ be : Bool, Ans 8 (.string name) (.bool be) ∧ Ans 9 (.string name) (.bool be) := by
  cases hc : bNames.contains name.data.toList with
  | true =>
    obtain ⟨k, hk, hk2⟩ := List.getElem_of_mem (List.contains_iff_mem.1 hc)
    have hlt : k < 44 := hk
    have hn : bName k = .lit (.string name) := by
      unfold bName
      rw [List.getD_eq_getElem?_getD, List.getElem?_eq_getElem hk, hk2]
      rfl
    have h8 := boolIs_eq (by simpa using List.all_eq_true.1 b8 k (List.mem_range.2 hlt))
    have h9 := boolIs_eq (by simpa using List.all_eq_true.1 b9 k (List.mem_range.2 hlt))
    unfold evB at h8 h9
    rw [hn] at h8 h9
    exact ⟨true, fun W hW => lit_of tabNo_ok extK_ok h8 hW (vs := [.string name]) (by simp only [RealL, Real]; exact ⟨_, _, rfl, rfl, rfl⟩),
      fun W hW => lit_of tabNo_ok extK_ok h9 hW (vs := [.string name]) (by simp only [RealL, Real]; exact ⟨_, _, rfl, rfl, rfl⟩)⟩
  | false =>
    letI := symsOf name 0 ⟨#[]⟩
    exact ⟨false, fun W hW => lit_of (orcN_ok hc) extK_ok b8_no hW (vs := [.string name]) (by simp only [RealL, Real]; exact ⟨_, _, rfl, rfl, rfl⟩),
      fun W hW => lit_of (orcN_ok hc) extK_ok b9_no hW (vs := [.string name]) (by simp only [RealL, Real]; exact ⟨_, _, rfl, rfl, rfl⟩)⟩
theorem tuple_both (n : Int) : ∃ te : ByteArray, Ans 10 (.int .i64 n) (.string te) ∧ Ans 11 (.int .i64 n) (.string te) := by
  by_cases h0 : n < 0
  · letI := symsOf ⟨#[]⟩ n ⟨#[]⟩
    have ho := orcT_ok (name := ⟨#[]⟩) (n := n) (te := ⟨#[]⟩) (neg := true) (.inl ⟨rfl, h0⟩)
    exact ⟨⟨#[]⟩, fun W hW => lit_of ho extK_ok t10_neg hW (vs := [.int .i64 n]) (by simp only [RealL, Real]; exact ⟨_, _, rfl, rfl, rfl⟩),
      fun W hW => lit_of ho extK_ok t11_neg hW (vs := [.int .i64 n]) (by simp only [RealL, Real]; exact ⟨_, _, rfl, rfl, rfl⟩)⟩
  by_cases h1 : n < 8
  · obtain ⟨k, rfl⟩ := Int.eq_ofNat_of_zero_le (Int.not_lt.1 h0)
    have hlt : k < 8 := by omega
    have e10 := congrArg (·[k]?) t10
    have e11 := congrArg (·[k]?) t11
    simp only [List.getElem?_map, List.getElem?_range hlt, Option.map_some, Option.some.injEq] at e10 e11
    exact ⟨tupName k, fun W hW => lit_of tabNo_ok extK_ok e10 hW (vs := [.int .i64 k]) (by simp only [RealL, Real]; exact ⟨_, _, rfl, rfl, rfl⟩),
      fun W hW => lit_of tabNo_ok extK_ok e11 hW (vs := [.int .i64 k]) (by simp only [RealL, Real]; exact ⟨_, _, rfl, rfl, rfl⟩)⟩
  · letI := symsOf ⟨#[]⟩ n ⟨#[]⟩
    have ho := orcT_ok (name := ⟨#[]⟩) (n := n) (te := ⟨#[]⟩) (neg := false) (.inr ⟨rfl, by omega⟩)
    exact ⟨⟨#[]⟩, fun W hW => lit_of ho extK_ok t10_big hW (vs := [.int .i64 n]) (by simp only [RealL, Real]; exact ⟨_, _, rfl, rfl, rfl⟩),
      fun W hW => lit_of ho extK_ok t11_big hW (vs := [.int .i64 n]) (by simp only [RealL, Real]; exact ⟨_, _, rfl, rfl, rfl⟩)⟩

/-- The function at one unknown: its answer. -/
def one (i : Nat) (r : AV) : List AV → Option AV
  | [.sym j] => if j = i then some r else none
  | _ => none
theorem one_ok [Syms] {f : FuncId} {i : Nat} {r : AV} {a v : Value} (hv : Syms.val i = a) (hfn : ∃ fn, Tryd.prog.funcs[f]? = some fn ∧ fn.body.isNone = false ∧ (fn.name == "runtime.NumGoroutine") = false) (hr2 : ∀ W W' ok, Below W.heap.size W W' → ResOk W ok W' r v) (h : Ans f a v) : OneOk f (one i r) := by
  intro args r' h' W ok vs hok hargs hW
  unfold one at h'
  split at h'
  · split at h'
    · rename_i j hj
      subst hj
      injection h' with h'
      subst h'
      refine ⟨hfn, ?_⟩
      obtain ⟨u1, us, rfl, h1, h2⟩ := realL_cons_inv hargs
      obtain rfl := realL_nil_inv h2
      simp only [Real] at h1
      subst h1
      rw [hv]
      refine (h W hW).mono ?_
      rintro e W' ⟨rfl, hb⟩
      exact ⟨_, rfl, hr2 W W' ok hb⟩
    · cases h'
  · cases h'
noncomputable def extN (be : Bool) : FuncId → Option (List AV → Option AV) := addExt (addExt (addExt (addExt extK 8 (one 0 (.lit (.bool be)))) 9 (one 0 (.lit (.bool be)))) 10 (one 1 (.sym 3))) 11 (one 1 (.sym 3))
/-- A text is itself. -/
def orc3 : BinOp → AV → AV → Option Bool
  | .eql, .sym 3, .sym 3 => some true
  | _, _, _ => none
theorem orc3_ok {name : ByteArray} {n : Int} {te : ByteArray} : letI := symsOf name n te; (tabOf orc3).Ok Tryd.prog := by
  letI := symsOf name n te
  refine tabOf_ok _ ?_
  intro op x y b hb c ux uy xt xo yo w hx hy
  have v3 : Syms.val 3 = .string te := rfl
  unfold orc3 at hb
  split at hb
  · injection hb with hb
    simp only [Real, v3] at hx hy
    subst hb hx hy
    rw [run_str_eql, beq_self_eq_true]
  · cases hb
theorem n_true : evCall Tryd.prog (tabOf orc3) (extN true) 10000 30 3 [.sym 0, .sym 1] = some (.lit (.bool true)) := by kernel_rfl
theorem n_false : evCall Tryd.prog (tabOf orc3) (extN false) 10000 30 3 [.sym 0, .sym 1] = some (.lit (.bool true)) := by kernel_rfl
theorem sym_res [Syms] {W W' : World} {ok : Nat → Nat → Prop} {i : Nat} {v : Value} (h : Syms.val i = v) (hb : Below W.heap.size W W') : ResOk W ok W' (.sym i) v :=
  ⟨hb, argCx W' (fun _ _ => False), rfl, fun _ _ h => h.elim, by simp only [Real]; exact h.symm, fun _ _ _ _ _ h => by cases h⟩

theorem fn8 : ∃ fn, Tryd.prog.funcs[8]? = some fn ∧ fn.body.isNone = false ∧ (fn.name == "runtime.NumGoroutine") = false := ⟨_, Tryd.func8, by kernel_rfl, by kernel_rfl⟩
theorem fn9 : ∃ fn, Tryd.prog.funcs[9]? = some fn ∧ fn.body.isNone = false ∧ (fn.name == "runtime.NumGoroutine") = false := ⟨_, Tryd.func9, by kernel_rfl, by kernel_rfl⟩
theorem fn10 : ∃ fn, Tryd.prog.funcs[10]? = some fn ∧ fn.body.isNone = false ∧ (fn.name == "runtime.NumGoroutine") = false := ⟨_, Tryd.func10, by kernel_rfl, by kernel_rfl⟩
theorem fn11 : ∃ fn, Tryd.prog.funcs[11]? = some fn ∧ fn.body.isNone = false ∧ (fn.name == "runtime.NumGoroutine") = false := ⟨_, Tryd.func11, by kernel_rfl, by kernel_rfl⟩
set_option maxRecDepth 100000 in
theorem baseNames_law (name : ByteArray) (n : Int) (w : World) (_ : -9223372036854775808 ≤ n ∧ n ≤ 9223372036854775807) (hW : Tabd w) :
    Calls Tryd.prog 3 #[.string name, .int .i64 n] w fun e w' => e = .returned (.bool true) ∧ Below w.heap.size w w' := by
  obtain ⟨be, h8, h9⟩ := builtin_both name
  obtain ⟨te, h10, h11⟩ := tuple_both n
  letI := symsOf name n te
  have v0 : Syms.val 0 = .string name := rfl
  have v1 : Syms.val 1 = .int .i64 n := rfl
  have v3 : Syms.val 3 = .string te := rfl
  have o8 : OneOk 8 (one 0 (.lit (.bool be))) := one_ok v0 fn8 (fun _ _ _ hb => lit_res _ hb) h8
  have o9 : OneOk 9 (one 0 (.lit (.bool be))) := one_ok v0 fn9 (fun _ _ _ hb => lit_res _ hb) h9
  have o10 : OneOk 10 (one 1 (.sym 3)) := one_ok v1 fn10 (fun _ _ _ hb => sym_res v3 hb) h10
  have o11 : OneOk 11 (one 1 (.sym 3)) := one_ok v1 fn11 (fun _ _ _ hb => sym_res v3 hb) h11
  have hext : ExtOk Tryd.prog Tabd (extN be) := addExt_ok (addExt_ok (addExt_ok (addExt_ok extK_ok o8) o9) o10) o11
  have hvs : RealL (argCx w (fun _ _ => False)) [.sym 0, .sym 1] [.string name, .int .i64 n] := by
    simp only [RealL, Real]
    exact ⟨_, _, rfl, v0.symm, _, _, rfl, v1.symm, rfl⟩
  cases be
  · exact law_of orc3_ok hext n_false hW hvs
  · exact law_of orc3_ok hext n_true hW hvs
end Go.Proofs.YtmehknlijcbphaaDoor
