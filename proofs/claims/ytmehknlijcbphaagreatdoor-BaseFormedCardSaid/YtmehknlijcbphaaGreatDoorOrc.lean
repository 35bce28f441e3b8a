/- Values that are not known: a name that is none of the known names, a number out of range, what two functions answer alike; no condition. -/
import Derived.Test.YtmehknlijcbphaaGreatDoorEv17
namespace Go.Proofs.YtmehknlijcbphaaGreatDoor
open Go Go.RowKit Ev

/-- Sym 0 is a name, sym 1 a number, the others a text. -/
@[reducible] def symsOf (name : ByteArray) (n : Int) (te : ByteArray) : Syms := ⟨fun i => if i = 0 then .string name else if i = 1 then .int .i64 n else .string te, fun i => by
  split
  · rfl
  · split <;> rfl⟩
/-- What is known of them: the name is none of L; the number is below 0 (neg) or not below m. -/
def orcS (L : List (List UInt8)) (neg : Bool) (m : Int) : BinOp → AV → AV → Option Bool
  | .eql, .sym 0, .lit (.string s) => if L.contains s.data.toList then some false else none
  | .eql, .lit (.string s), .sym 0 => if L.contains s.data.toList then some false else none
  | .neq, .sym 0, .lit (.string s) => if L.contains s.data.toList then some true else none
  | .neq, .lit (.string s), .sym 0 => if L.contains s.data.toList then some true else none
  | .lss, .sym 1, .lit (.int .i64 0) => some neg
  | .geq, .sym 1, .lit (.int .i64 k) => if neg = false ∧ k ≤ m then some true else none
  | .eql, .sym 3, .sym 3 => some true
  | _, _, _ => none
theorem toList_data (s : ByteArray) : s.toList = s.data.toList := by
  have h := ByteArray.toList_mk s.data.toList
  simpa using h
theorem str_ne {s t : ByteArray} {L : List (List UInt8)} (h : L.contains s.data.toList = true) (ht : L.contains t.data.toList = false) : (s.toList == t.toList) = false ∧ (t.toList == s.toList) = false := by
  have hne : s.data.toList ≠ t.data.toList := fun e => by rw [e, ht] at h; cases h
  rw [toList_data, toList_data]
  exact ⟨beq_eq_false_iff_ne.2 hne, beq_eq_false_iff_ne.2 hne.symm⟩
section
variable (xt : TypeId) (xo yo : Operand) (w : World)
theorem run_str_eql (x y : ByteArray) : (do eqGuard .eql xt xo yo (.string x) (.string y); binOp .eql xt (.string x) (.string y) : Sem Value).run Tryz.prog w = .ok (.bool (x.toList == y.toList)) w := by
  simp [eqGuard, binOp, Op.stringOp, go_sem]
theorem run_str_neq (x y : ByteArray) : (do eqGuard .neq xt xo yo (.string x) (.string y); binOp .neq xt (.string x) (.string y) : Sem Value).run Tryz.prog w = .ok (.bool !(x.toList == y.toList)) w := by
  simp [eqGuard, binOp, Op.stringOp, go_sem]
theorem run_int_lss (x y : Int) : (do eqGuard .lss xt xo yo (.int .i64 x) (.int .i64 y); binOp .lss xt (.int .i64 x) (.int .i64 y) : Sem Value).run Tryz.prog w = .ok (.bool (decide (x < y))) w := by
  simp [eqGuard, binOp, Op.intCmp, go_sem]
theorem run_int_geq (x y : Int) : (do eqGuard .geq xt xo yo (.int .i64 x) (.int .i64 y); binOp .geq xt (.int .i64 x) (.int .i64 y) : Sem Value).run Tryz.prog w = .ok (.bool (decide (x ≥ y))) w := by
  simp [eqGuard, binOp, Op.intCmp, go_sem]
end
theorem orcS_ok {name : ByteArray} {n : Int} {te : ByteArray} {L : List (List UInt8)} {neg : Bool} {m : Int} (hL : L.contains name.data.toList = false) (hn : decide (n < 0) = neg) (hm : neg = false → m ≤ n) :
    letI := symsOf name n te; (tabOf (orcS L neg m)).Ok Tryz.prog := by
  letI := symsOf name n te
  refine tabOf_ok _ ?_
  intro op x y b h c ux uy xt xo yo w hx hy
  have v0 : Syms.val 0 = .string name := rfl
  have v1 : Syms.val 1 = .int .i64 n := rfl
  have v3 : Syms.val 3 = .string te := rfl
  unfold orcS at h
  split at h
  · split at h
    · rename_i hc
      injection h with h
      simp only [Real, v0] at hx hy
      subst h hx hy
      rw [run_str_eql, (str_ne hc hL).2]
      try rfl
    · cases h
  · split at h
    · rename_i hc
      injection h with h
      simp only [Real, v0] at hx hy
      subst h hx hy
      rw [run_str_eql, (str_ne hc hL).1]
      try rfl
    · cases h
  · split at h
    · rename_i hc
      injection h with h
      simp only [Real, v0] at hx hy
      subst h hx hy
      rw [run_str_neq, (str_ne hc hL).2]
      try rfl
    · cases h
  · split at h
    · rename_i hc
      injection h with h
      simp only [Real, v0] at hx hy
      subst h hx hy
      rw [run_str_neq, (str_ne hc hL).1]
      try rfl
    · cases h
  · injection h with h
    simp only [Real, v1] at hx hy
    subst h hx hy
    rw [run_int_lss, hn]
  · split at h
    · rename_i hc
      injection h with h
      simp only [Real, v1] at hx hy
      subst h hx hy
      rw [run_int_geq, decide_eq_true (Int.le_trans hc.2 (hm hc.1))]
    · cases h
  · injection h with h
    simp only [Real, v3] at hx hy
    subst h hx hy
    rw [run_str_eql, beq_self_eq_true]
  · cases h

/-- The evaluator says: true. -/
def isTrue (r : Option AV) : Bool := match r with
  | some (.lit (.bool true)) => true
  | _ => false
theorem isTrue_eq {r : Option AV} (h : isTrue r = true) : r = some (.lit (.bool true)) := by
  unfold isTrue at h
  split at h
  · rfl
  · cases h
theorem all_range {k : Nat} {p : Nat → Bool} (h : (List.range k).all p = true) {i : Int} (h0 : 0 ≤ i) (h1 : i < k) : p i.toNat = true := by
  have := List.all_eq_true.1 h i.toNat (List.mem_range.2 (by omega))
  exact this
end Go.Proofs.YtmehknlijcbphaaGreatDoor
