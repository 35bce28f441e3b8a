/- Tables of results that have been found; the types' leaves, and Check at the environment's types; no condition. -/
import Derived.Test.YtmehknlijcbphaaGreatDoorNam
namespace Go.Proofs.YtmehknlijcbphaaGreatDoor
open Go Go.RowKit Ev

def litEq : Value → Value → Bool
  | .int .i64 a, .int .i64 b => decide (a = b)
  | .string a, .string b => bytesEq a.data.toList b.data.toList
  | .slice none 0 0, .slice none 0 0 => true
  | .bool a, .bool b => a == b
  | _, _ => false
theorem litEq_eq {u v : Value} (h : litEq u v = true) : u = v := by
  unfold litEq at h
  split at h
  · simp at h; rw [h]
  · rename_i a b
    rw [bytesEq_eq] at h
    obtain ⟨d⟩ := a
    obtain ⟨e⟩ := b
    have : d.toList = e.toList := by simpa using h
    rw [Array.ext' this]
  · rfl
  · simp at h; rw [h]
  · cases h
def allEq (f : AV → AV → Bool) : List AV → List AV → Bool
  | [], [] => true
  | a :: x, b :: y => if f a b = true then allEq f x y else false
  | _, _ => false
theorem allEq_eq {f : AV → AV → Bool} (hf : ∀ a b, f a b = true → a = b) : ∀ {x y : List AV}, allEq f x y = true → x = y
  | [], [], _ => rfl
  | a :: x, b :: y, h => by
    simp only [allEq] at h
    split at h
    · rename_i h1
      rw [hf a b h1, allEq_eq hf h]
    · cases h
  | [], _ :: _, h => by cases h
  | _ :: _, [], h => by cases h
def avEq : Nat → AV → AV → Bool
  | 0, _, _ => false
  | _ + 1, .lit u, .lit v => litEq u v
  | d + 1, .agg a, .agg b => allEq (avEq d) a b
  | d + 1, .tup a, .tup b => allEq (avEq d) a b
  | d + 1, .sl n a none, .sl m b none => if n = m then allEq (avEq d) a b else false
  | _, _, _ => false
theorem avEq_eq : ∀ (d : Nat) (a b : AV), avEq d a b = true → a = b := by
  intro d
  induction d with
  | zero => intro a b h; cases h
  | succ d ih =>
    intro a b h
    unfold avEq at h
    split at h
    · rename_i h0; cases h0
    · rw [litEq_eq h]
    · rename_i e; injection e with e; subst e; rw [allEq_eq (ih) h]
    · rename_i e; injection e with e; subst e; rw [allEq_eq (ih) h]
    · rename_i e
      injection e with e
      subst e
      split at h
      · rename_i hn
        rw [hn, allEq_eq (ih) h]
      · cases h
    · cases h

/-- What has been found of a function of one argument. -/
def tab1 : List (AV × AV) → List AV → Option AV
  | [], _ => none
  | (a, r) :: l, [t] => if avEq 60 t a = true then some r else tab1 l [t]
  | _, _ => none
def isRes (r : AV) : Option AV → Bool
  | some v => avEq 60 v r
  | none => false
theorem tab1_ok [Syms] {o : BinOp → AV → AV → Option Bool} (ho : (tabOf o).Ok Tryz.prog) {ext : FuncId → Option (List AV → Option AV)} (h : ExtOk Tryz.prog Tabd ext) {n : Nat} {f : FuncId} : ∀ {l : List (AV × AV)},
    (l.all fun p => isRes p.2 (evCall Tryz.prog (tabOf o) ext 10000 n f [p.1])) = true → OneOk f (tab1 l)
  | [], _ => fun args r h' => by cases h'
  | (a, v) :: l, hr => fun args r h' => by
    simp only [List.all_cons, Bool.and_eq_true] at hr
    unfold tab1 at h'
    split at h'
    · cases h'
    · rename_i e
      injection e with e1 e2
      subst e2
      injection e1 with e1 e3
      subst e1
      subst e3
      split at h'
      · rename_i t he
        rw [avEq_eq 60 _ _ he]
        injection h' with h'
        subst h'
        have h1 := hr.1
        unfold isRes at h1
        split at h1
        · rename_i w hw
          rw [avEq_eq 60 _ _ h1] at hw
          exact oneOk ho h n f _ _ hw
        · cases h1
      · exact tab1_ok ho h hr.2 _ r h'
    · cases h'

def leaf (op : Int) (s : List UInt8) : AV := .agg [.lit (.int .i64 op), .lit (.string ⟨s.toArray⟩), .lit (.slice none 0 0), .lit (.slice none 0 0)]
def leaves (r : AV) : List (AV × AV) := (varNames.map fun s => (leaf 1 s, r)) ++ (conNames.map fun s => (leaf 2 s, r))
def one : AV := .lit (.int .i64 1)
theorem leaf20 : ((leaves (.lit (.bool true))).all fun p => isRes p.2 (evCall Tryz.prog (tabOf noOrc) extF 10000 60 20 [p.1])) = true := by kernel_rfl
theorem leaf21 : ((leaves (.tup [one, one])).all fun p => isRes p.2 (evCall Tryz.prog (tabOf noOrc) extF 10000 60 21 [p.1])) = true := by kernel_rfl
theorem leaf22 : ((leaves one).all fun p => isRes p.2 (evCall Tryz.prog (tabOf noOrc) extF 10000 60 22 [p.1])) = true := by kernel_rfl
theorem leaf23 : ((leaves one).all fun p => isRes p.2 (evCall Tryz.prog (tabOf noOrc) extF 10000 60 23 [p.1])) = true := by kernel_rfl
noncomputable def extG : FuncId → Option (List AV → Option AV) := addExt (addExt (addExt (addExt extF 20 (tab1 (leaves (.lit (.bool true))))) 21 (tab1 (leaves (.tup [one, one])))) 22 (tab1 (leaves one))) 23 (tab1 (leaves one))
theorem extG_ok [Syms] : ExtOk Tryz.prog Tabd extG :=
  addExt_ok (addExt_ok (addExt_ok (addExt_ok extF_ok (tab1_ok tabNo_ok extF_ok leaf20)) (tab1_ok tabNo_ok extF_ok leaf21)) (tab1_ok tabNo_ok extF_ok leaf22)) (tab1_ok tabNo_ok extF_ok leaf23)
end Go.Proofs.YtmehknlijcbphaaGreatDoor
