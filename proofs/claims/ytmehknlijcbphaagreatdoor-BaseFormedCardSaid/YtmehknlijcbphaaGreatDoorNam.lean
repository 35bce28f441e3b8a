/- The names of the environment's types, looked at once; no condition. -/
import Derived.Test.YtmehknlijcbphaaGreatDoorRz2
import Derived.Test.YtmehknlijcbphaaGreatDoorOrc
import Derived.Test.YtmehknlijcbphaaGreatDoorCol2
namespace Go.Proofs.YtmehknlijcbphaaGreatDoor
open Go Go.RowKit Ev

/-- A function of a name that is true at these names. -/
def strTab (l : List (List UInt8)) : List AV → Option AV
  | [.lit (.string s)] => if (l.any fun x => bytesEq x s.data.toList) = true then some (.lit (.bool true)) else none
  | _ => none
theorem strTab_ok [Syms] {o : BinOp → AV → AV → Option Bool} (ho : (tabOf o).Ok Tryz.prog) {ext : FuncId → Option (List AV → Option AV)} (h : ExtOk Tryz.prog Tabd ext) {n : Nat} {f : FuncId} {l : List (List UInt8)}
    (hr : (l.all fun x => isTrue (evCall Tryz.prog (tabOf o) ext 10000 n f [.lit (.string ⟨x.toArray⟩)])) = true) : OneOk f (strTab l) := by
  intro args r h'
  unfold strTab at h'
  split at h'
  · rename_i s
    split at h'
    · rename_i hc
      injection h' with h'
      subst h'
      obtain ⟨x, hx, e⟩ := List.any_eq_true.1 hc
      have h1 := isTrue_eq (List.all_eq_true.1 hr x hx)
      rw [bytesEq_eq] at e
      have e2 : s = ⟨x.toArray⟩ := by
        obtain ⟨d⟩ := s
        have e3 : x = d.toList := by simpa using e
        rw [e3]
      rw [e2]
      exact oneOk ho h n f _ _ h1
    · cases h'
  · cases h'

def varNames : List (List UInt8) := [[97], [98], [99], [100], [101], [102], [103]]
def conNames : List (List UInt8) := [[73, 110, 116], [67, 104, 97, 114], [45, 62], [73, 79], [66, 111, 111, 108], [91, 93], [40, 41], [69, 120, 99], [40, 44, 41], [40, 44, 44, 41], [40, 44, 44, 44, 41], [40, 44, 44, 44, 44, 41], [40, 44, 44, 44, 44, 44, 41]]
theorem var_true : (varNames.all fun x => isTrue (evCall Tryz.prog (tabOf noOrc) extE 10000 40 39 [.lit (.string ⟨x.toArray⟩)])) = true := by kernel_rfl
theorem con_true : (conNames.all fun x => isTrue (evCall Tryz.prog (tabOf noOrc) extE 10000 40 40 [.lit (.string ⟨x.toArray⟩)])) = true := by kernel_rfl
noncomputable def extF : FuncId → Option (List AV → Option AV) := addExt (addExt (addExt extE 24 ext24) 39 (strTab varNames)) 40 (strTab conNames)
theorem extF_ok [Syms] : ExtOk Tryz.prog Tabd extF :=
  addExt_ok (addExt_ok (addExt_ok extE_ok ext24_ok) (strTab_ok tabNo_ok extE_ok var_true)) (strTab_ok tabNo_ok extE_ok con_true)
end Go.Proofs.YtmehknlijcbphaaGreatDoor
