/- The statement CostBound: for all ints the call answers true and turns nothing; no condition. -/
import Derived.Test.YtngdchahahabpaaFrame
import Derived.Test.YtngdchahahabpaaCostOpen
import Derived.Test.YtngdchahahabpaaCostW1
import Derived.Lib.SmallJoins
namespace Go.Proofs.Ytngdchahahabpaa
open Go.ChangeShapes Go.WideShapes Go.ChangeAt Go.RowKit Go.Joins

set_option maxRecDepth 100000 in
theorem costBound_lifted (os : Os) (started : os.Started) (H : Type) (enc : TypeId × Value → H) :
    ReturnsInHanded {} Try.checked os 7 .any (Rows.costBoundSpec.pre6 enc Try.prog Try.f7 Rows.costBoundRow.domain false) (Rows.costBoundSpec.post enc Try.prog Try.f7 false true false false) :=
  law_lifted (s := Rows.costBoundSpec) os started enc (by kernel_rfl) Try.func7 rfl Try.underlying4 (by kernel_rfl) rfl
    (fun ds h => by match ds, h with | [_, _], _ => rfl)
    (ChangeSpec.witness6 (enc := enc) (C := Try.checked) false ⟨#[], #[.int .i64 0, .int .i64 0], []⟩ 8 (by kernel_rfl) (by kernel_rfl) (by kernel_rfl) (by kernel_rfl))
    (fun W base args ds p hval hA hsz => by
      rw [Try.params7] at hA hval hsz
      clear hsz
      obtain ⟨v0, v1, d0, d1, p0, p1, ha, rfl, rfl, h0, h1⟩ := trodAll_two hA
      obtain rfl : args = #[v0, v1] := by cases args; simp_all
      obtain ⟨i, rfl, rfl, rfl, wi⟩ := open_int Try.underlying3 (hval 0 3 v0 rfl rfl) h0
      obtain ⟨j, rfl, rfl, rfl, wj⟩ := open_int Try.underlying3 (hval 1 3 v1 rfl rfl) h1
      exact costBound_law W i j wi wj)

theorem costBound_holds : Rows.CostBoundSaid :=
  OpenClaim.holds_of_wide 7 Try.f7 rfl rfl rfl rfl rfl rfl rfl ⟨rfl, rfl, rfl, rfl, rfl⟩ rfl rfl rfl rfl rfl (by kernel_rfl) Try.func7 (by kernel_rfl)
    (of_decide_eq_true (by kernel_rfl)) (by unfold Func.isWrapper; rw [if_neg (of_decide_eq_false (by kernel_rfl))]; exact ⟨rfl, rfl⟩)
    (fun os started H enc _ => costBound_lifted os started H enc)

#print axioms costBound_holds
end Go.Proofs.Ytngdchahahabpaa
