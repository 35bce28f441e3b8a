/- The statement CostPossible: for every slice of events the call answers true and turns nothing; no condition. -/
import Derived.Test.YtngdchahahabpaaFrame
import Derived.Test.YtngdchahahabpaaCostOpen
import Derived.Test.YtngdchahahabpaaCostW5
import Derived.Lib.SmallJoins
namespace Go.Proofs.Ytngdchahahabpaa
open Go.ChangeShapes Go.WideShapes Go.ChangeAt Go.RowKit Go.Joins

set_option maxRecDepth 100000 in
theorem costPossible_lifted (os : Os) (started : os.Started) (H : Type) (enc : TypeId × Value → H) :
    ReturnsInHanded {} Try.checked os 10 .any (Rows.costPossibleSpec.pre6 enc Try.prog Try.f10 Rows.costPossibleRow.domain false) (Rows.costPossibleSpec.post enc Try.prog Try.f10 false true false false) :=
  law_lifted (s := Rows.costPossibleSpec) os started enc (by kernel_rfl) Try.func10 rfl Try.underlying4 (by kernel_rfl) rfl
    (fun ds h => by match ds, h with | [_], _ => rfl)
    (ChangeSpec.witness6 (enc := enc) (C := Try.checked) false ⟨#[], #[.slice none 0 0], []⟩ 8 (by kernel_rfl) (by kernel_rfl) (by kernel_rfl) (by kernel_rfl))
    (fun W base args ds p hval hA hsz => by
      rw [Try.params10] at hA hval hsz
      obtain ⟨v0, d0, ha, rfl, h0⟩ := trodAll_one hA
      obtain rfl : args = #[v0] := by cases args; simp_all
      obtain ⟨fuel, hf⟩ := h0
      obtain ⟨v, l, hv, hl⟩ := evs_of_trod hf (fits_each (j := 0) (by simpa using hsz) rfl rfl)
      obtain ⟨A, ln, cp, rfl⟩ := okWide_slice Try.underlying31 (hval 0 31 v0 rfl rfl)
      simp only [Value.cells, List.cons.injEq, and_true] at hv
      subst hv
      exact costPossible_law W _ l hl)

theorem costPossible_holds : Rows.CostPossibleSaid :=
  OpenClaim.holds_of_wide 10 Try.f10 rfl rfl rfl rfl rfl rfl rfl ⟨rfl, rfl, rfl, rfl, rfl⟩ rfl rfl rfl rfl rfl (by kernel_rfl) Try.func10 (by kernel_rfl)
    (of_decide_eq_true (by kernel_rfl)) (by unfold Func.isWrapper; rw [if_neg (of_decide_eq_false (by kernel_rfl))]; exact ⟨rfl, rfl⟩)
    (fun os started H enc _ => costPossible_lifted os started H enc)

#print axioms costPossible_holds
end Go.Proofs.Ytngdchahahabpaa
