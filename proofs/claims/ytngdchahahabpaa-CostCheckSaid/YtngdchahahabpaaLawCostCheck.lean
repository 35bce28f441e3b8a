/- The statement CostCheck: for every slice of events the call answers true and turns nothing; no condition. -/
import Derived.Test.YtngdchahahabpaaFrame
import Derived.Test.YtngdchahahabpaaCostOpen
import Derived.Test.YtngdchahahabpaaCostW1
import Derived.Lib.SmallJoins
namespace Go.Proofs.Ytngdchahahabpaa
open Go.ChangeShapes Go.WideShapes Go.ChangeAt Go.RowKit Go.Joins

set_option maxRecDepth 100000 in
theorem costCheck_lifted (os : Os) (started : os.Started) (H : Type) (enc : TypeId × Value → H) :
    ReturnsInHanded {} Try.checked os 5 .any (Rows.costCheckSpec.pre6 enc Try.prog Try.f5 Rows.costCheckRow.domain false) (Rows.costCheckSpec.post enc Try.prog Try.f5 false true false false) :=
  law_lifted (s := Rows.costCheckSpec) os started enc (by kernel_rfl) Try.func5 rfl Try.underlying4 (by kernel_rfl) rfl
    (fun ds h => by match ds, h with | [_], _ => rfl)
    (ChangeSpec.witness6 (enc := enc) (C := Try.checked) false ⟨#[], #[.slice none 0 0], []⟩ 8 (by kernel_rfl) (by kernel_rfl) (by kernel_rfl) (by kernel_rfl))
    (fun W base args ds p hval hA hsz => by
      rw [Try.params5] at hA hval hsz
      obtain ⟨v0, d0, ha, rfl, h0⟩ := trodAll_one hA
      obtain rfl : args = #[v0] := by cases args; simp_all
      obtain ⟨fuel, hf⟩ := h0
      obtain ⟨v, l, hv, hl⟩ := evs_of_trod hf (fits_each (j := 0) (by simpa using hsz) rfl rfl)
      obtain ⟨A, ln, cp, rfl⟩ := okWide_slice Try.underlying31 (hval 0 31 v0 rfl rfl)
      simp only [Value.cells, List.cons.injEq, and_true] at hv
      subst hv
      exact costCheck_law W _ l hl)

theorem costCheck_holds : Rows.CostCheckSaid :=
  OpenClaim.holds_of_wide 5 Try.f5 rfl rfl rfl rfl rfl rfl rfl ⟨rfl, rfl, rfl, rfl, rfl⟩ rfl rfl rfl rfl rfl (by kernel_rfl) Try.func5 (by kernel_rfl)
    (of_decide_eq_true (by kernel_rfl)) (by unfold Func.isWrapper; rw [if_neg (of_decide_eq_false (by kernel_rfl))]; exact ⟨rfl, rfl⟩)
    (fun os started H enc _ => costCheck_lifted os started H enc)

#print axioms costCheck_holds
end Go.Proofs.Ytngdchahahabpaa
