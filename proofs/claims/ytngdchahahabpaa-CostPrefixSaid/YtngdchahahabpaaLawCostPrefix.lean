/- The statement CostPrefix: for every slice of events and every number the call answers true and turns nothing; no condition. -/
import Derived.Test.YtngdchahahabpaaFrame
import Derived.Test.YtngdchahahabpaaCostOpen
import Derived.Test.YtngdchahahabpaaCostW2
import Derived.Lib.SmallJoins
namespace Go.Proofs.Ytngdchahahabpaa
open Go.ChangeShapes Go.WideShapes Go.ChangeAt Go.RowKit Go.Joins

set_option maxRecDepth 100000 in
theorem costPrefix_lifted (os : Os) (started : os.Started) (H : Type) (enc : TypeId × Value → H) :
    ReturnsInHanded {} Try.checked os 8 .any (Rows.costPrefixSpec.pre6 enc Try.prog Try.f8 Rows.costPrefixRow.domain false) (Rows.costPrefixSpec.post enc Try.prog Try.f8 false true false false) :=
  law_lifted (s := Rows.costPrefixSpec) os started enc (by kernel_rfl) Try.func8 rfl Try.underlying4 (by kernel_rfl) rfl
    (fun ds h => by match ds, h with | [_, _], _ => rfl)
    (ChangeSpec.witness6 (enc := enc) (C := Try.checked) false ⟨#[], #[.slice none 0 0, .int .i64 0], []⟩ 8 (by kernel_rfl) (by kernel_rfl) (by kernel_rfl) (by kernel_rfl))
    (fun W base args ds p hval hA hsz => by
      rw [Try.params8] at hA hval hsz
      obtain ⟨v0, v1, d0, d1, p0, p1, ha, rfl, rfl, h0, h1⟩ := trodAll_two hA
      obtain rfl : args = #[v0, v1] := by cases args; simp_all
      obtain ⟨k, rfl, rfl, rfl, _⟩ := open_int Try.underlying3 (hval 1 3 v1 rfl rfl) h1
      obtain ⟨fuel, hf⟩ := h0
      obtain ⟨v, l, hv, hl⟩ := evs_of_trod hf (fits_each (j := 0) (by simpa using hsz) rfl rfl)
      obtain ⟨A, ln, cp, rfl⟩ := okWide_slice Try.underlying31 (hval 0 31 v0 rfl rfl)
      simp only [Value.cells, List.cons.injEq, and_true] at hv
      subst hv
      exact costPrefix_law W _ l k hl)

theorem costPrefix_holds : Rows.CostPrefixSaid :=
  OpenClaim.holds_of_wide 8 Try.f8 rfl rfl rfl rfl rfl rfl rfl ⟨rfl, rfl, rfl, rfl, rfl⟩ rfl rfl rfl rfl rfl (by kernel_rfl) Try.func8 (by kernel_rfl)
    (of_decide_eq_true (by kernel_rfl)) (by unfold Func.isWrapper; rw [if_neg (of_decide_eq_false (by kernel_rfl))]; exact ⟨rfl, rfl⟩)
    (fun os started H enc _ => costPrefix_lifted os started H enc)

#print axioms costPrefix_holds
end Go.Proofs.Ytngdchahahabpaa
