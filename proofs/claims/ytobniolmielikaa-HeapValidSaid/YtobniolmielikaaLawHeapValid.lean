/- The statement HeapValid: for every object the call answers true and turns nothing; no condition. -/
import Derived.Test.YtobniolmielikaaFrame
import Derived.Test.YtobniolmielikaaOpen
namespace Go.Proofs.Ytobniolmielikaa
open Go.ChangeShapes Go.WideShapes Go.ChangeAt Go.RowKit

set_option maxRecDepth 100000 in
theorem heapValid_lifted (os : Os) (started : os.Started) (H : Type) (enc : TypeId × Value → H) :
    ReturnsInHanded {} Try.checked os 3 .any (Rows.heapValidSpec.pre6 enc Try.prog Try.f3 Rows.heapValidRow.domain false) (Rows.heapValidSpec.post enc Try.prog Try.f3 false true false false) :=
  law_lifted (s := Rows.heapValidSpec) os started enc (by kernel_rfl) Try.func3 rfl Try.underlying4 (by kernel_rfl) rfl
    (fun ds h => by match ds, h with | [_], _ => rfl)
    (ChangeSpec.witness6 (enc := enc) (C := Try.checked) false ⟨#[], #[.agg #[.int .i64 0, .int .i64 0, .int .i64 0, .slice none 0 0, .slice none 0 0]], []⟩ 8 (by kernel_rfl) (by kernel_rfl) (by kernel_rfl) (by kernel_rfl))
    (fun W base args ds p hval hA hsz => by
      rw [Try.params3] at hA hval hsz
      obtain ⟨v0, d0, ha, rfl, h0⟩ := trodAll_one hA
      obtain rfl : args = #[v0] := by cases args; simp_all
      obtain ⟨fuel, hf⟩ := h0
      obtain ⟨cs, rfl, _⟩ := okWide_struct Try.underlying25 (hval 0 25 v0 rfl rfl)
      obtain ⟨o, ho⟩ := ob_of_trod hf (fits_each (j := 0) (by simpa using hsz) rfl rfl)
      exact heapValid_law _ W _ o (by simpa [Value.cells] using ho))

theorem heapValid_holds : Rows.HeapValidSaid :=
  OpenClaim.holds_of_wide 3 Try.f3 rfl rfl rfl rfl rfl rfl rfl ⟨rfl, rfl, rfl, rfl, rfl⟩ rfl rfl rfl rfl rfl (by kernel_rfl) Try.func3 (by kernel_rfl)
    (of_decide_eq_true (by kernel_rfl)) (by unfold Func.isWrapper; rw [if_neg (of_decide_eq_false (by kernel_rfl))]; exact ⟨rfl, rfl⟩)
    (fun os started H enc _ => heapValid_lifted os started H enc)

#print axioms heapValid_holds
end Go.Proofs.Ytobniolmielikaa
