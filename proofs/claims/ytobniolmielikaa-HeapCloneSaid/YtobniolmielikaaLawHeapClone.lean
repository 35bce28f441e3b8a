/- The statement HeapClone: for every script the call answers true and turns nothing; no condition. -/
import Derived.Test.YtobniolmielikaaFrame
import Derived.Test.YtobniolmielikaaOpen2
import Derived.Test.YtobniolmielikaaScrC
import Derived.Lib.SmallJoins
namespace Go.Proofs.Ytobniolmielikaa
open Go.ChangeShapes Go.WideShapes Go.ChangeAt Go.RowKit Go.Joins

set_option maxRecDepth 100000 in
theorem heapClone_lifted (os : Os) (started : os.Started) (H : Type) (enc : TypeId × Value → H) :
    ReturnsInHanded {} Try.checked os 7 .any (Rows.heapCloneSpec.pre6 enc Try.prog Try.f7 Rows.heapCloneRow.domain false) (Rows.heapCloneSpec.post enc Try.prog Try.f7 false true false false) :=
  law_lifted (s := Rows.heapCloneSpec) os started enc (by kernel_rfl) Try.func7 rfl Try.underlying4 (by kernel_rfl) rfl
    (fun ds h => by match ds, h with | [_], _ => rfl)
    (ChangeSpec.witness6 (enc := enc) (C := Try.checked) false ⟨#[], #[.agg #[.int .i64 0, .int .i64 0, .slice none 0 0]], []⟩ 8 (by kernel_rfl) (by kernel_rfl) (by kernel_rfl) (by kernel_rfl))
    (fun W base args ds p hval hA hsz => by
      rw [Try.params7] at hA hval hsz
      obtain ⟨v0, d0, ha, rfl, h0⟩ := trodAll_one hA
      obtain rfl : args = #[v0] := by cases args; simp_all
      obtain ⟨cs, rfl, hcs⟩ := okWide_struct Try.underlying41 (hval 0 41 v0 rfl rfl)
      obtain ⟨fuel, hf⟩ := h0
      obtain ⟨n, m, v, l, e, hl⟩ := script_of_trod hf (fits_each (j := 0) (by simpa using hsz) rfl rfl)
      obtain rfl : cs = #[.int .i64 n, .int .i64 m, v] := by
        cases cs
        simpa [Value.cells] using e
      exact heapClone_law W n m v l hl)

theorem heapClone_holds : Rows.HeapCloneSaid :=
  OpenClaim.holds_of_wide 7 Try.f7 rfl rfl rfl rfl rfl rfl rfl ⟨rfl, rfl, rfl, rfl, rfl⟩ rfl rfl rfl rfl rfl (by kernel_rfl) Try.func7 (by kernel_rfl)
    (of_decide_eq_true (by kernel_rfl)) (by unfold Func.isWrapper; rw [if_neg (of_decide_eq_false (by kernel_rfl))]; exact ⟨rfl, rfl⟩)
    (fun os started H enc _ => heapClone_lifted os started H enc)

#print axioms heapClone_holds
end Go.Proofs.Ytobniolmielikaa
