/- The statement HeapAlloc: for every script and number the call answers true and turns nothing; no condition. -/
import Derived.Test.YtobniolmielikaaFrame
import Derived.Test.YtobniolmielikaaOpen2
import Derived.Test.YtobniolmielikaaScrA
import Derived.Lib.SmallJoins
namespace Go.Proofs.Ytobniolmielikaa
open Go.ChangeShapes Go.WideShapes Go.ChangeAt Go.RowKit Go.Joins

set_option maxRecDepth 100000 in
theorem heapAlloc_lifted (os : Os) (started : os.Started) (H : Type) (enc : TypeId × Value → H) :
    ReturnsInHanded {} Try.checked os 4 .any (Rows.heapAllocSpec.pre6 enc Try.prog Try.f4 Rows.heapAllocRow.domain false) (Rows.heapAllocSpec.post enc Try.prog Try.f4 false true false false) :=
  law_lifted (s := Rows.heapAllocSpec) os started enc (by kernel_rfl) Try.func4 rfl Try.underlying4 (by kernel_rfl) rfl
    (fun ds h => by match ds, h with | [_, _], _ => rfl)
    (ChangeSpec.witness6 (enc := enc) (C := Try.checked) false ⟨#[], #[.agg #[.int .i64 0, .int .i64 0, .slice none 0 0], .int .i64 0], []⟩ 8 (by kernel_rfl) (by kernel_rfl) (by kernel_rfl) (by kernel_rfl))
    (fun W base args ds p hval hA hsz => by
      rw [Try.params4] at hA hval hsz
      obtain ⟨v0, v1, d0, d1, p0, p1, ha, rfl, rfl, h0, h1⟩ := trodAll_two hA
      obtain rfl : args = #[v0, v1] := by cases args; simp_all
      obtain ⟨k, rfl, rfl, rfl, _⟩ := open_int Try.underlying3 (hval 1 3 v1 rfl rfl) h1
      obtain ⟨cs, rfl, hcs⟩ := okWide_struct Try.underlying41 (hval 0 41 v0 rfl rfl)
      obtain ⟨fuel, hf⟩ := h0
      obtain ⟨n, m, v, l, e, hl⟩ := script_of_trod hf (fits_each (j := 0) (by simpa using hsz) rfl rfl)
      obtain rfl : cs = #[.int .i64 n, .int .i64 m, v] := by
        cases cs
        simpa [Value.cells] using e
      exact heapAlloc_law W n m v l k hl)

theorem heapAlloc_holds : Rows.HeapAllocSaid :=
  OpenClaim.holds_of_wide 4 Try.f4 rfl rfl rfl rfl rfl rfl rfl ⟨rfl, rfl, rfl, rfl, rfl⟩ rfl rfl rfl rfl rfl (by kernel_rfl) Try.func4 (by kernel_rfl)
    (of_decide_eq_true (by kernel_rfl)) (by unfold Func.isWrapper; rw [if_neg (of_decide_eq_false (by kernel_rfl))]; exact ⟨rfl, rfl⟩)
    (fun os started H enc _ => heapAlloc_lifted os started H enc)

#print axioms heapAlloc_holds
end Go.Proofs.Ytobniolmielikaa
