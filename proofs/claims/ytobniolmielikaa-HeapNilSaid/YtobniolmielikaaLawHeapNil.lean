/- The statement HeapNil: for every address, object and flag the call answers true and turns nothing; no condition. -/
import Derived.Test.YtobniolmielikaaFrame
import Derived.Test.YtobniolmielikaaOpen
import Derived.Test.YtobniolmielikaaNil2
import Derived.Lib.SmallJoins
namespace Go.Proofs.Ytobniolmielikaa
open Go.ChangeShapes Go.WideShapes Go.ChangeAt Go.RowKit Go.Joins

set_option maxRecDepth 100000 in
theorem heapNil_lifted (os : Os) (started : os.Started) (H : Type) (enc : TypeId × Value → H) :
    ReturnsInHanded {} Try.checked os 8 .any (Rows.heapNilSpec.pre6 enc Try.prog Try.f8 Rows.heapNilRow.domain false) (Rows.heapNilSpec.post enc Try.prog Try.f8 false true false false) :=
  law_lifted (s := Rows.heapNilSpec) os started enc (by kernel_rfl) Try.func8 rfl Try.underlying4 (by kernel_rfl) rfl
    (fun ds h => by match ds, h with | [_, _, _], _ => rfl)
    (ChangeSpec.witness6 (enc := enc) (C := Try.checked) false ⟨#[], #[.int .i64 0, .agg #[.int .i64 0, .int .i64 0, .int .i64 0, .slice none 0 0, .slice none 0 0], .bool false], []⟩ 8 (by kernel_rfl) (by kernel_rfl) (by kernel_rfl) (by kernel_rfl))
    (fun W base args ds p hval hA hsz => by
      rw [Try.params8] at hA hval hsz
      clear hsz
      obtain ⟨v0, v1, v2, d0, d1, d2, p0, p1, p2, ha, rfl, rfl, h0, h1, h2⟩ := trodAll_three hA
      obtain rfl : args = #[v0, v1, v2] := by cases args; simp_all
      obtain ⟨i, rfl, rfl, rfl, wi⟩ := open_int Try.underlying3 (hval 0 3 v0 rfl rfl) h0
      obtain ⟨cs, rfl, hcs⟩ := okWide_struct Try.underlying25 (hval 1 25 v1 rfl rfl)
      obtain ⟨c0, c1, c2, c3, c4, hl⟩ := list5 (l := cs.toList) (by simpa [cells25] using hcs)
      obtain rfl : cs = #[c0, c1, c2, c3, c4] := by cases cs; simp_all
      obtain ⟨t, rfl, rfl, rfl⟩ := open_bool Try.underlying4 (hval 2 4 v2 rfl rfl) h2
      exact heapNil_law W i c0 c1 c2 c3 c4 t)

theorem heapNil_holds : Rows.HeapNilSaid :=
  OpenClaim.holds_of_wide 8 Try.f8 rfl rfl rfl rfl rfl rfl rfl ⟨rfl, rfl, rfl, rfl, rfl⟩ rfl rfl rfl rfl rfl (by kernel_rfl) Try.func8 (by kernel_rfl)
    (of_decide_eq_true (by kernel_rfl)) (by unfold Func.isWrapper; rw [if_neg (of_decide_eq_false (by kernel_rfl))]; exact ⟨rfl, rfl⟩)
    (fun os started H enc _ => heapNil_lifted os started H enc)

#print axioms heapNil_holds
end Go.Proofs.Ytobniolmielikaa
