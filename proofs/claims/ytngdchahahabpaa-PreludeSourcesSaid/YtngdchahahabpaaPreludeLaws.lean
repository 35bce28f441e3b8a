/- The two statements on the Prelude: for every input the calls answer true and turn nothing; no condition. -/
import Derived.Test.YtngdchahahabpaaFrame
import Derived.Test.YtngdchahahabpaaPreludeWalks
import Derived.Lib.SmallJoins
namespace Go.Proofs.Ytngdchahahabpaa
open Go.ChangeShapes Go.WideShapes Go.ChangeAt Go.RowKit Go.Joins
open Go.ChangeMaps (open_string shut_string)

theorem cells23 : Try.prog.cellsOf 23 = 2 := by kernel_rfl

set_option maxRecDepth 100000 in
theorem preludeSources_lifted (os : Os) (started : os.Started) (H : Type) (enc : TypeId × Value → H) :
    ReturnsInHanded {} Try.checked os 3 .any (Rows.preludeSourcesSpec.pre6 enc Try.prog Try.f3 Rows.preludeSourcesRow.domain false) (Rows.preludeSourcesSpec.post enc Try.prog Try.f3 false true false false) :=
  law_lifted (s := Rows.preludeSourcesSpec) os started enc (by kernel_rfl) Try.func3 rfl Try.underlying4 (by kernel_rfl) rfl
    (fun ds h => by match ds, h with | [_, _], _ => rfl)
    (ChangeSpec.witness6 (enc := enc) (C := Try.checked) false ⟨#[], #[.int .i64 0, .agg #[.string ByteArray.empty, .string ByteArray.empty]], []⟩ 8 (by kernel_rfl) (by kernel_rfl) (by kernel_rfl) (by kernel_rfl))
    (fun W base args ds p hval hA hsz => by
      rw [Try.params3] at hA hval hsz
      clear hsz
      obtain ⟨v0, v1, d0, d1, p0, p1, ha, rfl, rfl, h0, h1⟩ := trodAll_two hA
      obtain rfl : args = #[v0, v1] := by cases args; simp_all
      obtain ⟨i, rfl, rfl, rfl, wi⟩ := open_int Try.underlying3 (hval 0 3 v0 rfl rfl) h0
      obtain ⟨c0, c1, y0, y1, m, rfl, rfl, rfl, hy0, hy1⟩ := open_agg2 Try.underlying23 (by kernel_rfl) cells23 (hval 1 23 v1 rfl rfl) h1
      obtain ⟨a, e0, rfl, wa⟩ := DataW.trod_string Try.underlying9 hy0
      obtain ⟨b, e1, rfl, wb⟩ := DataW.trod_string Try.underlying9 hy1
      simp at e0 e1
      subst e0 e1
      exact sources_law i a b W wi)

theorem preludeSources_holds : Rows.PreludeSourcesSaid :=
  OpenClaim.holds_of_wide 3 Try.f3 rfl rfl rfl rfl rfl rfl rfl ⟨rfl, rfl, rfl, rfl, rfl⟩ rfl rfl rfl rfl rfl (by kernel_rfl) Try.func3 (by kernel_rfl)
    (of_decide_eq_true (by kernel_rfl)) (by unfold Func.isWrapper; rw [if_neg (of_decide_eq_false (by kernel_rfl))]; exact ⟨rfl, rfl⟩)
    (fun os started H enc _ => preludeSources_lifted os started H enc)

set_option maxRecDepth 100000 in
theorem preludeSource_lifted (os : Os) (started : os.Started) (H : Type) (enc : TypeId × Value → H) :
    ReturnsInHanded {} Try.checked os 4 .any (Rows.preludeSourceSpec.pre6 enc Try.prog Try.f4 Rows.preludeSourceRow.domain false) (Rows.preludeSourceSpec.post enc Try.prog Try.f4 false true false false) :=
  law_lifted (s := Rows.preludeSourceSpec) os started enc (by kernel_rfl) Try.func4 rfl Try.underlying4 (by kernel_rfl) rfl
    (fun ds h => by match ds, h with | [_], _ => rfl)
    (ChangeSpec.witness6 (enc := enc) (C := Try.checked) false ⟨#[], #[.string ByteArray.empty], []⟩ 8 (by kernel_rfl) (by kernel_rfl) (by kernel_rfl) (by kernel_rfl))
    (fun W base args ds p hval hA hsz => by
      rw [Try.params4] at hA hval hsz
      clear hsz
      obtain ⟨v0, d0, ha, rfl, h0⟩ := trodAll_one hA
      obtain rfl : args = #[v0] := by cases args; simp_all
      obtain ⟨s, rfl, rfl, rfl, hs⟩ := open_string Try.underlying9 (hval 0 9 v0 rfl rfl) h0
      exact source_law s W)

theorem preludeSource_holds : Rows.PreludeSourceSaid :=
  OpenClaim.holds_of_wide 4 Try.f4 rfl rfl rfl rfl rfl rfl rfl ⟨rfl, rfl, rfl, rfl, rfl⟩ rfl rfl rfl rfl rfl (by kernel_rfl) Try.func4 (by kernel_rfl)
    (of_decide_eq_true (by kernel_rfl)) (by unfold Func.isWrapper; rw [if_neg (of_decide_eq_false (by kernel_rfl))]; exact ⟨rfl, rfl⟩)
    (fun os started H enc _ => preludeSource_lifted os started H enc)

#print axioms preludeSources_holds
#print axioms preludeSource_holds
end Go.Proofs.Ytngdchahahabpaa
