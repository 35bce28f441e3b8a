/- The statement BaseNames: for all arguments the call answers true and turns nothing; no condition. -/
import Derived.ChangeMaps5
import Derived.Test.YtmehknlijcbphaaDoorLay
import Derived.Test.YtmehknlijcbphaaDoorLNames
namespace Go.Proofs.YtmehknlijcbphaaDoor
open Go.ChangeShapes Go.WideShapes Go.ChangeAt Go.RowKit

set_option maxRecDepth 100000 in
theorem baseNames_lifted (os : Os) (started : os.Started) (H : Type) (enc : TypeId × Value → H) :
    ReturnsInHanded {} Tryd.checked os 3 .any (fun w args => (Rows.baseNamesSpec.pre enc Tryd.prog Tryd.f3 Rows.baseNamesRow.domain false w args ∧ laidMetH Tryd.prog laidList w) ∧ sizedMet enc Tryd.prog Tryd.f3 (OpenSpec.ofChange Rows.baseNamesSpec) false w args) (Rows.baseNamesSpec.post enc Tryd.prog Tryd.f3 false true false false) :=
  law_laid (s := Rows.baseNamesSpec) os started enc (by kernel_rfl) Tryd.func3 rfl Tryd.underlying4 (by kernel_rfl) rfl
    (fun ds h => by match ds, h with | [_, _], _ => rfl)
    #[.string ⟨#[]⟩, .int .i64 0] 8 (by kernel_rfl) (by kernel_rfl) (by kernel_rfl)
    (fun W base args ds p hval hA _ hT => by
      rw [Tryd.params3] at hA hval
      obtain ⟨v0, v1, d0, d1, p0, p1, rfl, rfl, rfl, h0, h1⟩ := trodAll_two hA
      obtain ⟨x0, rfl, rfl, rfl, _⟩ := Go.ChangeMaps.open_string Tryd.underlying9 (hval 0 9 v0 rfl rfl) h0
      obtain ⟨x1, rfl, rfl, rfl, k1⟩ := open_int Tryd.underlying3 (hval 1 3 v1 rfl rfl) h1
      exact baseNames_law x0 x1 W (i64_of_wf k1) hT)

theorem baseNames_row : Rows.BaseNamesSaid :=
  OpenClaim.holds_of_wide 3 Tryd.f3 rfl rfl rfl rfl rfl rfl rfl ⟨rfl, rfl, rfl, rfl, rfl⟩ rfl rfl rfl rfl rfl (by kernel_rfl) Tryd.func3 (by kernel_rfl)
    (of_decide_eq_true (by kernel_rfl)) (by unfold Func.isWrapper; rw [if_neg (of_decide_eq_false (by kernel_rfl))]; exact ⟨rfl, rfl⟩)
    (fun os started H enc _ => baseNames_lifted os started H enc)

theorem baseNames_holds : Rows.BaseNamesCardSaid :=
  Claim7.holds_tied_plain_at .later [] [.data, .listed, .data, .pinned] true (true, Rows.baseNamesCard.stood.harness.2) false
    baseNames_row (fun _ h => by cases h) (by kernel_rfl) (fun _ h => by cases h) baseNames_row_tie rfl ⟨rfl, rfl⟩ (by kernel_rfl) rfl
    (fun f fn hf hfn => by
      obtain rfl : f = 3 := Option.some.inj ((show Tryd.prog.funcNamed Rows.baseNamesRow.func = some 3 by kernel_rfl).symm.trans hf) |>.symm
      obtain rfl : fn = Tryd.f3 := (Option.some.inj (Tryd.func3.symm.trans hfn)).symm
      exact ⟨by kernel_rfl, fun j t ht => by
        rw [Tryd.params3] at ht
        have hm : t ∈ [9, 3] := by simpa using Array.mem_of_getElem? ht
        have hall : ([9, 3].all fun u => !Tryd.prog.wantsStandIn u) = true := by kernel_rfl
        exact (show Tryd.prog.wantsStandIn t = false by simpa using List.all_eq_true.1 hall t hm)⟩)
    (by kernel_rfl)
#print axioms baseNames_holds
end Go.Proofs.YtmehknlijcbphaaDoor
