/- The statement BasePrims: for all arguments the call answers true and turns nothing; no condition. -/
import Derived.ChangeMaps5
import Derived.Test.YtmehknlijcbphaaDoorLay
import Derived.Test.YtmehknlijcbphaaDoorLPrim2
namespace Go.Proofs.YtmehknlijcbphaaDoor
open Go.ChangeShapes Go.WideShapes Go.ChangeAt Go.RowKit

set_option maxRecDepth 100000 in
theorem basePrims_lifted (os : Os) (started : os.Started) (H : Type) (enc : TypeId × Value → H) :
    ReturnsInHanded {} Tryd.checked os 6 .any (fun w args => (Rows.basePrimsSpec.pre enc Tryd.prog Tryd.f6 Rows.basePrimsRow.domain false w args ∧ laidMetH Tryd.prog laidList w) ∧ sizedMet enc Tryd.prog Tryd.f6 (OpenSpec.ofChange Rows.basePrimsSpec) false w args) (Rows.basePrimsSpec.post enc Tryd.prog Tryd.f6 false true false false) :=
  law_laid (s := Rows.basePrimsSpec) os started enc (by kernel_rfl) Tryd.func6 rfl Tryd.underlying4 (by kernel_rfl) rfl
    (fun ds h => by match ds, h with | [_, _], _ => rfl)
    #[.string ⟨#[]⟩, .int .i64 0] 8 (by kernel_rfl) (by kernel_rfl) (by kernel_rfl)
    (fun W base args ds p hval hA _ hT => by
      rw [Tryd.params6] at hA hval
      obtain ⟨v0, v1, d0, d1, p0, p1, rfl, rfl, rfl, h0, h1⟩ := trodAll_two hA
      obtain ⟨x0, rfl, rfl, rfl, _⟩ := Go.ChangeMaps.open_string Tryd.underlying9 (hval 0 9 v0 rfl rfl) h0
      obtain ⟨x1, rfl, rfl, rfl, k1⟩ := open_int Tryd.underlying3 (hval 1 3 v1 rfl rfl) h1
      exact basePrims_law x0 x1 W (i64_of_wf k1) hT)

theorem basePrims_row : Rows.BasePrimsSaid :=
  OpenClaim.holds_of_wide 6 Tryd.f6 rfl rfl rfl rfl rfl rfl rfl ⟨rfl, rfl, rfl, rfl, rfl⟩ rfl rfl rfl rfl rfl (by kernel_rfl) Tryd.func6 (by kernel_rfl)
    (of_decide_eq_true (by kernel_rfl)) (by unfold Func.isWrapper; rw [if_neg (of_decide_eq_false (by kernel_rfl))]; exact ⟨rfl, rfl⟩)
    (fun os started H enc _ => basePrims_lifted os started H enc)

theorem basePrims_holds : Rows.BasePrimsCardSaid :=
  Claim7.holds_tied_plain_at .later [] [.data, .listed, .data, .pinned] true (true, Rows.basePrimsCard.stood.harness.2) false
    basePrims_row (fun _ h => by cases h) (by kernel_rfl) (fun _ h => by cases h) basePrims_row_tie rfl ⟨rfl, rfl⟩ (by kernel_rfl) rfl
    (fun f fn hf hfn => by
      obtain rfl : f = 6 := Option.some.inj ((show Tryd.prog.funcNamed Rows.basePrimsRow.func = some 6 by kernel_rfl).symm.trans hf) |>.symm
      obtain rfl : fn = Tryd.f6 := (Option.some.inj (Tryd.func6.symm.trans hfn)).symm
      exact ⟨by kernel_rfl, fun j t ht => by
        rw [Tryd.params6] at ht
        have hm : t ∈ [9, 3] := by simpa using Array.mem_of_getElem? ht
        have hall : ([9, 3].all fun u => !Tryd.prog.wantsStandIn u) = true := by kernel_rfl
        exact (show Tryd.prog.wantsStandIn t = false by simpa using List.all_eq_true.1 hall t hm)⟩)
    (by kernel_rfl)
#print axioms basePrims_holds
end Go.Proofs.YtmehknlijcbphaaDoor
