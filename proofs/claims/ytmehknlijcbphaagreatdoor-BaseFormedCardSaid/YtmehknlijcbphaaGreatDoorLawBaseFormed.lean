/- The statement BaseFormed: for all arguments the call answers true and turns nothing; no condition. -/
import Derived.ChangeMaps5
import Derived.Test.YtmehknlijcbphaaGreatDoorLay
import Derived.Test.YtmehknlijcbphaaGreatDoorLFormed
namespace Go.Proofs.YtmehknlijcbphaaGreatDoor
open Go.ChangeShapes Go.WideShapes Go.ChangeAt Go.RowKit

set_option maxRecDepth 100000 in
theorem baseFormed_lifted (os : Os) (started : os.Started) (H : Type) (enc : TypeId × Value → H) :
    ReturnsInHanded {} Tryz.checked os 3 .any (fun w args => (Rows.baseFormedSpec.pre enc Tryz.prog Tryz.f3 Rows.baseFormedRow.domain false w args ∧ laidMetH Tryz.prog laidList w) ∧ sizedMet enc Tryz.prog Tryz.f3 (OpenSpec.ofChange Rows.baseFormedSpec) false w args) (Rows.baseFormedSpec.post enc Tryz.prog Tryz.f3 false true false false) :=
  law_laid (s := Rows.baseFormedSpec) os started enc (by kernel_rfl) Tryz.func3 rfl Tryz.underlying4 (by kernel_rfl) rfl
    (fun ds h => by match ds, h with | [_], _ => rfl)
    #[.int .i64 0] 8 (by kernel_rfl) (by kernel_rfl) (by kernel_rfl)
    (fun W base args ds p hval hA _ hT => by
      rw [Tryz.params3] at hA hval
      obtain ⟨v0, d0, rfl, rfl, h0⟩ := trodAll_one hA
      obtain ⟨x0, rfl, rfl, rfl, k0⟩ := open_int Tryz.underlying3 (hval 0 3 v0 rfl rfl) h0
      exact baseFormed_law x0 W (i64_of_wf k0) hT)

theorem baseFormed_row : Rows.BaseFormedSaid :=
  OpenClaim.holds_of_wide 3 Tryz.f3 rfl rfl rfl rfl rfl rfl rfl ⟨rfl, rfl, rfl, rfl, rfl⟩ rfl rfl rfl rfl rfl (by kernel_rfl) Tryz.func3 (by kernel_rfl)
    (of_decide_eq_true (by kernel_rfl)) (by unfold Func.isWrapper; rw [if_neg (of_decide_eq_false (by kernel_rfl))]; exact ⟨rfl, rfl⟩)
    (fun os started H enc _ => baseFormed_lifted os started H enc)

theorem baseFormed_holds : Rows.BaseFormedCardSaid :=
  Claim7.holds_tied_plain_at .later [] [.data, .listed, .data, .pinned] true (true, Rows.baseFormedCard.stood.harness.2) false
    baseFormed_row (fun _ h => by cases h) (by kernel_rfl) (fun _ h => by cases h) baseFormed_row_tie rfl ⟨rfl, rfl⟩ (by kernel_rfl) rfl
    (fun f fn hf hfn => by
      obtain rfl : f = 3 := Option.some.inj ((show Tryz.prog.funcNamed Rows.baseFormedRow.func = some 3 by kernel_rfl).symm.trans hf) |>.symm
      obtain rfl : fn = Tryz.f3 := (Option.some.inj (Tryz.func3.symm.trans hfn)).symm
      exact ⟨by kernel_rfl, fun j t ht => by
        rw [Tryz.params3] at ht
        have hm : t ∈ [3] := by simpa using Array.mem_of_getElem? ht
        have hall : ([3].all fun u => !Tryz.prog.wantsStandIn u) = true := by kernel_rfl
        exact (show Tryz.prog.wantsStandIn t = false by simpa using List.all_eq_true.1 hall t hm)⟩)
    (by kernel_rfl)
#print axioms baseFormed_holds
end Go.Proofs.YtmehknlijcbphaaGreatDoor
