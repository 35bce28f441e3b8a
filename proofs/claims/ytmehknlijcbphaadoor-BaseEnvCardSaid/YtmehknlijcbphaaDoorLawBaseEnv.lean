/- The statement BaseEnv: for all arguments the call answers true and turns nothing; no condition. -/
import Derived.ChangeMaps5
import Derived.Test.YtmehknlijcbphaaDoorLay
import Derived.Test.YtmehknlijcbphaaDoorLEnv
namespace Go.Proofs.YtmehknlijcbphaaDoor
open Go.ChangeShapes Go.WideShapes Go.ChangeAt Go.RowKit

set_option maxRecDepth 100000 in
theorem baseEnv_lifted (os : Os) (started : os.Started) (H : Type) (enc : TypeId × Value → H) :
    ReturnsInHanded {} Tryd.checked os 7 .any (fun w args => (Rows.baseEnvSpec.pre enc Tryd.prog Tryd.f7 Rows.baseEnvRow.domain false w args ∧ laidMetH Tryd.prog laidList w) ∧ sizedMet enc Tryd.prog Tryd.f7 (OpenSpec.ofChange Rows.baseEnvSpec) false w args) (Rows.baseEnvSpec.post enc Tryd.prog Tryd.f7 false true false false) :=
  law_laid (s := Rows.baseEnvSpec) os started enc (by kernel_rfl) Tryd.func7 rfl Tryd.underlying4 (by kernel_rfl) rfl
    (fun ds h => by match ds, h with | [_], _ => rfl)
    #[.int .i64 0] 8 (by kernel_rfl) (by kernel_rfl) (by kernel_rfl)
    (fun W base args ds p hval hA _ hT => by
      rw [Tryd.params7] at hA hval
      obtain ⟨v0, d0, rfl, rfl, h0⟩ := trodAll_one hA
      obtain ⟨x0, rfl, rfl, rfl, k0⟩ := open_int Tryd.underlying3 (hval 0 3 v0 rfl rfl) h0
      exact baseEnv_law x0 W (i64_of_wf k0) hT)

theorem baseEnv_row : Rows.BaseEnvSaid :=
  OpenClaim.holds_of_wide 7 Tryd.f7 rfl rfl rfl rfl rfl rfl rfl ⟨rfl, rfl, rfl, rfl, rfl⟩ rfl rfl rfl rfl rfl (by kernel_rfl) Tryd.func7 (by kernel_rfl)
    (of_decide_eq_true (by kernel_rfl)) (by unfold Func.isWrapper; rw [if_neg (of_decide_eq_false (by kernel_rfl))]; exact ⟨rfl, rfl⟩)
    (fun os started H enc _ => baseEnv_lifted os started H enc)

theorem baseEnv_holds : Rows.BaseEnvCardSaid :=
  Claim7.holds_tied_plain_at .later [] [.data, .listed, .data, .pinned] true (true, Rows.baseEnvCard.stood.harness.2) false
    baseEnv_row (fun _ h => by cases h) (by kernel_rfl) (fun _ h => by cases h) baseEnv_row_tie rfl ⟨rfl, rfl⟩ (by kernel_rfl) rfl
    (fun f fn hf hfn => by
      obtain rfl : f = 7 := Option.some.inj ((show Tryd.prog.funcNamed Rows.baseEnvRow.func = some 7 by kernel_rfl).symm.trans hf) |>.symm
      obtain rfl : fn = Tryd.f7 := (Option.some.inj (Tryd.func7.symm.trans hfn)).symm
      exact ⟨by kernel_rfl, fun j t ht => by
        rw [Tryd.params7] at ht
        have hm : t ∈ [3] := by simpa using Array.mem_of_getElem? ht
        have hall : ([3].all fun u => !Tryd.prog.wantsStandIn u) = true := by kernel_rfl
        exact (show Tryd.prog.wantsStandIn t = false by simpa using List.all_eq_true.1 hall t hm)⟩)
    (by kernel_rfl)
#print axioms baseEnv_holds
end Go.Proofs.YtmehknlijcbphaaDoor
