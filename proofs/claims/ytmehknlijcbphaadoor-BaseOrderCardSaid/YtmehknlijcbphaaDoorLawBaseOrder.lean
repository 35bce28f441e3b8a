/- The statement BaseOrder: for all arguments the call answers true and turns nothing; no condition. -/
import Derived.ChangeMaps5
import Derived.Test.YtmehknlijcbphaaDoorLay
import Derived.Test.YtmehknlijcbphaaDoorLOrder
namespace Go.Proofs.YtmehknlijcbphaaDoor
open Go.ChangeShapes Go.WideShapes Go.ChangeAt Go.RowKit

set_option maxRecDepth 100000 in
theorem baseOrder_lifted (os : Os) (started : os.Started) (H : Type) (enc : TypeId × Value → H) :
    ReturnsInHanded {} Tryd.checked os 5 .any (fun w args => (Rows.baseOrderSpec.pre enc Tryd.prog Tryd.f5 Rows.baseOrderRow.domain false w args ∧ laidMetH Tryd.prog laidList w) ∧ sizedMet enc Tryd.prog Tryd.f5 (OpenSpec.ofChange Rows.baseOrderSpec) false w args) (Rows.baseOrderSpec.post enc Tryd.prog Tryd.f5 false true false false) :=
  law_laid (s := Rows.baseOrderSpec) os started enc (by kernel_rfl) Tryd.func5 rfl Tryd.underlying4 (by kernel_rfl) rfl
    (fun ds h => by match ds, h with | [_, _], _ => rfl)
    #[.int .i64 0, .int .i64 0] 8 (by kernel_rfl) (by kernel_rfl) (by kernel_rfl)
    (fun W base args ds p hval hA _ hT => by
      rw [Tryd.params5] at hA hval
      obtain ⟨v0, v1, d0, d1, p0, p1, rfl, rfl, rfl, h0, h1⟩ := trodAll_two hA
      obtain ⟨x0, rfl, rfl, rfl, k0⟩ := open_int Tryd.underlying3 (hval 0 3 v0 rfl rfl) h0
      obtain ⟨x1, rfl, rfl, rfl, k1⟩ := open_int Tryd.underlying3 (hval 1 3 v1 rfl rfl) h1
      exact baseOrder_law x0 x1 W (i64_of_wf k0) (i64_of_wf k1) hT)

theorem baseOrder_row : Rows.BaseOrderSaid :=
  OpenClaim.holds_of_wide 5 Tryd.f5 rfl rfl rfl rfl rfl rfl rfl ⟨rfl, rfl, rfl, rfl, rfl⟩ rfl rfl rfl rfl rfl (by kernel_rfl) Tryd.func5 (by kernel_rfl)
    (of_decide_eq_true (by kernel_rfl)) (by unfold Func.isWrapper; rw [if_neg (of_decide_eq_false (by kernel_rfl))]; exact ⟨rfl, rfl⟩)
    (fun os started H enc _ => baseOrder_lifted os started H enc)

theorem baseOrder_holds : Rows.BaseOrderCardSaid :=
  Claim7.holds_tied_plain_at .later [] [.data, .listed, .data, .pinned] true (true, Rows.baseOrderCard.stood.harness.2) false
    baseOrder_row (fun _ h => by cases h) (by kernel_rfl) (fun _ h => by cases h) baseOrder_row_tie rfl ⟨rfl, rfl⟩ (by kernel_rfl) rfl
    (fun f fn hf hfn => by
      obtain rfl : f = 5 := Option.some.inj ((show Tryd.prog.funcNamed Rows.baseOrderRow.func = some 5 by kernel_rfl).symm.trans hf) |>.symm
      obtain rfl : fn = Tryd.f5 := (Option.some.inj (Tryd.func5.symm.trans hfn)).symm
      exact ⟨by kernel_rfl, fun j t ht => by
        rw [Tryd.params5] at ht
        have hm : t ∈ [3, 3] := by simpa using Array.mem_of_getElem? ht
        have hall : ([3, 3].all fun u => !Tryd.prog.wantsStandIn u) = true := by kernel_rfl
        exact (show Tryd.prog.wantsStandIn t = false by simpa using List.all_eq_true.1 hall t hm)⟩)
    (by kernel_rfl)
#print axioms baseOrder_holds
end Go.Proofs.YtmehknlijcbphaaDoor
