/- awake, by the evaluator; no condition. -/
import Derived.Test.YtmehknlijcbphaaDoorEv17
namespace Go.Proofs.YtmehknlijcbphaaDoor
open Go Go.RowKit Ev

theorem awake_ev : evCall Tryd.prog (tabOf noOrc) ext0 10000 30 15 [] = some (.lit (.bool true)) := by kernel_rfl
instance noSyms : Syms := ⟨fun _ => .bool false, fun _ => rfl⟩
theorem awake_any (W : World) (hW : Tabd W) : Calls Tryd.prog 15 #[] W fun e W' => e = .returned (.bool true) ∧ Below W.heap.size W W' :=
  law_of tabNo_ok ext0_ok awake_ev hW (vs := []) (by simp only [RealL])
end Go.Proofs.YtmehknlijcbphaaDoor
