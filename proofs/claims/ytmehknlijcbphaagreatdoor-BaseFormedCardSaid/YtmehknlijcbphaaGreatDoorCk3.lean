/- Check at the types of the environment; no condition. -/
import Derived.Test.YtmehknlijcbphaaGreatDoorCk1
import Derived.Test.YtmehknlijcbphaaGreatDoorCk2
namespace Go.Proofs.YtmehknlijcbphaaGreatDoor
open Go Go.RowKit Ev

theorem all_app {α : Type} {f : α → Bool} {a b : List α} (h : a.all f = true) (k : b.all f = true) : (a ++ b).all f = true := by rw [List.all_append, h, k]; rfl
def cks : List (AV × AV) := (cks0 ++ (cks9 ++ (cks13 ++ (cks16 ++ (cks18 ++ (cks20 ++ (cks21 ++ (cks22 ++ (cks23 ++ (cks24 ++ cks25))))))))))
theorem chk : (cks.all fun p => isRes p.2 (evCall Tryz.prog (tabOf noOrc) extG 10000 60 6 [p.1])) = true := (all_app chk0 (all_app chk9 (all_app chk13 (all_app chk16 (all_app chk18 (all_app chk20 (all_app chk21 (all_app chk22 (all_app chk23 (all_app chk24 chk25))))))))))
noncomputable def extH : FuncId → Option (List AV → Option AV) := addExt extG 6 (tab1 cks)
theorem extH_ok [Syms] : ExtOk Tryz.prog Tabd extH := addExt_ok extG_ok (tab1_ok tabNo_ok extG_ok chk)
end Go.Proofs.YtmehknlijcbphaaGreatDoor
