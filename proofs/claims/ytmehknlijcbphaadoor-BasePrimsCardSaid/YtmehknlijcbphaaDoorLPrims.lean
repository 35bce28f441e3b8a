/- The law BasePrims, by the evaluator, in two pieces: for each name what stands before the number is asked for, then for each number; no condition. -/
import Derived.Test.YtmehknlijcbphaaDoorPr1
import Derived.Test.YtmehknlijcbphaaDoorCut
namespace Go.Proofs.YtmehknlijcbphaaDoor
open Go Go.RowKit Ev

noncomputable def body6 : Code := Tryd.f6.body.getD .skip
theorem body6_eq : Tryd.f6.body = some body6 := by kernel_rfl
noncomputable def st6 (a : AV) : St := { tmps := [a, .sym 1] ++ List.replicate (Tryd.f6.ntmps - [a, AV.sym 1].length) .any, boxes := [], live := [], nid := 0 }
def keep6 (t : Nat) : Bool := [1, 4, 5, 6, 7].elem t
noncomputable def pre6 (o : BinOp → AV → AV → Option Bool) (u : Bool) (a : AV) : Option St := evPre Tryd.prog (tabOf o) (evCall Tryd.prog (tabOf o) (extP u) 10000 29) 10000 6 body6 (st6 a)
/-- What is known where the number is asked for. -/
noncomputable def sW : St := { tmps := [.any, .sym 1, .any, .any, .lit (.bool false), .sl 22 (cellsSl r19) (some (1, 55, 8)), .sl 22 (cellsSl r19) (some (2, 55, 8)), .box 16 0] ++ List.replicate 131 .any, boxes := [(26, 55, List.replicate 8 .any), (16, 55, List.replicate 8 .any)], live := [2, 1], nid := 60 }
theorem pre_known : ((List.range 22).map fun k => (pre6 noOrc false (rowName k)).map (St.mask keep6)) = (List.range 22).map fun _ => some sW := by kernel_rfl
theorem pre_other : (pre6 (orcN rowNames) true (.sym 0)).map (St.mask keep6) = some sW := by kernel_rfl

/-- It ends, and the answer is true. -/
def endTrue (r : Option (Ex × St)) : Bool := match r with
  | some (.exit _, _) => false
  | some (_, st) => match getAt st.tmps 4 with
    | .lit (.bool true) => true
    | _ => false
  | none => false
theorem endTrue_eq {r : Option (Ex × St)} (h : endTrue r = true) : ∃ ex st, r = some (ex, st) ∧ (∀ id, ex ≠ .exit id) ∧ getAt st.tmps 4 = .lit (.bool true) := by
  unfold endTrue at h
  split at h
  · cases h
  · rename_i ex st hne
    refine ⟨ex, st, rfl, fun id e => hne id (by rw [e]), ?_⟩
    split at h
    · assumption
    · cases h
  · cases h
noncomputable def post6 (o : BinOp → AV → AV → Option Bool) (st : St) : Option (Ex × St) := evCode Tryd.prog (tabOf o) (evCall Tryd.prog (tabOf o) (extP false) 10000 29) 10000 (dropSeq 6 body6) st
noncomputable def sAt (k : Nat) : St := { sW with tmps := setAt sW.tmps 1 (.lit (.int .i64 k)) }
theorem post_a : ((List.range 11).all fun k => endTrue (post6 noOrc (sAt k))) = true := by kernel_rfl
theorem post_b : ((List.range 11).all fun k => endTrue (post6 noOrc (sAt (11 + k)))) = true := by kernel_rfl
theorem post_neg : endTrue (post6 (orcS [] true 0) sW) = true := by kernel_rfl
theorem post_big : endTrue (post6 (orcS [] false 22) sW) = true := by kernel_rfl

theorem call_ok [Syms] {o : BinOp → AV → AV → Option Bool} (ho : (tabOf o).Ok Tryd.prog) {ext : FuncId → Option (List AV → Option AV)} (h : ExtOk Tryd.prog Tabd ext) (n : Nat) : CallOk Tryd.prog Tabd (evCall Tryd.prog (tabOf o) ext 10000 n) :=
  fun f args r hr => evCall_sound (Inv := Tabd) ho mixed_ok tabd_below h 10000 n f args r hr

set_option maxRecDepth 100000 in
/-- The two pieces together. -/
theorem prims_of [Syms] {o o' : BinOp → AV → AV → Option Bool} (ho : (tabOf o).Ok Tryd.prog) (ho' : (tabOf o').Ok Tryd.prog) {u : Bool} (hx : ExtOk Tryd.prog Tabd (extP u)) {a : AV} {v : Value} {n : Int} (hn : Syms.val 1 = .int .i64 n)
    (w : World) (hW : Tabd w) (ha : Real (argCx w (fun _ _ => False)) a v) (hpre : (pre6 o u a).map (St.mask keep6) = some sW) {st : St}
    (hst : ∀ a c, Rel w (fun _ _ => False) sW a c → Rel w (fun _ _ => False) st a c) (hpost : endTrue (post6 o' st) = true) :
    Calls Tryd.prog 6 #[v, .int .i64 n] w fun e w' => e = .returned (.bool true) ∧ Below w.heap.size w w' := by
  cases hp : pre6 o u a with
  | none => rw [hp] at hpre; cases hpre
  | some stA =>
    rw [hp] at hpre
    injection hpre with hpre
    obtain ⟨ex, stE, he, hex, ht⟩ := endTrue_eq hpost
    refine cut_calls (T := tabOf o) (T' := tabOf o') (Inv := Tabd) ho ho' mixed_ok (call_ok ho hx 29) (call_ok ho' extP_known 29) tabd_below 10000 6 Tryd.func6 body6_eq [a, .sym 1] w [v, .int .i64 n] ?_ hW hp (fun a' c' hR => hst a' c' (hpre ▸ hR.mask keep6)) he hex ?_
    · simp only [RealL]
      exact ⟨_, _, rfl, ha, _, _, rfl, by simp only [Real]; exact hn.symm, rfl⟩
    · rw [Tryd.results6]
      simp [evResult, ht]
end Go.Proofs.YtmehknlijcbphaaDoor
