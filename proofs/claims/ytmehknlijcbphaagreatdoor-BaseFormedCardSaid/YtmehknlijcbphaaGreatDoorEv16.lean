/- What the evaluator tells of a call is what the call does; no condition. -/
import Derived.Test.YtmehknlijcbphaaGreatDoorEv15
namespace Go.Proofs.YtmehknlijcbphaaGreatDoor.Ev
open Go Go.RowKit

section
variable {P : Program} {T : Tab} {call : FuncId → List AV → Option AV} {Inv : World → Prop}

theorem getAt_rep : ∀ (m t : Nat), getAt (List.replicate m .any) t = .any
  | 0, _ => rfl
  | m + 1, 0 => rfl
  | m + 1, t + 1 => by simp only [List.replicate_succ, getAt]; exact getAt_rep m t
theorem args_real [Syms] {c : Cx} (m : Nat) : ∀ (as : List AV) (vs : List Value) (t : Nat), RealL c as vs → Real c (getAt (as ++ List.replicate m .any) t) ((vs ++ List.replicate m undef).getD t undef)
  | [], vs, t, h => by
    rw [List.nil_append, getAt_rep]
    simp only [Real]
  | a :: as, vs, t, h => by
    obtain ⟨u, us, rfl, h1, h2⟩ := realL_cons_inv h
    cases t with
    | zero => exact h1
    | succ t =>
      have := args_real m as us t h2
      simpa only [List.cons_append, getAt, List.getD_cons_succ] using this

theorem results_run {fn : Func} {a : Act} {w : World} {us : List Value} (h : (fn.results.toList.mapM (m := Sem) fun
      | .tmp t => pure (a.tmps.getD t undef)
      | .cell x t => do loadVar t (← asAddr (a.tmps.getD x undef))).run P w = .ok us w) : (results fn a.tmps).run P w = .ok (if us.length = 1 then us.headD undef else .tuple us.toArray) w := by
  unfold results
  rw [Array.mapM_eq_mapM_toList]
  rw [Sem.run_bind, Sem.run_map]
  erw [h]
  simp only [Result.andThen_ok, Sem.run_pure]
  congr 1
  by_cases hl : us.length = 1
  · rw [if_pos hl]
    match us, hl with
    | [u], _ => rfl
  · rw [if_neg hl]
    rw [dif_neg (by simpa using hl)]

theorem evBody_sound [Syms] (hT : T.Ok P) (hm : P.follows .mixedOrders = true) (hcall : CallOk P Inv call) (hI : ∀ W W' : World, Below W.heap.size W W' → Inv W → Inv W') (fuel : Nat) {f : FuncId} {args : List AV} {r : AV} (h : evBody P T call fuel f args = some r)
    (W : World) (ok : Nat → Nat → Prop) (vs : List Value) (hok : ∀ b o, ok b o → b < W.heap.size) (hargs : RealL (argCx W ok) args vs) (h0 : Inv W) :
    (∃ fn, P.funcs[f]? = some fn ∧ fn.body.isNone = false ∧ (fn.name == "runtime.NumGoroutine") = false) ∧ Calls P f vs.toArray W fun e W' => ∃ u, e = .returned u ∧ ResOk W ok W' r u := by
  unfold evBody at h
  split at h
  · rename_i fn hf
    obtain ⟨hf1, hf2⟩ := hT.fn f fn hf
    split at h
    · rename_i c hb
      refine ⟨⟨fn, hf1, by rw [hb]; rfl, hf2⟩, calls_of_wp hf1 hb ?_⟩
      have hR : Rel W ok { tmps := args ++ List.replicate (fn.ntmps - args.length) .any, boxes := [], live := [], nid := 0 } { tmps := vs.toArray ++ Array.replicate (fn.ntmps - vs.toArray.size) undef, defers := [] } (argCx W ok) := by
        have hl := hargs.length
        refine ⟨⟨fun b o hbo => ⟨.inl hbo, hok b o hbo⟩, Below.refl _ _, fun k b hk => (by cases hk), fun k k' b hk => (by cases hk), fun t g lim ht => (by cases ht), fun t t' g l l' ht => (by cases ht)⟩, fun k e cs hk => (by cases hk), fun t ht => (by cases ht), fun t => ?_, rfl, ?_, fun t ht => (by cases ht), fun k p hk => (by cases hk), fun k hk => (by cases hk)⟩
        · have := args_real (fn.ntmps - args.length) args vs t hargs
          have e1 : (vs.toArray ++ Array.replicate (fn.ntmps - vs.toArray.size) undef).getD t undef = (vs ++ List.replicate (fn.ntmps - args.length) undef).getD t undef := by
            rw [Array.getD_eq_getD_getElem?, List.getD_eq_getElem?_getD, ← Array.getElem?_toList]
            simp [hl]
          rw [e1]
          exact this
        · simp [hl]
      cases hev : evCode P T call fuel c { tmps := args ++ List.replicate (fn.ntmps - args.length) .any, boxes := [], live := [], nid := 0 } with
      | none => rw [hev] at h; cases h
      | some p =>
        obtain ⟨ex, st⟩ := p
        rw [hev] at h
        refine (evCode_sound hT hm hcall hI h0 fuel).1 c _ ex st _ (argCx W ok) _ hev hR (fun a' c' hR' => ?_)
        -- the results
        have hfin : (match fn.results.toList.mapM (evResult T st) with
            | some [.sl n cs (some (k, e, sz))] => if st.live.elem k then (cs.mapM (strip noBox 50)).map fun cs => .sl n cs (some (0, e, sz)) else (cs.mapM (strip noBox 50)).map fun cs => .sl n cs none
            | some [v] => strip noBox 50 v
            | some vs => (strip noBox 50 (.tup vs))
            | none => none) = some r → a'.defers = [] ∧ ∃ v, (results fn a'.tmps).run P c'.W = .ok v c'.W ∧ ∃ u, Ending.returned v = .returned u ∧ ResOk W ok c'.W r u := by
          intro h
          refine ⟨hR'.defers, ?_⟩
          cases hrs : fn.results.toList.mapM (evResult T st) with
          | none => rw [hrs] at h; cases h
          | some avs =>
            obtain ⟨us, hus1, hus2⟩ := evResults_real hT hR' _ avs hrs
            have hrun := results_run hus1
            refine ⟨_, hrun, _, rfl, ?_⟩
            rw [hrs] at h
            have hl := hus2.length
            match avs, hl, hus2, h with
            | [], hl, hus2, h =>
              rw [realL_nil_inv hus2]
              refine result_ok hR' (v := .tup []) (by simp only [Real]; exact ⟨[], rfl, realL_nil⟩) (.inr (.inr ⟨h, strip_notok 50 _ _ h⟩))
            | [v], hl, hus2, h =>
              obtain ⟨u, us', rfl, hu, hus'⟩ := realL_cons_inv hus2
              obtain rfl := realL_nil_inv hus'
              show ResOk W ok c'.W r u
              by_cases hsp : ∃ n cs k e sz, v = .sl n cs (some (k, e, sz))
              · obtain ⟨n, cs, k, e, sz, rfl⟩ := hsp
                dsimp only at h
                split at h
                · rename_i hk
                  cases hmm : cs.mapM (strip noBox 50) with
                  | none => rw [hmm] at h; cases h
                  | some cs' =>
                    rw [hmm] at h
                    injection h with h
                    exact result_ok hR' hu (.inl ⟨n, cs, k, e, sz, cs', rfl, hk, hmm, h.symm⟩)
                · cases hmm : cs.mapM (strip noBox 50) with
                  | none => rw [hmm] at h; cases h
                  | some cs' =>
                    rw [hmm] at h
                    injection h with h
                    exact result_ok hR' hu (.inr (.inl ⟨n, cs, _, cs', rfl, hmm, h.symm⟩))
              · have h' : strip noBox 50 v = some r := by
                  cases v with
                  | sl n cs tk =>
                    cases tk with
                    | none => exact h
                    | some q => exact absurd ⟨n, cs, q.1, q.2.1, q.2.2, rfl⟩ hsp
                  | _ => exact h
                exact result_ok hR' hu (.inr (.inr ⟨h', strip_notok 50 _ _ h'⟩))
            | v1 :: v2 :: rest, hl, hus2, h =>
              have h' : strip noBox 50 (.tup (v1 :: v2 :: rest)) = some r := by
                cases v1 with
                | sl n cs tk => cases tk <;> exact h
                | _ => exact h
              rw [if_neg (by rw [hl]; simp)]
              exact result_ok hR' (v := .tup (v1 :: v2 :: rest)) (by simp only [Real]; exact ⟨us, rfl, hus2⟩) (.inr (.inr ⟨h', strip_notok 50 _ _ h'⟩))
        cases ex with
        | exit id => cases h
        | normal => exact hfin h
        | ret => exact hfin h
    · cases h
  · cases h

/-- What is known of functions otherwise is so. -/
def ExtOk [Syms] (P : Program) (Inv : World → Prop) (ext : FuncId → Option (List AV → Option AV)) : Prop := ∀ f g, ext f = some g →
  ∀ args r, g args = some r → ∀ (W : World) (ok : Nat → Nat → Prop) (vs : List Value), (∀ b o, ok b o → b < W.heap.size) → RealL (argCx W ok) args vs → Inv W →
    (∃ fn, P.funcs[f]? = some fn ∧ fn.body.isNone = false ∧ (fn.name == "runtime.NumGoroutine") = false) ∧ Calls P f vs.toArray W fun e W' => ∃ u, e = .returned u ∧ ResOk W ok W' r u

theorem evCall_sound [Syms] (hT : T.Ok P) (hm : P.follows .mixedOrders = true) (hI : ∀ W W' : World, Below W.heap.size W W' → Inv W → Inv W') {ext : FuncId → Option (List AV → Option AV)} (hext : ExtOk P Inv ext) (fuel : Nat) : ∀ n, CallOk P Inv (evCall P T ext fuel n)
  | 0 => fun f args r h => by cases h
  | n + 1 => fun f args r h W ok vs hok hargs h0 => by
    have ih := evCall_sound hT hm hI hext fuel n
    simp only [evCall] at h
    split at h
    · rename_i g hg
      split at h
      · rename_i r' hr'
        injection h with h
        subst h
        exact hext f g hg args r' hr' W ok vs hok hargs h0
      · exact evBody_sound hT hm ih hI fuel h W ok vs hok hargs h0
    · exact evBody_sound hT hm ih hI fuel h W ok vs hok hargs h0
end
end Go.Proofs.YtmehknlijcbphaaGreatDoor.Ev
