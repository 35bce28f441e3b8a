/- A body in two pieces: what is not needed behind the cut is forgotten; no condition. -/
import Derived.Test.YtmehknlijcbphaaDoorEv17
namespace Go.Proofs.YtmehknlijcbphaaDoor.Ev
open Go Go.RowKit

/-- A code without its first k statements. -/
def dropSeq : Nat → Code → Code
  | 0, c => c
  | k + 1, .seq _ b => dropSeq k b
  | _, c => c
/-- The first k statements. -/
def evPre (P : Program) (T : Tab) (call : FuncId → List AV → Option AV) (n : Nat) : Nat → Code → St → Option St
  | 0, _, st => some st
  | k + 1, .seq a b, st => match evCode P T call n a st with
    | some (.normal, st') => evPre P T call n k b st'
    | _ => none
  | _, _, _ => none
def maskL (keep : Nat → Bool) : Nat → List AV → List AV
  | _, [] => []
  | i, x :: r => (if keep i then x else .any) :: maskL keep (i + 1) r
def maskB (l : List (Nat × TypeId × List AV)) : List (Nat × TypeId × List AV) := l.map fun p => (p.1, p.2.1, p.2.2.map fun _ => .any)
/-- What is kept: some slots, and of the boxes their sizes. -/
def St.mask (keep : Nat → Bool) (st : St) : St := { tmps := maskL keep 0 st.tmps, boxes := maskB st.boxes, live := st.live, nid := st.nid }

theorem getAt_maskL (keep : Nat → Bool) : ∀ (l : List AV) (i t : Nat), getAt (maskL keep i l) t = if keep (i + t) then getAt l t else .any
  | [], i, t => by simp [maskL, getAt]
  | x :: r, i, 0 => by simp [maskL, getAt]
  | x :: r, i, t + 1 => by
    simp only [maskL, getAt]
    rw [getAt_maskL keep r (i + 1) t, show i + 1 + t = i + (t + 1) by omega]
theorem maskL_length (keep : Nat → Bool) : ∀ (l : List AV) (i : Nat), (maskL keep i l).length = l.length
  | [], _ => rfl
  | _ :: r, i => by simp [maskL, maskL_length keep r]
theorem lookup_maskB : ∀ (l : List (Nat × TypeId × List AV)) (k : Nat), lookup (maskB l) k = (lookup l k).map fun p => (p.1, p.2.map fun _ => .any)
  | [], _ => rfl
  | (i, x) :: r, k => by
    have := lookup_maskB r k
    unfold maskB at this ⊢
    simp only [List.map_cons, lookup]
    split
    · rfl
    · exact this
theorem realL_any [Syms] {c : Cx} : ∀ (l : List AV) (vs : List Value), RealL c l vs → RealL c (l.map fun _ => .any) vs
  | [], _, h => h
  | _ :: r, vs, h => by
    obtain ⟨u, us, rfl, _, h2⟩ := realL_cons_inv h
    simp only [List.map_cons, RealL]
    exact ⟨u, us, rfl, by simp only [Real], realL_any r us h2⟩
theorem Rel.mask [Syms] {W0 : World} {ok0 : Nat → Nat → Prop} {st : St} {a : Act} {c : Cx} (h : Rel W0 ok0 st a c) (keep : Nat → Bool) : Rel W0 ok0 (st.mask keep) a c := by
  refine ⟨h.base, ?_, h.live, ?_, h.defers, ?_, h.iss, ?_, h.livelt⟩
  · intro k e cs hk
    simp only [St.mask, lookup_maskB] at hk
    cases hl : lookup st.boxes k with
    | none => rw [hl] at hk; cases hk
    | some p =>
      rw [hl] at hk
      injection hk with hk
      obtain ⟨b, vs, h1, h2, h3, h4⟩ := h.box k p.1 p.2 hl
      injection hk with he hcs
      subst he hcs
      exact ⟨b, vs, h1, h2, realL_any _ _ h3, h4⟩
  · intro t
    simp only [St.mask, getAt_maskL]
    split
    · exact h.tm t
    · simp only [Real]
  · simp only [St.mask, maskL_length]
    exact h.len
  · intro k p hk
    simp only [St.mask, lookup_maskB] at hk
    cases hl : lookup st.boxes k with
    | none => rw [hl] at hk; cases hk
    | some q => exact h.keys k q hl
/-- An unknown value is found. -/
theorem Rel.found [Syms] {W0 : World} {ok0 : Nat → Nat → Prop} {st : St} {a : Act} {c : Cx} (h : Rel W0 ok0 st a c) {t i : Nat} {v : Value} (ht : getAt st.tmps t = .sym i) (hv : Syms.val i = v) (hlt : t < st.tmps.length) : Rel W0 ok0 { st with tmps := setAt st.tmps t (.lit v) } a c := by
  refine ⟨h.base, h.box, h.live, ?_, h.defers, ?_, h.iss, h.keys, h.livelt⟩
  · intro t'
    show Real c (getAt (setAt st.tmps t (.lit v)) t') _
    rw [getAt_setAt _ _ _ _ hlt]
    have h1 := h.tm t'
    split
    · rename_i e
      subst e
      rw [ht] at h1
      simp only [Real] at h1 ⊢
      rw [h1, hv]
    · exact h1
  · show (setAt st.tmps t (.lit v)).length = _
    rw [setAt_length]
    exact h.len

section
variable {P : Program} {T : Tab} {call : FuncId → List AV → Option AV} {Inv : World → Prop} {W0 : World} {ok0 : Nat → Nat → Prop}
theorem evPre_sound [Syms] (hT : T.Ok P) (hm : P.follows .mixedOrders = true) (hcall : CallOk P Inv call) (hI : ∀ W W' : World, Below W.heap.size W W' → Inv W → Inv W') (h0 : Inv W0) (n : Nat) :
    ∀ (k : Nat) (code : Code) (st st' : St) (a : Act) (c : Cx) (Q : Exit → Act → World → Prop), evPre P T call n k code st = some st' → Rel W0 ok0 st a c → (∀ a' c', Rel W0 ok0 st' a' c' → (dropSeq k code).wp P Q a' c'.W) → code.wp P Q a c.W
  | 0, code, st, st', a, c, Q, h, hR, hQ => by
    injection h with h
    subst h
    exact hQ a c hR
  | k + 1, code, st, st', a, c, Q, h, hR, hQ => by
    cases code with
    | seq x y =>
      simp only [evPre] at h
      split at h
      · rename_i st1 h1
        refine wp_seq ?_
        exact (evCode_sound hT hm hcall hI h0 n).1 x st .normal st1 a c _ h1 hR (fun a' c' hR' => evPre_sound hT hm hcall hI h0 n k y st1 st' a' c' Q h hR' hQ)
      · cases h
    | _ => cases h
theorem cut_calls [Syms] {T' : Tab} {call' : FuncId → List AV → Option AV} (hT : T.Ok P) (hT' : T'.Ok P) (hm : P.follows .mixedOrders = true) (hcall : CallOk P Inv call) (hcall' : CallOk P Inv call') (hI : ∀ W W' : World, Below W.heap.size W W' → Inv W → Inv W')
    (fuel k : Nat) {f : FuncId} {fn : Func} {code : Code} (hf : P.funcs[f]? = some fn) (hb : fn.body = some code) (args : List AV)
    (W : World) (vs : List Value) (hargs : RealL (argCx W (fun _ _ => False)) args vs) (h0 : Inv W)
    {stA stB stE : St} {ex : Ex} {b : Bool} (hA : evPre P T call fuel k code { tmps := args ++ List.replicate (fn.ntmps - args.length) .any, boxes := [], live := [], nid := 0 } = some stA)
    (hW : ∀ a c, Rel W (fun _ _ => False) stA a c → Rel W (fun _ _ => False) stB a c)
    (hB : evCode P T' call' fuel (dropSeq k code) stB = some (ex, stE)) (hex : ∀ id, ex ≠ .exit id) (hr : fn.results.toList.mapM (evResult T' stE) = some [.lit (.bool b)]) :
    Calls P f vs.toArray W fun e W' => e = .returned (.bool b) ∧ Below W.heap.size W W' := by
  refine calls_of_wp hf hb ?_
  have hR : Rel W (fun _ _ => False) { tmps := args ++ List.replicate (fn.ntmps - args.length) .any, boxes := [], live := [], nid := 0 } { tmps := vs.toArray ++ Array.replicate (fn.ntmps - vs.toArray.size) undef, defers := [] } (argCx W (fun _ _ => False)) := by
    have hl := hargs.length
    refine ⟨⟨fun b o hbo => hbo.elim, Below.refl _ _, fun k b hk => (by cases hk), fun k k' b hk => (by cases hk), fun t g lim ht => (by cases ht), fun t t' g l l' ht => (by cases ht)⟩, fun k e cs hk => (by cases hk), fun t ht => (by simp at ht), fun t => ?_, rfl, ?_, fun t ht => (by cases ht), fun k p hk => (by cases hk), fun t ht => (by simp at ht)⟩
    · have := args_real (fn.ntmps - args.length) args vs t hargs
      have e1 : (vs.toArray ++ Array.replicate (fn.ntmps - vs.toArray.size) undef).getD t undef = (vs ++ List.replicate (fn.ntmps - args.length) undef).getD t undef := by
        rw [Array.getD_eq_getD_getElem?, List.getD_eq_getElem?_getD, ← Array.getElem?_toList]
        simp [hl]
      rw [e1]
      exact this
    · simp [hl]
  refine evPre_sound hT hm hcall hI h0 fuel k code _ stA _ (argCx W (fun _ _ => False)) _ hA hR (fun a1 c1 hR1 => ?_)
  refine (evCode_sound hT' hm hcall' hI h0 fuel).1 _ stB ex stE a1 c1 _ hB (hW a1 c1 hR1) (fun a' c' hR' => ?_)
  have hfin : a'.defers = [] ∧ ∃ v, (results fn a'.tmps).run P c'.W = .ok v c'.W ∧ (Ending.returned v = .returned (.bool b) ∧ Below W.heap.size W c'.W) := by
    refine ⟨hR'.defers, ?_⟩
    obtain ⟨us, hus1, hus2⟩ := evResults_real hT' hR' _ _ hr
    have hrun := results_run hus1
    refine ⟨_, hrun, ?_, hR'.base.below⟩
    obtain ⟨u, us', rfl, hu, hus'⟩ := realL_cons_inv hus2
    obtain rfl := realL_nil_inv hus'
    simp only [Real] at hu
    subst hu
    rfl
  cases ex with
  | exit id => exact absurd rfl (hex id)
  | normal => exact hfin
  | ret => exact hfin
end
end Go.Proofs.YtmehknlijcbphaaDoor.Ev
