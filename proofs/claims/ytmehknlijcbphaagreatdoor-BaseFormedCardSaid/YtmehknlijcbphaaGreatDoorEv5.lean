/- Each operation of the evaluator is the model's; no condition. -/
import Derived.Test.YtmehknlijcbphaaGreatDoorEv4
namespace Go.Proofs.YtmehknlijcbphaaGreatDoor.Ev
open Go Go.RowKit

structure Tab.Ok [Syms] (T : Tab) (P : Program) : Prop where
  info : ∀ t i, T.info t = some i → P.info? t = some i
  under : ∀ t d, T.under t = some d → P.underlying t = some d
  fn : ∀ f fn, T.fn f = some fn → P.funcs[f]? = some fn ∧ (fn.name == "runtime.NumGoroutine") = false
  orc : ∀ op x y b, T.orc op x y = some b → ∀ (c : Cx) (ux uy : Value) (xt : TypeId) (xo yo : Operand) (w : World), Real c x ux → Real c y uy → (do eqGuard op xt xo yo ux uy; binOp op xt ux uy : Sem Value).run P w = .ok (.bool b) w

/-- What a call leaves: what there was is as it was; the result, with what it leads to (c1), and the room behind it if it has any. -/
def ResOk [Syms] (W0 : World) (ok0 : Nat → Nat → Prop) (W' : World) (r : AV) (u : Value) : Prop :=
  Below W0.heap.size W0 W' ∧ ∃ c1 : Cx, c1.W = W' ∧ (∀ b o, c1.ok b o → (ok0 b o ∨ W0.heap.size ≤ b) ∧ b < W'.heap.size) ∧ Real c1 r u ∧
    ∀ n cs t e sz, r = .sl n cs (some (t, e, sz)) → ∃ g, c1.τ t = some (g, n * sz) ∧ W0.heap.size ≤ g ∧ g < W'.heap.size ∧ ∀ o, c1.ok g o → o < n * sz

/-- What a call is given: no boxes, no room to grow. -/
def argCx (W : World) (ok : Nat → Nat → Prop) : Cx := { W := W, ok := ok, ρ := fun _ => none, τ := fun _ => none, iss := fun _ => False }

def CallOk [Syms] (P : Program) (Inv : World → Prop) (call : FuncId → List AV → Option AV) : Prop :=
  ∀ f args r, call f args = some r → ∀ (W : World) (ok : Nat → Nat → Prop) (vs : List Value), (∀ b o, ok b o → b < W.heap.size) → RealL (argCx W ok) args vs → Inv W →
    (∃ fn, P.funcs[f]? = some fn ∧ fn.body.isNone = false ∧ (fn.name == "runtime.NumGoroutine") = false) ∧ Calls P f vs.toArray W fun e W' => ∃ u, e = .returned u ∧ ResOk W ok W' r u

section
variable {c c' : Cx}

mutual
theorem strip_real [Syms] {bx : Nat → Option (TypeId × List AV)} (hcell : ∀ b o v, c.ok b o → c.W.cell? ⟨b, o, none⟩ = some v → c'.ok b o ∧ c'.W.cell? ⟨b, o, none⟩ = some v)
    (hbox : ∀ k e cs, bx k = some (e, cs) → ∃ (b : Nat) (vs : List Value), c.ρ k = some b ∧ RealL c cs vs ∧ ∀ j v, vs[j]? = some v → c'.W.cell? ⟨b, j, none⟩ = some v ∧ c'.ok b j ∧ v.oneCell' = true) :
    ∀ (d : Nat) (a a' : AV) (u : Value), strip bx d a = some a' → Real c a u → Real c' a' u
  | 0, _, _, _, h, _ => by simp only [strip] at h; cases h
  | d + 1, .any, _, _, h, hr => by
    simp only [strip] at h; injection h with h; subst h; simp only [Real]
  | d + 1, .lit v, _, _, h, hr => by
    simp only [strip] at h; injection h with h; subst h; simp only [Real] at hr ⊢; exact hr
  | d + 1, .sym i, _, _, h, hr => by
    simp only [strip] at h; injection h with h; subst h; simp only [Real] at hr ⊢; exact hr
  | d + 1, .agg cs, a', u, h, hr => by
    simp only [strip] at h
    cases hm : cs.mapM (strip bx d) with
    | none => rw [hm] at h; cases h
    | some l =>
      rw [hm] at h; injection h with h; subst h
      simp only [Real] at hr ⊢
      obtain ⟨vs, e, h1, h2⟩ := hr
      exact ⟨vs, e, strip_realL hcell hbox d cs l vs hm h1, h2⟩
  | d + 1, .sl n cs tok, a', u, h, hr => by
    simp only [strip] at h
    cases hm : cs.mapM (strip bx d) with
    | none => rw [hm] at h; cases h
    | some l =>
      rw [hm] at h; injection h with h; subst h
      simp only [Real] at hr ⊢
      obtain ⟨b, off, cap, vs, e, h0, h1, h2, h3⟩ := hr
      exact ⟨b, off, cap, vs, e, h0, strip_realL hcell hbox d cs l vs hm h1, fun j v hj => ⟨(hcell _ _ v (h2 j v hj).2.1 (h2 j v hj).1).2, (hcell _ _ v (h2 j v hj).2.1 (h2 j v hj).1).1, (h2 j v hj).2.2⟩, trivial⟩
  | d + 1, .rd cs, a', u, h, hr => by
    simp only [strip] at h
    cases hm : cs.mapM (strip bx d) with
    | none => rw [hm] at h; cases h
    | some l =>
      rw [hm] at h; injection h with h; subst h
      simp only [Real] at hr ⊢
      obtain ⟨b, off, vs, e, h1, h2⟩ := hr
      exact ⟨b, off, vs, e, strip_realL hcell hbox d cs l vs hm h1, fun j v hj => ⟨(hcell _ _ v (h2 j v hj).2.1 (h2 j v hj).1).2, (hcell _ _ v (h2 j v hj).2.1 (h2 j v hj).1).1, (h2 j v hj).2.2⟩⟩
  | d + 1, .tup cs, a', u, h, hr => by
    simp only [strip] at h
    cases hm : cs.mapM (strip bx d) with
    | none => rw [hm] at h; cases h
    | some l =>
      rw [hm] at h; injection h with h; subst h
      simp only [Real] at hr ⊢
      obtain ⟨vs, e, h1⟩ := hr
      exact ⟨vs, e, strip_realL hcell hbox d cs l vs hm h1⟩
  | d + 1, .clo f cs, a', u, h, hr => by
    simp only [strip] at h
    cases hm : cs.mapM (strip bx d) with
    | none => rw [hm] at h; cases h
    | some l =>
      rw [hm] at h; injection h with h; subst h
      simp only [Real] at hr ⊢
      obtain ⟨vs, e, h1⟩ := hr
      exact ⟨vs, e, strip_realL hcell hbox d cs l vs hm h1⟩
  | d + 1, .box k off, a', u, h, hr => by
    simp only [strip] at h
    cases hb : bx k with
    | none => rw [hb] at h; cases h
    | some p =>
      obtain ⟨e, cs⟩ := p
      rw [hb] at h
      dsimp only at h
      cases hm : (cs.drop off).mapM (strip bx d) with
      | none => rw [hm] at h; cases h
      | some l =>
        rw [hm] at h; injection h with h; subst h
        simp only [Real] at hr ⊢
        obtain ⟨b, h1, rfl⟩ := hr
        obtain ⟨b', vs, h2, h3, h4⟩ := hbox k e cs hb
        rw [h1] at h2
        injection h2 with h2
        subst h2
        exact ⟨b, off, vs.drop off, rfl, strip_realL hcell hbox d (cs.drop off) l (vs.drop off) hm (h3.drop off), fun j v hj => by
          rw [List.getElem?_drop] at hj
          obtain ⟨x, y, z⟩ := h4 _ v hj
          exact ⟨x, y, z⟩⟩
theorem strip_realL [Syms] {bx : Nat → Option (TypeId × List AV)} (hcell : ∀ b o v, c.ok b o → c.W.cell? ⟨b, o, none⟩ = some v → c'.ok b o ∧ c'.W.cell? ⟨b, o, none⟩ = some v)
    (hbox : ∀ k e cs, bx k = some (e, cs) → ∃ (b : Nat) (vs : List Value), c.ρ k = some b ∧ RealL c cs vs ∧ ∀ j v, vs[j]? = some v → c'.W.cell? ⟨b, j, none⟩ = some v ∧ c'.ok b j ∧ v.oneCell' = true) :
    ∀ (d : Nat) (cs l : List AV) (vs : List Value), cs.mapM (strip bx d) = some l → RealL c cs vs → RealL c' l vs
  | d, [], l, vs, h, hr => by
    simp only [List.mapM_nil, Option.pure_def] at h
    injection h with h
    subst h
    rw [realL_nil_inv hr]
    exact realL_nil
  | d, a :: r, l, vs, h, hr => by
    obtain ⟨u, us, rfl, h1, h2⟩ := realL_cons_inv hr
    simp only [List.mapM_cons] at h
    cases ha : strip bx d a with
    | none => rw [ha] at h; cases h
    | some x =>
      cases hm : r.mapM (strip bx d) with
      | none => rw [ha, hm] at h; cases h
      | some y =>
        rw [ha, hm] at h
        injection h with h
        subst h
        exact realL_cons (strip_real hcell hbox d a x u ha h1) (strip_realL hcell hbox d r y us hm h2)
end

/-- Without memory it is the same in every memory. -/
theorem flat_real [Syms] : ∀ (d : Nat) (a : AV) (u : Value), flat d a = true → Real c a u → Real c' a u
  | 0, _, _, h, _ => by simp only [flat] at h; cases h
  | d + 1, .lit v, _, _, hr => by simp only [Real] at hr ⊢; exact hr
  | d + 1, .sym v, _, _, hr => by simp only [Real] at hr ⊢; exact hr
  | d + 1, .agg cs, u, h, hr => by
    simp only [Real] at hr ⊢
    obtain ⟨vs, e, h1, h2⟩ := hr
    exact ⟨vs, e, go d cs vs (by simpa only [flat] using h) h1, h2⟩
  | d + 1, .tup cs, u, h, hr => by
    simp only [Real] at hr ⊢
    obtain ⟨vs, e, h1⟩ := hr
    exact ⟨vs, e, go d cs vs (by simpa only [flat] using h) h1⟩
  | d + 1, .any, _, h, _ | d + 1, .sl _ _ _, _, h, _ | d + 1, .box _ _, _, h, _ | d + 1, .rd _, _, h, _ | d + 1, .clo _ _, _, h, _ => by simp only [flat] at h; cases h
where go (d : Nat) : ∀ (cs : List AV) (vs : List Value), cs.all (flat d) = true → RealL c cs vs → RealL c' cs vs
  | [], vs, _, hr => by rw [realL_nil_inv hr]; exact realL_nil
  | a :: r, vs, h, hr => by
    obtain ⟨u, us, rfl, h1, h2⟩ := realL_cons_inv hr
    simp only [List.all_cons, Bool.and_eq_true] at h
    exact realL_cons (flat_real d a u h.1 h1) (go d r us h.2 h2)
end
end Go.Proofs.YtmehknlijcbphaaGreatDoor.Ev
