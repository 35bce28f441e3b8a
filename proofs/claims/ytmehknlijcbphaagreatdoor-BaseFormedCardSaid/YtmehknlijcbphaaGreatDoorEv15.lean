/- The evaluator's calls are the model's; no condition. -/
import Derived.Test.YtmehknlijcbphaaGreatDoorEv14
namespace Go.Proofs.YtmehknlijcbphaaGreatDoor.Ev
open Go Go.RowKit

def exOf : Ex → Exit
  | .normal => .normal
  | .exit id => .exit id
  | .ret => .ret

/-- What is left of a loop when a round has ended. -/
def LoopWp (P : Program) (c : Code) (Q : Exit → Act → World → Prop) (a : Act) (w : World) : Prop :=
  ∀ (b : Frame) (k : List Item) (cs : List Frame), ∃ e a' w', Q e a' w' ∧ Arrives P (lone (b.at a (.inLoop c :: k)) cs w) b k cs e a' w'

theorem loopWp_once {P : Program} {c : Code} {Q : Exit → Act → World → Prop} {a : Act} {w : World} (h : c.wp P (Exit.then (LoopWp P c Q) Q) a w) : LoopWp P c Q a w ∧ (Code.loop c).wp P Q a w := by
  have key : ∀ (b : Frame) (k : List Item) (cs : List Frame), ∃ e a' w', Q e a' w' ∧ Arrives P (lone (b.at a (.code c :: .inLoop c :: k)) cs w) b k cs e a' w' := by
    intro b k cs
    obtain ⟨e, a1, w1, hq, harr⟩ := h b (.inLoop c :: k) cs
    cases e with
    | normal =>
      obtain ⟨e2, a2, w2, hq2, harr2⟩ := hq b k cs
      exact ⟨e2, a2, w2, hq2, .of_steps harr harr2⟩
    | exit id => exact ⟨_, a1, w1, hq, .pass (x := .inLoop c) rfl (fun _ _ => .inl (by simp)) harr⟩
    | goto l => exact ⟨_, a1, w1, hq, .pass (x := .inLoop c) rfl (fun _ _ => .inl (by simp)) harr⟩
    | ret => exact ⟨_, a1, w1, hq, .pass (x := .inLoop c) rfl (fun _ _ => .inl (by simp)) harr⟩
    | panic ch => exact ⟨_, a1, w1, hq, .pass (x := .inLoop c) rfl (fun _ _ => .inl (by simp)) harr⟩
    | outgrown => exact ⟨_, a1, w1, hq, .pass (x := .inLoop c) rfl (fun _ _ => .inl (by simp)) harr⟩
  constructor
  · intro b k cs
    obtain ⟨e, a', w', hq, harr⟩ := key b k cs
    exact ⟨e, a', w', hq, .of_steps (.one step_inLoop) harr⟩
  · intro b k cs
    obtain ⟨e, a', w', hq, harr⟩ := key b k cs
    exact ⟨e, a', w', hq, .of_steps (.one step_loop) harr⟩

section
variable {P : Program} {T : Tab} {call : FuncId → List AV → Option AV} {Inv : World → Prop} {W0 : World} {ok0 : Nat → Nat → Prop}

theorem evCode_sound [Syms] (hT : T.Ok P) (hm : P.follows .mixedOrders = true) (hcall : CallOk P Inv call) (hI : ∀ W W' : World, Below W.heap.size W W' → Inv W → Inv W') (h0 : Inv W0) : ∀ (n : Nat),
    (∀ (code : Code) (st : St) (r : Ex) (st' : St) (a : Act) (c : Cx) (Q : Exit → Act → World → Prop), evCode P T call n code st = some (r, st') → Rel W0 ok0 st a c → (∀ a' c', Rel W0 ok0 st' a' c' → Q (exOf r) a' c'.W) → code.wp P Q a c.W) ∧
    (∀ (code : Code) (st : St) (r : Ex) (st' : St) (a : Act) (c : Cx) (Q : Exit → Act → World → Prop), evCode P T call n (.loop code) st = some (r, st') → Rel W0 ok0 st a c → (∀ a' c', Rel W0 ok0 st' a' c' → Q (exOf r) a' c'.W) → LoopWp P code Q a c.W)
  | 0 => by
    constructor
    · intro code st r st' a c Q h
      cases h
    · intro code st r st' a c Q h
      cases h
  | n + 1 => by
    obtain ⟨ihA, ihB⟩ := evCode_sound hT hm hcall hI h0 n
    have hloop : ∀ (code : Code) (st : St) (r : Ex) (st' : St) (a : Act) (c : Cx) (Q : Exit → Act → World → Prop), evCode P T call (n + 1) (.loop code) st = some (r, st') → Rel W0 ok0 st a c → (∀ a' c', Rel W0 ok0 st' a' c' → Q (exOf r) a' c'.W) → LoopWp P code Q a c.W ∧ (Code.loop code).wp P Q a c.W := by
      intro code st r st' a c Q h hR hQ
      refine loopWp_once ?_
      simp only [evCode] at h
      split at h
      · rename_i st1 h1
        exact ihA code st .normal st1 a c _ h1 hR (fun a' c' hR' => ihB code st1 r st' a' c' Q h hR' hQ)
      · rename_i r1 hne
        cases hq : evCode P T call n code st with
        | none => rw [hq] at h; cases h
        | some p =>
          obtain ⟨r2, st2⟩ := p
          rw [hq] at h
          injection h with h
          injection h with h1 h2
          subst h1
          subst h2
          refine ihA code st r2 st2 a c _ hq hR (fun a' c' hR' => ?_)
          cases r2 with
          | normal => exact absurd hq (hne st2)
          | exit id => exact hQ a' c' hR'
          | ret => exact hQ a' c' hR'
    refine ⟨fun code st r st' a c Q h hR hQ => ?_, fun code st r st' a c Q h hR hQ => (hloop code st r st' a c Q h hR hQ).1⟩
    cases code with
    | skip =>
      simp only [evCode] at h
      injection h with h
      injection h with h1 h2
      subst h1
      subst h2
      exact wp_skip (hQ a c hR)
    | region id ops draw =>
      simp only [evCode] at h
      cases hr : evRegion P T call ops draw st with
      | none => rw [hr] at h; cases h
      | some st1 =>
        rw [hr] at h
        injection h with h
        injection h with h1 h2
        subst h1
        subst h2
        exact evRegion_sound hT hm hcall hI h0 hr hR hQ
    | seq x y =>
      refine wp_seq ?_
      simp only [evCode] at h
      split at h
      · rename_i st1 h1
        exact ihA x st .normal st1 a c _ h1 hR (fun a' c' hR' => ihA y st1 r st' a' c' Q h hR' hQ)
      · rename_i r1 hne
        cases hq : evCode P T call n x st with
        | none => rw [hq] at h; cases h
        | some p =>
          obtain ⟨r2, st2⟩ := p
          rw [hq] at h
          injection h with h
          injection h with h1 h2
          subst h1
          subst h2
          refine ihA x st r2 st2 a c _ hq hR (fun a' c' hR' => ?_)
          cases r2 with
          | normal => exact absurd hq (hne st2)
          | exit id => exact hQ a' c' hR'
          | ret => exact hQ a' c' hR'
    | cond x y z =>
      simp only [evCode] at h
      have hx := evX_real (a := a) hR.tm x
      split at h
      · rename_i hb
        rw [hb] at hx
        simp only [Real] at hx
        exact wp_cond_true hx (ihA y st r st' a c Q h hR hQ)
      · rename_i hb
        rw [hb] at hx
        simp only [Real] at hx
        exact wp_cond_false hx (ihA z st r st' a c Q h hR hQ)
      · cases h
    | block id x =>
      refine wp_block ?_
      simp only [evCode] at h
      split at h
      · rename_i id' st1 h1
        refine ihA x st (.exit id') st1 a c _ h1 hR (fun a' c' hR' => ?_)
        show Exit.inBlock id Q (.exit id') a' c'.W
        unfold Exit.inBlock
        split at h
        · rename_i hid
          injection h with h
          injection h with h2 h3
          subst h2
          subst h3
          dsimp only
          rw [if_pos hid]
          exact hQ a' c' hR'
        · rename_i hid
          injection h with h
          injection h with h2 h3
          subst h2
          subst h3
          dsimp only
          rw [if_neg hid]
          exact hQ a' c' hR'
      · rename_i r1 hne
        cases hq : evCode P T call n x st with
        | none => rw [hq] at h; cases h
        | some p =>
          obtain ⟨r2, st2⟩ := p
          rw [hq] at h
          injection h with h
          injection h with h1 h2
          subst h1
          subst h2
          refine ihA x st r2 st2 a c _ hq hR (fun a' c' hR' => ?_)
          cases r2 with
          | normal => exact hQ a' c' hR'
          | exit id' => exact absurd hq (hne id' st2)
          | ret => exact hQ a' c' hR'
    | loop x => exact (hloop x st r st' a c Q h hR hQ).2
    | exit id =>
      simp only [evCode] at h
      injection h with h
      injection h with h1 h2
      subst h1
      subst h2
      exact wp_exit (hQ a c hR)
    | ret =>
      simp only [evCode] at h
      injection h with h
      injection h with h1 h2
      subst h1
      subst h2
      exact wp_ret (hQ a c hR)
    | rangeFunc _ _ _ _ => simp only [evCode] at h; cases h
    | scope _ => simp only [evCode] at h; cases h
    | label _ => simp only [evCode] at h; cases h
    | goto _ => simp only [evCode] at h; cases h
    | refuse _ => simp only [evCode] at h; cases h

theorem evResult_real [Syms] (hT : T.Ok P) {st : St} {a : Act} {c : Cx} (hR : Rel W0 ok0 st a c) {rv : ResultVar} {v : AV} (h : evResult T st rv = some v) :
    ∃ u, ((match rv with
      | .tmp t => (pure (a.tmps.getD t undef) : Sem Value)
      | .cell x t => do loadVar t (← asAddr (a.tmps.getD x undef))).run P c.W = .ok u c.W) ∧ Real c v u := by
  cases rv with
  | tmp t =>
    simp only [evResult] at h
    injection h with h
    subst h
    exact ⟨_, rfl, hR.tm t⟩
  | cell x t =>
    simp only [evResult] at h
    split at h
    · rename_i k off hk
      split at h
      · rename_i e cs hb
        have hx := hR.tm x
        rw [hk] at hx
        simp only [Real] at hx
        obtain ⟨b, h1, h2⟩ := hx
        obtain ⟨b', vs, h3, h4, h5, h6⟩ := hR.box k e cs hb
        rw [h1] at h3
        injection h3 with h3
        subst h3
        obtain ⟨u, hu1, hu2⟩ := readAV_real (c := c) hT h (b := b) (off := off) (h5.drop off) (fun j u hj => by
          rw [List.getElem?_drop] at hj
          rw [row_cell h4]
          exact hj) (fun u hu => h6 u (List.mem_of_mem_drop hu))
        refine ⟨u, ?_, hu2⟩
        simp only [Sem.run_bind, h2, asAddr]
        simpa using hu1
      · cases h
    · cases h

theorem evResults_real [Syms] (hT : T.Ok P) {st : St} {a : Act} {c : Cx} (hR : Rel W0 ok0 st a c) : ∀ (rs : List ResultVar) (vs : List AV), rs.mapM (evResult T st) = some vs →
    ∃ us : List Value, (rs.mapM (m := Sem) fun
      | .tmp t => pure (a.tmps.getD t undef)
      | .cell x t => do loadVar t (← asAddr (a.tmps.getD x undef))).run P c.W = .ok us c.W ∧ RealL c vs us
  | [], vs, h => by
    simp only [List.mapM_nil, Option.pure_def] at h
    injection h with h
    subst h
    exact ⟨[], rfl, realL_nil⟩
  | r :: rs, vs, h => by
    simp only [List.mapM_cons] at h
    cases h1 : evResult T st r with
    | none => rw [h1] at h; cases h
    | some v =>
      cases h2 : rs.mapM (evResult T st) with
      | none => rw [h1, h2] at h; cases h
      | some l =>
        rw [h1, h2] at h
        injection h with h
        subst h
        obtain ⟨u, hu1, hu2⟩ := evResult_real hT hR h1
        obtain ⟨us, hus1, hus2⟩ := evResults_real hT hR rs l h2
        refine ⟨u :: us, ?_, realL_cons hu2 hus2⟩
        simp only [List.mapM_cons, Sem.run_bind, hu1, Result.andThen_ok, hus1, Sem.run_pure]

/-- The result, without what is the function's own. -/
theorem result_ok [Syms] {st : St} {a : Act} {c : Cx} (hR : Rel W0 ok0 st a c) {v r : AV} {u : Value} (hv : Real c v u)
    (h : (∃ n cs k e sz cs', v = .sl n cs (some (k, e, sz)) ∧ st.live.elem k = true ∧ cs.mapM (strip noBox 50) = some cs' ∧ r = .sl n cs' (some (0, e, sz))) ∨ (∃ n cs t cs', v = .sl n cs t ∧ cs.mapM (strip noBox 50) = some cs' ∧ r = .sl n cs' none) ∨ (strip noBox 50 v = some r ∧ ∀ n cs t, r ≠ .sl n cs (some t))) : ResOk W0 ok0 c.W r u := by
  refine ⟨hR.base.below, ?_⟩
  rcases h with ⟨n, cs, k, e, sz, cs', rfl, hk, hm, rfl⟩ | ⟨n, cs, t, cs', rfl, hm, rfl⟩ | ⟨hs, hns⟩
  · obtain ⟨⟨g, lim⟩, ht⟩ := Option.isSome_iff_exists.1 (hR.live k hk)
    simp only [Real] at hv
    obtain ⟨b, off, cap, vs, e1, e2, e3, e4, e5, e6⟩ := hv
    obtain ⟨rfl, h2, h3⟩ := e6 g lim ht
    obtain ⟨t1, t2, t3, _, _⟩ := hR.base.tok k g _ ht
    refine ⟨{ c with τ := fun _ => some (g, n * sz), iss := fun _ => True }, rfl, hR.base.okb, ?_, fun n2 cs2 t2' e2' sz2 hr => ?_⟩
    · simp only [Real]
      refine ⟨b, off, cap, vs, e1, e2, strip_realL (c := c) (c' := { c with τ := fun _ => some (g, n * sz), iss := fun _ => True }) (fun _ _ _ h1 h2 => ⟨h1, h2⟩) (fun k e cs hk => by cases hk) 50 cs cs' vs hm e3, fun j v hj => e4 j v hj, trivial, fun g2 l2 hg => ?_⟩
      have : g = g2 ∧ n * sz = l2 := by simpa using hg
      obtain ⟨rfl, rfl⟩ := this
      exact ⟨rfl, h2, h3⟩
    · injection hr with h4 h5 h6
      injection h6 with h6
      injection h6 with h6 h7
      injection h7 with h7 h8
      subst h4
      subst h8
      exact ⟨g, rfl, t1, t2, t3⟩
  · simp only [Real] at hv
    obtain ⟨b, off, cap, vs, e1, e2, e3, e4, _⟩ := hv
    refine ⟨c, rfl, hR.base.okb, ?_, fun n2 cs2 t2' e2' sz2 hr => by cases hr⟩
    simp only [Real]
    exact ⟨b, off, cap, vs, e1, e2, strip_realL (c := c) (c' := c) (fun _ _ _ h1 h2 => ⟨h1, h2⟩) (fun k e cs hk => by cases hk) 50 cs cs' vs hm e3, fun j v hj => e4 j v hj, trivial⟩
  · exact ⟨c, rfl, hR.base.okb, strip_real (c := c) (c' := c) (fun _ _ _ h1 h2 => ⟨h1, h2⟩) (fun k e cs hk => by cases hk) 50 v r u hs hv, fun n2 cs2 t2 e2 sz2 hr => absurd hr (hns n2 cs2 _)⟩

theorem strip_notok : ∀ (d : Nat) (v r : AV), strip noBox d v = some r → ∀ n cs t, r ≠ .sl n cs (some t) := by
  intro d v r h n cs t e
  subst e
  cases d with
  | zero => simp only [strip] at h; cases h
  | succ d =>
    cases v with
    | any => simp only [strip] at h; cases h
    | lit v => simp only [strip] at h; cases h
    | sym v => simp only [strip] at h; cases h
    | agg l => simp only [strip] at h; cases hm : l.mapM (strip noBox d) with
      | none => rw [hm] at h; cases h
      | some x => rw [hm] at h; cases h
    | sl m l tk => simp only [strip] at h; cases hm : l.mapM (strip noBox d) with
      | none => rw [hm] at h; cases h
      | some x => rw [hm] at h; cases h
    | rd l => simp only [strip] at h; cases hm : l.mapM (strip noBox d) with
      | none => rw [hm] at h; cases h
      | some x => rw [hm] at h; cases h
    | tup l => simp only [strip] at h; cases hm : l.mapM (strip noBox d) with
      | none => rw [hm] at h; cases h
      | some x => rw [hm] at h; cases h
    | clo f l => simp only [strip] at h; cases hm : l.mapM (strip noBox d) with
      | none => rw [hm] at h; cases h
      | some x => rw [hm] at h; cases h
    | box k o => simp only [strip, noBox] at h; cases h
end
end Go.Proofs.YtmehknlijcbphaaGreatDoor.Ev
