/- Steps, and operations one after the other; no condition. -/
import Derived.Test.YtmehknlijcbphaaGreatDoorEv9
namespace Go.Proofs.YtmehknlijcbphaaGreatDoor.Ev
open Go Go.RowKit

/-- The state of a function that runs. -/
structure Rel [Syms] (W0 : World) (ok0 : Nat → Nat → Prop) (st : St) (a : Act) (c : Cx) : Prop where
  base : Base W0 ok0 c
  box : BoxOk (lookup st.boxes) c
  live : LiveOk (fun k => st.live.elem k) c
  tm : ∀ t, Real c (getAt st.tmps t) (a.tmps.getD t undef)
  defers : a.defers = []
  len : st.tmps.length = a.tmps.size
  iss : ∀ t, c.iss t → t < st.nid
  keys : ∀ k p, lookup st.boxes k = some p → k < st.nid
  livelt : ∀ k, st.live.elem k = true → k < st.nid

theorem setAt_length : ∀ (l : List AV) (d : Nat) (v : AV), (setAt l d v).length = l.length
  | [], _, _ => rfl
  | _ :: _, 0, _ => rfl
  | x :: r, d + 1, v => by simp [setAt, setAt_length r d v]
theorem getAt_setAt : ∀ (l : List AV) (d : Nat) (v : AV) (t : Nat), d < l.length → getAt (setAt l d v) t = if t = d then v else getAt l t
  | [], _, _, _, h => by simp at h
  | x :: r, 0, v, 0, _ => rfl
  | x :: r, 0, v, t + 1, _ => rfl
  | x :: r, d + 1, v, 0, _ => rfl
  | x :: r, d + 1, v, t + 1, h => by
    have := getAt_setAt r d v t (by simpa using h)
    simp only [setAt, getAt, this]
    simp
theorem setAt_out : ∀ (l : List AV) (d : Nat) (v : AV), l.length ≤ d → setAt l d v = l
  | [], _, _, _ => rfl
  | x :: r, 0, _, h => by simp at h
  | x :: r, d + 1, v, h => by simp [setAt, setAt_out r d v (by simpa using h)]

theorem lookup_update : ∀ (l : List (Nat × TypeId × List AV)) (j : Nat) (cs : List AV) (k : Nat), lookup (update l j cs) k = if k = j then (lookup l k).map (fun p => (p.1, cs)) else lookup l k
  | [], j, cs, k => by simp [update, lookup]
  | (i, e, x) :: r, j, cs, k => by
    have ih := lookup_update r j cs k
    by_cases hij : i = j
    · subst hij
      by_cases hk : k = i
      · subst hk; simp [update, lookup]
      · simp only [update, if_true, lookup, if_neg (fun e => hk e.symm : ¬ i = k), if_neg hk]
    · by_cases hk : i = k
      · subst hk
        simp [update, lookup, hij]
      · simp only [update, hij, if_false, lookup, hk]
        exact ih

theorem put_getD {a : Act} {d : Nat} {u : Value} (t : Nat) : (a.put (some d) u).tmps.getD t undef = if t = d ∧ d < a.tmps.size then u else a.tmps.getD t undef := by
  simp only [Act.put]
  by_cases h : t = d ∧ d < a.tmps.size
  · obtain ⟨rfl, h⟩ := h
    simp [h]
  · rw [if_neg h]
    by_cases htd : t = d
    · subst htd
      have : ¬ t < a.tmps.size := fun h2 => h ⟨rfl, h2⟩
      simp [this]
    · simp only [Array.getD_eq_getD_getElem?, Array.getElem?_setIfInBounds]
      rw [if_neg (fun e => htd e.symm)]

section
variable {P : Program} {T : Tab} {call : FuncId → List AV → Option AV} {Inv : World → Prop} {W0 : World} {ok0 : Nat → Nat → Prop} {ops : Array Oper} {Q : Exit → Act → World → Prop}

/-- One step of a region, wanted or not. -/
theorem evStep_sound [Syms] (hT : T.Ok P) (hcall : CallOk P Inv call) {E : Env} {o : Oper} {v : AV} {eff : Eff} {a : Act} {c : Cx} {K : Act → World → Prop} {i : Nat} (ho : ops[i]? = some o) (hInv : Inv c.W)
    (h : evStep P T call ops E o = some (v, eff)) (hB : Base W0 ok0 c) (hbx : BoxOk E.bx c) (hlv : ∀ k, eff = .tok (some k) → E.lv k = true → (c.τ k).isSome = true)
    (htm : ∀ t, Real c (E.tm t) (a.tmps.getD t undef)) (hid : ¬ c.iss E.id) (hK : ∀ u c', Real c' v u → EffOk W0 ok0 E.id eff c c' → K (a.put o.dst u) c'.W) : wpOp P ops Q i K a c.W := by
  unfold evStep at h
  have hw : ∀ b, evWanted ops E.tm o = some b → Region.wanted o (yielded ops a.tmps) = b := by
    intro b hb
    unfold evWanted at hb
    unfold Region.wanted
    cases hg : o.guard with
    | none =>
      rw [hg] at hb
      injection hb with hb
    | some jw =>
      obtain ⟨j, want⟩ := jw
      rw [hg] at hb
      dsimp only at hb ⊢
      split at hb
      · rename_i d hd
        split at hb
        · rename_i bb hbb
          injection hb with hb
          have hr := htm d
          rw [hbb] at hr
          simp only [Real] at hr
          have hy : yielded ops a.tmps j = some bb := by
            unfold yielded
            rw [hd]
            simp only [Option.bind_some]
            have : a.tmps[d]? = some (.bool bb) := by
              rw [Array.getD_eq_getD_getElem?] at hr
              cases hq : a.tmps[d]? with
              | none => rw [hq] at hr; cases hr
              | some x => rw [hq] at hr; simpa using hr
            rw [this]
          rw [hy, ← hb]
          cases bb <;> cases want <;> rfl
        · cases hb
      · cases hb
  unfold wpOp
  rw [ho]
  dsimp only
  split at h
  · rename_i hww
    rw [hw true hww, if_pos rfl]
    exact .inl (evOp_sound hT hcall hInv h hB hbx hlv htm hid hK)
  · rename_i hww
    injection h with h
    injection h with h1 h2
    subst h1
    subst h2
    rw [hw false hww, if_neg (by simp)]
    exact hK undef c (by simp only [Real]) (EffOk.same hB)
  · cases h

theorem Rel.step [Syms] {st : St} {a : Act} {c c' : Cx} {dst : Option Nat} {v : AV} {u : Value} {eff : Eff} (hR : Rel W0 ok0 st a c) (hv : Real c' v u) (he : EffOk W0 ok0 st.nid eff c c') : Rel W0 ok0 ((st.set dst v).eff eff) (a.put dst u) c' := by
  have hnid : ((st.set dst v).eff eff).nid = st.nid + 1 := by
    cases eff with
    | none => cases dst <;> rfl
    | box _ _ => cases dst <;> rfl
    | tok old => cases old <;> cases dst <;> rfl
    | store _ _ => cases dst <;> rfl
  have htmps : ((st.set dst v).eff eff).tmps = (st.set dst v).tmps := by
    cases eff with
    | none => rfl
    | box _ _ => rfl
    | tok old => cases old <;> rfl
    | store _ _ => rfl
  have hbox : ∀ k p, lookup ((st.set dst v).eff eff).boxes k = some p → bxEff st.nid (lookup st.boxes) eff k = some p := by
    intro k p hk
    have hb : (st.set dst v).boxes = st.boxes := by cases dst <;> rfl
    have hn : (st.set dst v).nid = st.nid := by cases dst <;> rfl
    cases eff with
    | none => simp only [St.eff, hb] at hk; exact hk
    | box e cs =>
      simp only [St.eff, hb, hn, lookup] at hk
      simp only [bxEff]
      by_cases hkk : st.nid = k
      · rw [if_pos hkk] at hk; rw [if_pos hkk.symm]; exact hk
      · rw [if_neg hkk] at hk; rw [if_neg (fun e => hkk e.symm)]; exact hk
    | tok old => cases old <;> (simp only [St.eff, hb] at hk; exact hk)
    | store j cs =>
      simp only [St.eff, hb, lookup_update] at hk
      exact hk
  have hlive : ∀ k, ((st.set dst v).eff eff).live.elem k = true → lvEff st.nid (fun k => st.live.elem k) eff k = true := by
    intro k hk
    have hl : (st.set dst v).live = st.live := by cases dst <;> rfl
    have hn : (st.set dst v).nid = st.nid := by cases dst <;> rfl
    cases eff with
    | none => simp only [St.eff, hl] at hk; exact hk
    | box e cs => simp only [St.eff, hl] at hk; exact hk
    | store j cs => simp only [St.eff, hl] at hk; exact hk
    | tok old =>
      cases old with
      | none =>
        simp only [St.eff, hl, hn] at hk
        simp only [lvEff, Bool.or_eq_true, decide_eq_true_eq]
        simpa using hk
      | some j =>
        simp only [St.eff, hl, hn] at hk
        simp only [lvEff, Bool.or_eq_true, Bool.and_eq_true, decide_eq_true_eq]
        simpa using hk
  refine ⟨he.base, fun k e cs hk => he.box _ hR.box k e cs (hbox k (e, cs) hk), fun t ht => he.live _ hR.live t (hlive t ht), ?_, ?_, ?_, ?_, ?_, ?_⟩
  · intro t
    rw [htmps]
    have h0 := (hR.tm t).le he.le
    cases dst with
    | none => exact h0
    | some d =>
      simp only [St.set]
      rw [put_getD]
      by_cases hd : d < st.tmps.length
      · rw [getAt_setAt _ _ _ _ hd]
        by_cases htd : t = d
        · rw [if_pos htd, if_pos ⟨htd, by rw [← hR.len]; exact hd⟩]; exact hv
        · rw [if_neg htd, if_neg (fun h => htd h.1)]; exact h0
      · rw [setAt_out _ _ _ (by omega), if_neg (fun h => hd (by rw [hR.len]; exact h.2))]
        exact h0
  · cases dst <;> exact hR.defers
  · rw [htmps]
    cases dst with
    | none => exact hR.len
    | some d => simp only [St.set, setAt_length, Act.put, Array.size_setIfInBounds]; exact hR.len
  · intro t ht
    rw [hnid]
    rcases he.iss t ht with h | h
    · have := hR.iss t h; omega
    · omega
  · intro k p hk
    rw [hnid]
    have := hbox k p hk
    cases eff with
    | none => have := hR.keys k p this; omega
    | box e cs =>
      simp only [bxEff] at this
      split at this
      · omega
      · have := hR.keys k p this; omega
    | tok old => have := hR.keys k p (by cases old <;> exact this); omega
    | store j cs =>
      simp only [bxEff] at this
      split at this
      · cases hq : lookup st.boxes k with
        | none => rw [hq] at this; cases this
        | some q => have := hR.keys k q hq; omega
      · have := hR.keys k p this; omega
  · intro k hk
    rw [hnid]
    have := hlive k hk
    cases eff with
    | none => have := hR.livelt k this; omega
    | box e cs => have := hR.livelt k this; omega
    | store j cs => have := hR.livelt k this; omega
    | tok old =>
      cases old with
      | none =>
        simp only [lvEff, Bool.or_eq_true, decide_eq_true_eq] at this
        rcases this with h | h
        · omega
        · have := hR.livelt k h; omega
      | some j =>
        simp only [lvEff, Bool.or_eq_true, Bool.and_eq_true, decide_eq_true_eq] at this
        rcases this with h | h
        · omega
        · have := hR.livelt k h.1; omega

theorem Rel.inv [Syms] (hI : ∀ W W' : World, Below W.heap.size W W' → Inv W → Inv W') {st : St} {a : Act} {c : Cx} (hR : Rel W0 ok0 st a c) (h0 : Inv W0) : Inv c.W := hI W0 c.W hR.base.below h0

theorem evSeq_sound [Syms] (hT : T.Ok P) (hcall : CallOk P Inv call) (hI : ∀ W W' : World, Below W.heap.size W W' → Inv W → Inv W') (h0 : Inv W0) : ∀ (r : List Oper) (i : Nat) (st st' : St) (a : Act) (c : Cx), ops.toList.drop i = r → evSeq P T call ops r st = some st' → Rel W0 ok0 st a c →
    (∀ a' c', Rel W0 ok0 st' a' c' → Q .normal a' c'.W) → wpOps P ops Q (List.range' i r.length) a c.W
  | [], i, st, st', a, c, hd, h, hR, hQ => by
    simp only [evSeq] at h
    injection h with h
    subst h
    exact hQ a c hR
  | o :: r, i, st, st', a, c, hd, h, hR, hQ => by
    simp only [evSeq] at h
    split at h
    · rename_i v e hs
      have ho : ops[i]? = some o := by
        have := congrArg (·[0]?) hd
        simpa using this
      have hd' : ops.toList.drop (i + 1) = r := by
        rw [← List.drop_drop (i := 1), hd]; rfl
      rw [List.length_cons, List.range'_succ, wpOps_cons]
      exact evStep_sound hT hcall ho (hR.inv hI h0) hs hR.base hR.box (fun k _ hk => hR.live k hk) hR.tm (fun hi => Nat.lt_irrefl _ (hR.iss _ hi)) (fun u c' hu he => evSeq_sound hT hcall hI h0 r (i + 1) _ st' _ c' hd' h (hR.step hu he) hQ)
    · cases h
end
end Go.Proofs.YtmehknlijcbphaaGreatDoor.Ev
