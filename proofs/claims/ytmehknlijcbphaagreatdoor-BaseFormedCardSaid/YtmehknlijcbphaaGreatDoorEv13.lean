/- A region whose order is open leaves what the evaluator tells: its steps and its end; no condition. -/
import Derived.Test.YtmehknlijcbphaaGreatDoorEv12
namespace Go.Proofs.YtmehknlijcbphaaGreatDoor.Ev
open Go Go.RowKit

structure DRel [Syms] (W0 : World) (ok0 : Nat → Nat → Prop) (R : Reg) (l : List Oper) (res : List AV) (effs : List Eff) (D : Nat → Bool) (a : Act) (c : Cx) : Prop where
  base : Base W0 ok0 c
  box : BoxOk (bxD R effs D) c
  live : ∀ k, LvD R effs D k → (c.τ k).isSome = true
  tm : ∀ t, Real c (tmD R res D t) (a.tmps.getD t undef)
  defers : a.defers = []
  len : R.st.tmps.length = a.tmps.size
  iss : ∀ t, c.iss t → t < R.st.nid ∨ ∃ i, D i = true ∧ t = R.st.nid + i
  closed : Closed l D

def more (D : Nat → Bool) (i j : Nat) : Bool := decide (j = i) || D j
theorem more_self (D : Nat → Bool) (i : Nat) : more D i i = true := by simp [more]
theorem more_of {D : Nat → Bool} {i j : Nat} (h : D j = true) : more D i j = true := by simp [more, h]
theorem more_other {D : Nat → Bool} {i j : Nat} (h : j ≠ i) : more D i j = D j := by simp [more, h]

section
variable {P : Program} {T : Tab} {call : FuncId → List AV → Option AV} {Inv : World → Prop} {W0 : World} {ok0 : Nat → Nat → Prop} {ops : Array Oper} {Q : Exit → Act → World → Prop} {R : Reg} {l : List Oper} {res : List AV} {effs : List Eff}

theorem DRel.step [Syms] (hT : T.Ok P) (hcall : CallOk P Inv call) (hI : ∀ W W' : World, Below W.heap.size W W' → Inv W → Inv W') (h0 : Inv W0) (hops : ops.toList = l) (hcl : R.cl = closures l []) (hW : R.W = writers l 0) (hn : nodup R.W = true) (hdl : ∀ d j, lookup R.W d = some j → d < R.st.tmps.length)
    (hlen : effs.length = l.length) (hF : ∀ (j : Nat) (o : Oper), l[j]? = some o → ∃ res1 md tk cn v e, Found P T call ops R res effs j o res1 md tk cn v e)
    {D : Nat → Bool} {a : Act} {c : Cx} (hR : DRel W0 ok0 R l res effs D a c) {i : Nat} {o : Oper} (ho : l[i]? = some o) (hDi : D i = false) (hed : ∀ e ∈ o.after.toList, Region.binds .any e = true → D e.on = true)
    {K : Act → World → Prop} (hK : ∀ a' c', DRel W0 ok0 R l res effs (more D i) a' c' → K a' c'.W) : wpOp P ops Q i K a c.W := by
  have hops_i : ops[i]? = some o := by rw [← Array.getElem?_toList, hops]; exact ho
  have hahead : ∀ j, R.ahead j i = true → D j = true := fun j hj => ahead_done hR.closed i o ho hed j (by rw [← hcl]; exact hj)
  have hlater : ∀ j, R.ahead i j = true → D j = false := by
    intro j hj
    cases hDj : D j with
    | false => rfl
    | true =>
      exfalso
      unfold Reg.ahead at hj
      rw [hcl] at hj
      cases hoj : l[j]? with
      | none =>
        have hg := closures_get l [] j
        simp only [List.length_nil, Nat.not_lt_zero, if_false, Nat.sub_zero, hoj] at hg
        rw [List.getD_eq_getElem?_getD, hg] at hj
        simp at hj
      | some oj =>
        have := ahead_done hR.closed j oj hoj (hR.closed j oj hoj hDj) i hj
        rw [hDi] at this
        cases this
  obtain ⟨res1, md, tk, cn, v, eff, f⟩ := hF i o ho
  -- what the operation may look at is so
  have htm : ∀ t, Real c ((drawEnv R i res1 md tk cn).tm t) (a.tmps.getD t undef) := by
    intro t
    have h1 := hR.tm t
    simp only [drawEnv]
    unfold tmD at h1
    cases hw : lookup R.W t with
    | none => rw [hw] at h1; exact h1
    | some j =>
      rw [hw] at h1
      dsimp only at h1 ⊢
      split
      · rename_i hji
        split
        · rename_i ha
          rw [hahead j ha, if_pos rfl] at h1
          rw [f.pre j hji]
          exact h1
        · simp only [Real]
      · split
        · rename_i hji
          subst hji
          rw [hDi] at h1
          exact h1
        · split
          · rename_i ha
            rw [hlater j ha] at h1
            exact h1
          · simp only [Real]
  have hbx : BoxOk (drawEnv R i res1 md tk cn).bx c := by
    intro k e cs hk
    refine hR.box k e cs ?_
    simp only [drawEnv] at hk
    split at hk
    · rename_i hcond
      have hbase : baseD R effs D k = some (e, cs) := by
        unfold baseD
        split at hk
        · rename_i hnk
          rw [if_pos hnk]
          split at hk
          · rename_i ha
            obtain ⟨j, h1, h2, h3⟩ := f.made k (e, cs) hk
            have hj : k - R.st.nid = j := by omega
            rw [hj] at ha ⊢
            rw [h3]
            dsimp only
            rw [hahead j ha, if_pos rfl]
          · cases hk
        · rename_i hnk
          rw [if_neg hnk]
          exact hk
      unfold bxD
      rw [hbase]
      simp only [Option.map_some]
      congr 1
      unfold storeD
      cases hs : lookup R.S k with
      | none => rfl
      | some s =>
        unfold mayTouch at hcond
        rw [hs] at hcond
        simp only [Bool.or_eq_true, decide_eq_true_eq] at hcond
        dsimp only
        have : D s = false := by
          rcases hcond with rfl | hcond
          · exact hDi
          · exact hlater s hcond
        rw [this]
        rfl
    · cases hk
  have hlv : ∀ k, eff = .tok (some k) → (drawEnv R i res1 md tk cn).lv k = true → (c.τ k).isSome = true := by
    intro k he hk
    simp only [drawEnv, Bool.and_eq_true, Bool.or_eq_true, decide_eq_true_eq, Bool.not_eq_true'] at hk
    obtain ⟨hk1, hk2⟩ := hk
    refine hR.live k ⟨?_, fun j hDj => ?_⟩
    · rcases hk1 with h | ⟨⟨h1, h2⟩, h3⟩
      · exact .inl h
      · obtain ⟨j, h4, h5, h6⟩ := f.toks k h3
        have hj : k - R.st.nid = j := by omega
        rw [hj] at h2 ⊢
        exact .inr ⟨h1, hahead j h2, h6⟩
    · cases hej : eats k effs[j]? with
      | false => rfl
      | true =>
        exfalso
        rcases Nat.lt_trichotomy j i with hji | hji | hji
        · rw [f.cons j k hji hej] at hk2
          cases hk2
        · subst hji
          rw [hDi] at hDj
          cases hDj
        · cases heff : effs[j]? with
          | none => rw [heff] at hej; cases hej
          | some ej =>
            have hjl : j < l.length := by rw [← hlen]; exact (List.getElem?_eq_some_iff.1 heff).1
            obtain ⟨res2, md2, tk2, cn2, v2, e2, f2⟩ := hF j _ (List.getElem?_eq_getElem hjl)
            have hee : e2 = .tok (some k) := by
              have := f2.eff
              rw [heff] at this
              injection this with this
              subst this
              rw [heff] at hej
              unfold eats at hej
              split at hej
              · rename_i j' hj'
                injection hj' with hj'
                simp only [decide_eq_true_eq] at hej
                rw [hj', hej]
              · cases hej
            have h1 := f2.eat k hee
            have h2 := f2.cons i k hji (by rw [f.eff, he]; simp [eats])
            simp only [drawEnv, Bool.and_eq_true, Bool.not_eq_true'] at h1
            rw [h2] at h1
            cases h1.2
  have hid : ¬ c.iss (drawEnv R i res1 md tk cn).id := by
    intro h
    rcases hR.iss _ h with h1 | ⟨j, h1, h2⟩
    · simp only [drawEnv] at h1; omega
    · simp only [drawEnv] at h2
      have : j = i := by omega
      subst this
      rw [hDi] at h1
      cases h1
  have hInv : Inv c.W := hI W0 c.W hR.base.below h0
  refine evStep_sound hT hcall hops_i hInv f.step hR.base hbx hlv htm hid (fun u c' hu he => hK _ c' ?_)
  have hee : effs[i]? = some eff := f.eff
  have hsplit : ∀ t j, lookup R.W t = some j → j = i → o.dst = some t := by
    intro t j hw hj
    subst hj
    rw [hW] at hw
    obtain ⟨o', _, h2, h3⟩ := writers_get l 0 t j hw
    rw [Nat.sub_zero, ho] at h2
    injection h2 with h2
    rw [h2]
    exact h3
  have htmD : ∀ t, o.dst ≠ some t → tmD R res (more D i) t = tmD R res D t := by
    intro t ht
    unfold tmD
    cases hw : lookup R.W t with
    | none => rfl
    | some j =>
      dsimp only
      rw [more_other (fun e => ht (hsplit t j hw e))]
  refine ⟨he.base, fun k e cs hk => he.box _ hR.box k e cs ?_, fun k hk => ?_, fun t => ?_, ?_, ?_, ?_, ?_⟩
  · -- boxes
    show bxEff (R.st.nid + i) (bxD R effs D) eff k = some (e, cs)
    unfold bxD at hk
    cases hb : baseD R effs (more D i) k with
    | none => rw [hb] at hk; cases hk
    | some p =>
      rw [hb] at hk
      simp only [Option.map_some] at hk
      injection hk with hk
      -- where the base comes from
      have hbase : (k ≠ R.st.nid + i ∨ ∀ e cs, eff ≠ .box e cs) → baseD R effs D k = some p := by
        intro hne
        unfold baseD at hb ⊢
        split at hb
        · rename_i hnk
          rw [if_pos hnk]
          split at hb
          · rename_i e2 cs2 h2
            have hki : k - R.st.nid ≠ i := by
              intro hki
              rcases hne with hne | hne
              · omega
              · rw [hki, hee] at h2
                injection h2 with h2
                exact hne e2 cs2 h2
            rw [more_other hki] at hb
            exact hb
          · cases hb
        · rename_i hnk
          rw [if_neg hnk]
          exact hb
      have hstore : (∀ j cs', eff = .store j cs' → k ≠ j) → (∀ s, lookup R.S k = some s → D s = true ∨ s = i ∨ True) → storeD R effs (more D i) k p = storeD R effs D k p := by
        intro hne _
        unfold storeD
        cases hs : lookup R.S k with
        | none => rfl
        | some s =>
          dsimp only
          by_cases hsi : s = i
          · subst hsi
            rw [more_self, hDi, hee, if_pos rfl]
            cases eff with
            | store j cs' =>
              dsimp only
              rw [if_neg (fun e => hne j cs' rfl e.symm)]
              rfl
            | _ => rfl
          · rw [more_other hsi]
      cases eff with
      | none =>
        rw [hstore (fun _ _ h => by cases h) (fun _ _ => .inr (.inr trivial))] at hk
        simp only [bxEff, bxD, hbase (.inr fun _ _ h => by cases h), Option.map_some, hk]
      | tok old =>
        rw [hstore (fun _ _ h => by cases h) (fun _ _ => .inr (.inr trivial))] at hk
        simp only [bxEff, bxD, hbase (.inr fun _ _ h => by cases h), Option.map_some, hk]
      | box e2 cs2 =>
        rw [hstore (fun _ _ h => by cases h) (fun _ _ => .inr (.inr trivial))] at hk
        simp only [bxEff]
        by_cases hki : k = R.st.nid + i
        · rw [if_pos hki]
          -- nothing has been stored into it yet
          have hp : p = (e2, cs2) := by
            unfold baseD at hb
            rw [if_pos (by omega), show k - R.st.nid = i by omega, hee] at hb
            dsimp only at hb
            rw [more_self, if_pos rfl] at hb
            injection hb with hb
            exact hb.symm
          have hsd : storeD R effs D k p = p := by
            unfold storeD
            cases hs : lookup R.S k with
            | none => rfl
            | some s =>
              dsimp only
              cases hDs : D s with
              | false => rfl
              | true =>
                rw [if_pos rfl]
                cases hes : effs[s]? with
                | none => rfl
                | some es =>
                  cases es with
                  | store k' cs' =>
                    dsimp only
                    by_cases hkk : k' = k
                    · exfalso
                      subst hkk
                      have hsl : s < l.length := by rw [← hlen]; exact (List.getElem?_eq_some_iff.1 hes).1
                      obtain ⟨res2, md2, tk2, cn2, v2, e2', f2⟩ := hF s _ (List.getElem?_eq_getElem hsl)
                      have hee2 : e2' = .store k' cs' := by
                        have := f2.eff
                        rw [hes] at this
                        injection this with this
                        exact this.symm
                      obtain ⟨_, h4⟩ := f2.store k' cs' hee2
                      simp only [drawEnv] at h4
                      split at h4
                      · split at h4
                        · split at h4
                          · rename_i ha
                            rw [show k' - R.st.nid = i by omega] at ha
                            rw [hlater s ha] at hDs
                            cases hDs
                          · cases h4
                        · omega
                      · cases h4
                    · rw [if_neg hkk]
                  | _ => rfl
          rw [hsd, hp] at hk
          rw [← hk]
        · rw [if_neg hki]
          simp only [bxD, hbase (.inl hki), Option.map_some, hk]
      | store j cs2 =>
        simp only [bxEff]
        have hb2 := hbase (.inr fun _ _ h => by cases h)
        by_cases hkj : k = j
        · subst hkj
          rw [if_pos rfl]
          obtain ⟨h3, _⟩ := f.store k cs2 rfl
          simp only [bxD, hb2, Option.map_some]
          have h4 : storeD R effs D k p = p := by
            unfold storeD
            rw [h3]
            dsimp only
            rw [hDi]
            rfl
          have h5 : storeD R effs (more D i) k p = (p.1, cs2) := by
            unfold storeD
            rw [h3]
            dsimp only
            rw [more_self, if_pos rfl, hee]
            dsimp only
            rw [if_pos rfl]
          rw [h4]
          rw [h5] at hk
          rw [hk]
        · rw [if_neg hkj]
          rw [hstore (fun j' cs' h => by injection h with h _; rw [← h]; exact hkj) (fun _ _ => .inr (.inr trivial))] at hk
          simp only [bxD, hb2, Option.map_some, hk]
  · -- room
    obtain ⟨hk1, hk2⟩ := hk
    -- the state before, for a number that is not this operation's
    have hbefore : k ≠ R.st.nid + i → LvD R effs D k := by
      intro hne
      refine ⟨?_, fun j hj => hk2 j (more_of hj)⟩
      rcases hk1 with h | ⟨h1, h2, h3⟩
      · exact .inl h
      · rw [more_other (by omega)] at h2
        exact .inr ⟨h1, h2, h3⟩
    have hlv2 : lvEff (R.st.nid + i) (fun k => (c.τ k).isSome) eff k = true := by
      by_cases hki : k = R.st.nid + i
      · cases eff with
        | tok old => cases old <;> simp [lvEff, hki]
        | none =>
          rcases hk1 with h | ⟨h1, h2, h3⟩
          · exact hR.live k ⟨.inl h, fun j hj => hk2 j (more_of hj)⟩
          · rw [show k - R.st.nid = i by omega, hee] at h3; cases h3
        | box e cs =>
          rcases hk1 with h | ⟨h1, h2, h3⟩
          · exact hR.live k ⟨.inl h, fun j hj => hk2 j (more_of hj)⟩
          · rw [show k - R.st.nid = i by omega, hee] at h3; cases h3
        | store j cs =>
          rcases hk1 with h | ⟨h1, h2, h3⟩
          · exact hR.live k ⟨.inl h, fun j hj => hk2 j (more_of hj)⟩
          · rw [show k - R.st.nid = i by omega, hee] at h3; cases h3
      · have hb := hR.live k (hbefore hki)
        cases eff with
        | tok old =>
          cases old with
          | none => simp [lvEff, hb]
          | some j =>
            have hne : k ≠ j := by
              intro e
              subst e
              have := hk2 i (more_self D i)
              rw [hee] at this
              simp [eats] at this
            simp [lvEff, hb, hne]
        | none => exact hb
        | box e cs => exact hb
        | store j cs => exact hb
    exact he.live _ (fun t ht => ht) k hlv2
  · -- temporaries
    have h1 := (hR.tm t).le he.le
    cases hd : o.dst with
    | none =>
      rw [htmD t (by rw [hd]; simp)]
      exact h1
    | some d =>
      have hwd : lookup R.W d = some i := by
        have := writers_of l 0 (by rw [← hW]; exact hn) i o d ho hd
        rw [hW, this, Nat.zero_add]
      rw [put_getD]
      by_cases htd : t = d
      · subst htd
        rw [if_pos ⟨rfl, by rw [← hR.len]; exact hdl t i hwd⟩]
        unfold tmD
        rw [hwd]
        dsimp only
        rw [more_self, if_pos rfl, f.val]
        exact hu
      · rw [if_neg (fun h => htd h.1), htmD t (by rw [hd]; simp; exact fun e => htd e.symm)]
        exact h1
  · cases o.dst <;> exact hR.defers
  · have := hR.len
    cases o.dst with
    | none => exact this
    | some d => simpa [Act.put] using this
  · intro t ht
    rcases he.iss t ht with h | h
    · rcases hR.iss t h with h | ⟨j, h1, h2⟩
      · exact .inl h
      · refine .inr ⟨j, ?_, h2⟩
        by_cases hji : j = i
        · subst hji; exact more_self D j
        · rw [more_other hji]; exact h1
    · exact .inr ⟨i, more_self D i, h⟩
  · intro j oj hoj hDj e he2 hb
    by_cases hji : j = i
    · subst hji
      rw [ho] at hoj
      injection hoj with hoj
      subst hoj
      have := hed e he2 hb
      by_cases hei : e.on = j
      · rw [hei]; exact more_self D j
      · rw [more_other hei]; exact this
    · rw [more_other hji] at hDj
      have := hR.closed j oj hoj hDj e he2 hb
      by_cases hei : e.on = i
      · rw [hei]; exact more_self D i
      · rw [more_other hei]; exact this
end
end Go.Proofs.YtmehknlijcbphaaGreatDoor.Ev
