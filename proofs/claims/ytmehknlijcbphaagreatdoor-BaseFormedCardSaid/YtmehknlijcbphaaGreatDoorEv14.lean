/- Regions; no condition. -/
import Derived.Test.YtmehknlijcbphaaGreatDoorEv13
namespace Go.Proofs.YtmehknlijcbphaaGreatDoor.Ev
open Go Go.RowKit

theorem setAll_length [Syms] (res : List AV) : ∀ (W : List (Nat × Nat)) (ts : List AV), (setAll res W ts).length = ts.length
  | [], _ => rfl
  | (d, j) :: r, ts => by simp [setAll, setAll_length res r, setAt_length]
theorem setAll_get [Syms] (res : List AV) : ∀ (W : List (Nat × Nat)) (ts : List AV) (t : Nat), nodup W = true → W.all (fun p => decide (p.1 < ts.length)) = true → getAt (setAll res W ts) t = match lookup W t with
    | some j => getAt res j
    | none => getAt ts t
  | [], ts, t, _, _ => rfl
  | (d, j) :: r, ts, t, hn, hl => by
    simp only [nodup, Bool.and_eq_true] at hn
    simp only [List.all_cons, Bool.and_eq_true, decide_eq_true_eq] at hl
    have ih := setAll_get res r (setAt ts d (getAt res j)) t hn.2 (by simp only [setAt_length]; exact hl.2)
    simp only [setAll, ih, lookup]
    by_cases hdt : d = t
    · subst hdt
      have : lookup r d = none := by simpa using hn.1
      rw [this, if_pos rfl]
      dsimp only
      rw [getAt_setAt _ _ _ _ hl.1, if_pos rfl]
    · rw [if_neg hdt]
      cases lookup r t with
      | some j' => rfl
      | none =>
        dsimp only
        rw [getAt_setAt _ _ _ _ hl.1, if_neg (fun e => hdt e.symm)]

theorem lookup_madeAll : ∀ (effs : List Eff) (i : Nat) (l : List (Nat × TypeId × List AV)) (k : Nat) (p : TypeId × List AV), lookup (madeAll effs i l) k = some p → lookup l k = some p ∨ (i ≤ k ∧ effs[k - i]? = some (Eff.box p.1 p.2))
  | [], i, l, k, p, h => .inl h
  | .box e cs :: r, i, l, k, p, h => by
    simp only [madeAll] at h
    rcases lookup_madeAll r (i + 1) _ k p h with h | ⟨h1, h2⟩
    · simp only [lookup] at h
      split at h
      · rename_i hik
        injection h with h
        subst h
        subst hik
        exact .inr ⟨Nat.le_refl _, by simp⟩
      · exact .inl h
    · exact .inr ⟨by omega, by rw [show k - i = (k - (i + 1)) + 1 by omega, List.getElem?_cons_succ]; exact h2⟩
  | .none :: r, i, l, k, p, h => by
    simp only [madeAll] at h
    rcases lookup_madeAll r (i + 1) _ k p h with h | ⟨h1, h2⟩
    · exact .inl h
    · exact .inr ⟨by omega, by rw [show k - i = (k - (i + 1)) + 1 by omega, List.getElem?_cons_succ]; exact h2⟩
  | .tok _ :: r, i, l, k, p, h => by
    simp only [madeAll] at h
    rcases lookup_madeAll r (i + 1) _ k p h with h | ⟨h1, h2⟩
    · exact .inl h
    · exact .inr ⟨by omega, by rw [show k - i = (k - (i + 1)) + 1 by omega, List.getElem?_cons_succ]; exact h2⟩
  | .store _ _ :: r, i, l, k, p, h => by
    simp only [madeAll] at h
    rcases lookup_madeAll r (i + 1) _ k p h with h | ⟨h1, h2⟩
    · exact .inl h
    · exact .inr ⟨by omega, by rw [show k - i = (k - (i + 1)) + 1 by omega, List.getElem?_cons_succ]; exact h2⟩

theorem lookup_storeAll (effs : List Eff) : ∀ (l : List (Nat × TypeId × List AV)) (k : Nat), lookup (storeAll effs l) k = (lookup l k).map fun p => (p.1, (storeOf effs k).getD p.2)
  | [], k => rfl
  | (i, e, cs) :: r, k => by
    simp only [storeAll, lookup]
    split
    · rename_i h; subst h; rfl
    · exact lookup_storeAll effs r k

theorem storeOf_some : ∀ (effs : List Eff) (k : Nat) (cs : List AV), storeOf effs k = some cs → ∃ s : Nat, effs[s]? = some (Eff.store k cs)
  | [], _, _, h => by cases h
  | .store j cs0 :: r, k, cs, h => by
    simp only [storeOf] at h
    split at h
    · rename_i hj
      injection h with h
      subst h
      subst hj
      exact ⟨0, rfl⟩
    · obtain ⟨s, hs⟩ := storeOf_some r k cs h
      exact ⟨s + 1, by simpa using hs⟩
  | .none :: r, k, cs, h => by
    simp only [storeOf] at h
    obtain ⟨s, hs⟩ := storeOf_some r k cs h
    exact ⟨s + 1, by simpa using hs⟩
  | .box _ _ :: r, k, cs, h => by
    simp only [storeOf] at h
    obtain ⟨s, hs⟩ := storeOf_some r k cs h
    exact ⟨s + 1, by simpa using hs⟩
  | .tok _ :: r, k, cs, h => by
    simp only [storeOf] at h
    obtain ⟨s, hs⟩ := storeOf_some r k cs h
    exact ⟨s + 1, by simpa using hs⟩
theorem storeOf_none : ∀ (effs : List Eff) (k : Nat), storeOf effs k = none → ∀ (s : Nat) (cs : List AV), effs[s]? ≠ some (Eff.store k cs)
  | [], _, _, _, _ => by simp
  | .store j cs0 :: r, k, h, s, cs => by
    simp only [storeOf] at h
    split at h
    · cases h
    · rename_i hj
      cases s with
      | zero =>
        intro he
        simp only [List.getElem?_cons_zero] at he
        injection he with he
        injection he with he _
        exact hj he
      | succ s => simpa using storeOf_none r k h s cs
  | .none :: r, k, h, s, cs => by
    simp only [storeOf] at h
    cases s with
    | zero => simp
    | succ s => simpa using storeOf_none r k h s cs
  | .box _ _ :: r, k, h, s, cs => by
    simp only [storeOf] at h
    cases s with
    | zero => simp
    | succ s => simpa using storeOf_none r k h s cs
  | .tok _ :: r, k, h, s, cs => by
    simp only [storeOf] at h
    cases s with
    | zero => simp
    | succ s => simpa using storeOf_none r k h s cs

theorem prodIds_mem : ∀ (effs : List Eff) (i k : Nat), k ∈ prodIds effs i → i ≤ k ∧ isTok effs[k - i]? = true
  | [], _, _, h => by simp [prodIds] at h
  | e :: r, i, k, h => by
    have hr : k ∈ prodIds r (i + 1) → i ≤ k ∧ isTok (e :: r)[k - i]? = true := by
      intro h
      obtain ⟨h1, h2⟩ := prodIds_mem r (i + 1) k h
      exact ⟨by omega, by rw [show k - i = (k - (i + 1)) + 1 by omega, List.getElem?_cons_succ]; exact h2⟩
    cases e with
    | tok old =>
      simp only [prodIds, List.mem_cons] at h
      rcases h with rfl | h
      · exact ⟨Nat.le_refl _, by simp [isTok]⟩
      · exact hr h
    | none => exact hr (by simpa only [prodIds] using h)
    | box _ _ => exact hr (by simpa only [prodIds] using h)
    | store _ _ => exact hr (by simpa only [prodIds] using h)
theorem consIds_mem : ∀ (effs : List Eff) (i k : Nat), eats k effs[i]? = true → k ∈ consIds effs
  | [], _, _, h => by simp [eats] at h
  | e :: r, 0, k, h => by
    cases e with
    | tok old =>
      cases old with
      | none => simp [eats] at h
      | some j =>
        simp [eats] at h
        subst h
        simp [consIds]
    | _ => simp [eats] at h
  | e :: r, i + 1, k, h => by
    have := consIds_mem r i k (by simpa using h)
    cases e with
    | tok old =>
      cases old with
      | none => exact this
      | some j => simp [consIds, this]
    | _ => exact this

theorem edgesOk_get : ∀ (l : List Oper) (i : Nat), edgesOk l i = true → ∀ (j : Nat) (o : Oper), l[j]? = some o → ∀ e ∈ o.after.toList, Region.binds .any e = true → e.on < i + j
  | [], _, _, _, _, h, _, _, _ => by simp at h
  | x :: r, i, h, 0, o, hj, e, he, hb => by
    simp only [edgesOk, Bool.and_eq_true] at h
    simp only [List.getElem?_cons_zero] at hj
    injection hj with hj
    subst hj
    have := List.all_eq_true.1 h.1 e he
    simpa [hb] using this
  | x :: r, i, h, j + 1, o, hj, e, he, hb => by
    simp only [edgesOk, Bool.and_eq_true] at h
    have := edgesOk_get r (i + 1) h.2 j o (by simpa using hj) e he hb
    omega

section
variable {P : Program} {T : Tab} {call : FuncId → List AV → Option AV} {Inv : World → Prop} {W0 : World} {ok0 : Nat → Nat → Prop} {ops : Array Oper} {Q : Exit → Act → World → Prop} {R : Reg} {l : List Oper} {res : List AV} {effs : List Eff}

theorem DRel.finish [Syms] (hn : nodup R.W = true) (hdl : R.W.all (fun p => decide (p.1 < R.st.tmps.length)) = true) (hWl : ∀ t j, lookup R.W t = some j → j < l.length)
    (hlen : effs.length = l.length) (hF : ∀ (j : Nat) (o : Oper), l[j]? = some o → ∃ res1 md tk cn v e, Found P T call ops R res effs j o res1 md tk cn v e) (hkeys : ∀ k p, lookup R.st.boxes k = some p → k < R.st.nid) (hlive : ∀ k, R.st.live.elem k = true → k < R.st.nid)
    {D : Nat → Bool} {a : Act} {c : Cx} (hR : DRel W0 ok0 R l res effs D a c) (hall : ∀ i, i < l.length → D i = true) (hlt : ∀ i, D i = true → i < l.length) :
    Rel W0 ok0 { tmps := setAll res R.W R.st.tmps, boxes := storeAll effs (madeAll effs R.st.nid R.st.boxes), live := (prodIds effs R.st.nid ++ R.st.live).filter (fun k => !(consIds effs).elem k), nid := R.st.nid + l.length } a c := by
  have hbase : ∀ k p, lookup (madeAll effs R.st.nid R.st.boxes) k = some p → baseD R effs D k = some p ∧ k < R.st.nid + l.length := by
    intro k p hk
    rcases lookup_madeAll effs _ _ k p hk with h | ⟨h1, h2⟩
    · have := hkeys k p h
      refine ⟨?_, by omega⟩
      unfold baseD
      rw [if_neg (by omega)]
      exact h
    · have hl := (List.getElem?_eq_some_iff.1 h2).1
      refine ⟨?_, by omega⟩
      unfold baseD
      rw [if_pos h1, h2]
      dsimp only
      rw [hall _ (by omega), if_pos rfl]
  have hst : ∀ k p, storeD R effs D k p = (p.1, (storeOf effs k).getD p.2) := by
    intro k p
    unfold storeD
    cases hs : storeOf effs k with
    | some cs =>
      obtain ⟨s, h1⟩ := storeOf_some effs k cs hs
      have hsl : s < l.length := by rw [← hlen]; exact (List.getElem?_eq_some_iff.1 h1).1
      obtain ⟨res2, md2, tk2, cn2, v2, e2, f2⟩ := hF s _ (List.getElem?_eq_getElem hsl)
      have he2 : e2 = .store k cs := by
        have := f2.eff
        rw [h1] at this
        injection this with this
        exact this.symm
      rw [(f2.store k cs he2).1]
      dsimp only
      rw [hall s hsl, if_pos rfl, h1]
      dsimp only
      rw [if_pos rfl]
      rfl
    | none =>
      have hno := storeOf_none effs k hs
      cases hl : lookup R.S k with
      | none => rfl
      | some s =>
        dsimp only
        split
        · split
          · rename_i k' cs hes
            rw [if_neg (fun e => hno s cs (by rw [hes, e]))]
            rfl
          · rfl
        · rfl
  refine ⟨hR.base, fun k e cs hk => ?_, fun k hk => ?_, fun t => ?_, hR.defers, ?_, ?_, ?_, ?_⟩
  · dsimp only at hk
    rw [lookup_storeAll] at hk
    cases hm : lookup (madeAll effs R.st.nid R.st.boxes) k with
    | none => rw [hm] at hk; cases hk
    | some p =>
      rw [hm] at hk
      simp only [Option.map_some] at hk
      injection hk with hk
      refine hR.box k e cs ?_
      unfold bxD
      rw [(hbase k p hm).1]
      simp only [Option.map_some]
      rw [hst, hk]
  · have hk' : k ∈ (prodIds effs R.st.nid ++ R.st.live).filter (fun k => !(consIds effs).elem k) := by simpa using hk
    rw [List.mem_filter, List.mem_append] at hk'
    obtain ⟨h1, h2⟩ := hk'
    refine hR.live k ⟨?_, fun i hi => ?_⟩
    · rcases h1 with h1 | h1
      · obtain ⟨h3, h4⟩ := prodIds_mem effs _ k h1
        refine .inr ⟨h3, ?_, h4⟩
        cases hq : effs[k - R.st.nid]? with
        | none => rw [hq] at h4; cases h4
        | some x =>
          have := (List.getElem?_eq_some_iff.1 hq).1
          exact hall _ (by omega)
      · exact .inl (by simpa using h1)
    · cases he : eats k effs[i]? with
      | false => rfl
      | true =>
        have := consIds_mem effs i k he
        simp [this] at h2
  · have := hR.tm t
    dsimp only
    rw [setAll_get res R.W R.st.tmps t hn hdl]
    unfold tmD at this
    cases hw : lookup R.W t with
    | none => rw [hw] at this; exact this
    | some j =>
      rw [hw] at this
      dsimp only at this ⊢
      rw [hall j (hWl t j hw), if_pos rfl] at this
      exact this
  · dsimp only
    rw [setAll_length]
    exact hR.len
  · intro t ht
    dsimp only
    rcases hR.iss t ht with h | ⟨i, h1, h2⟩
    · omega
    · have := hlt i h1; omega
  · intro k p hk
    dsimp only at hk ⊢
    rw [lookup_storeAll] at hk
    cases hm : lookup (madeAll effs R.st.nid R.st.boxes) k with
    | none => rw [hm] at hk; cases hk
    | some q => exact (hbase k q hm).2
  · intro k hk
    dsimp only
    have hk' : k ∈ (prodIds effs R.st.nid ++ R.st.live).filter (fun k => !(consIds effs).elem k) := by simpa using hk
    rw [List.mem_filter, List.mem_append] at hk'
    rcases hk'.1 with h1 | h1
    · obtain ⟨h3, h4⟩ := prodIds_mem effs _ k h1
      cases hq : effs[k - R.st.nid]? with
      | none => rw [hq] at h4; cases h4
      | some x =>
        have := (List.getElem?_eq_some_iff.1 hq).1
        omega
    · have := hlive k (by simpa using h1); omega

theorem Rel.drew [Syms] {st : St} {a : Act} {c : Cx} {W' : World} (hR : Rel W0 ok0 st a c) (hb : Below c.W.heap.size c.W W') : Rel W0 ok0 st a { c with W := W' } := by
  have he := EffOk.drew (id := st.nid) hR.base hb
  exact ⟨he.base, fun k e cs hk => he.box _ hR.box k e cs hk, fun t ht => he.live _ hR.live t ht, fun t => (hR.tm t).le he.le, hR.defers, hR.len, hR.iss, hR.keys, hR.livelt⟩

theorem evRegion_sound [Syms] (hT : T.Ok P) (hm : P.follows .mixedOrders = true) (hcall : CallOk P Inv call) (hI : ∀ W W' : World, Below W.heap.size W W' → Inv W → Inv W') (h0 : Inv W0) {id : Nat} {draw : Bool} {st st' : St} {a : Act} {c : Cx} (h : evRegion P T call ops draw st = some st')
    (hR : Rel W0 ok0 st a c) (hQ : ∀ a' c', Rel W0 ok0 st' a' c' → Q .normal a' c'.W) : (Code.region id ops draw).wp P Q a c.W := by
  unfold evRegion at h
  cases draw with
  | false =>
    rw [if_pos rfl] at h
    refine wp_region ?_
    have := evSeq_sound (Q := Q) hT hcall hI h0 ops.toList 0 st st' a c rfl h hR hQ
    rw [← List.range_eq_range'] at this
    simpa using this
  | true =>
    rw [if_neg (by simp)] at h
    dsimp only at h
    split at h
    · rename_i S hS
      split at h
      · rename_i hcond
        simp only [Bool.and_eq_true] at hcond
        obtain ⟨⟨hn, hdl⟩, hedges⟩ := hcond
        split at h
        · rename_i res effs hev
          injection h with h
          subst h
          refine wp_region_any hm ?_
          have hR0 := hR.drew (W' := c.W.drew) ⟨rfl, rfl, rfl, Nat.le_refl _, fun _ _ => rfl⟩
          obtain ⟨R, hRdef⟩ : ∃ R : Reg, R = { st := st, cl := closures ops.toList [], W := writers ops.toList 0, S := S } := ⟨_, rfl⟩
          rw [← hRdef] at hev
          obtain ⟨_, _, hlen, hF⟩ := evDraw_found ops.toList 0 [] [] [] [] [] res effs hev rfl rfl (fun k p hk => by cases hk) (fun k hk => by cases hk) (fun j k hj => by omega)
          have hlen' : effs.length = ops.toList.length := by rw [hlen, Nat.zero_add]
          have hF' : ∀ (j : Nat) (o : Oper), ops.toList[j]? = some o → ∃ res1 md tk cn v e, Found P T call ops R res effs j o res1 md tk cn v e := fun j o hj => by
            have := hF j o hj
            rw [Nat.zero_add] at this
            exact this
          have hst : R.st = st := by rw [hRdef]
          have hWd : R.W = writers ops.toList 0 := by rw [hRdef]
          have hn' : nodup R.W = true := by rw [hWd]; exact hn
          have hdl' : R.W.all (fun p => decide (p.1 < R.st.tmps.length)) = true := by rw [hWd, hst]; exact hdl
          have hlook : ∀ (W : List (Nat × Nat)) (d j : Nat) (n : Nat), W.all (fun p => decide (p.1 < n)) = true → lookup W d = some j → d < n := by
            intro W d j n
            induction W with
            | nil => intro _ h; cases h
            | cons p r ih =>
              intro h1 h2
              simp only [List.all_cons, Bool.and_eq_true, decide_eq_true_eq] at h1
              simp only [lookup] at h2
              split at h2
              · rename_i hh; rw [← hh]; exact h1.1
              · exact ih h1.2 h2
          let I : Array Bool → Act → World → Prop := fun listed a' w' => listed.size = ops.size ∧ ∃ c', c'.W = w' ∧ DRel W0 ok0 R ops.toList res effs (fun i => listed.getD i false) a' c'
          have hready : ∀ (listed : Array Bool) (i : Nat), listed.size = ops.size → (i ∈ Region.ready .any ops listed ↔ i < ops.size ∧ listed.getD i false = false ∧ ∃ o, ops.toList[i]? = some o ∧ ∀ e ∈ o.after.toList, Region.binds .any e = true → listed.getD e.on false = true) := by
            intro listed i hsz
            unfold Region.ready
            simp only [List.mem_filter, List.mem_range, Bool.and_eq_true, Bool.not_eq_true']
            constructor
            · rintro ⟨h1, h2, h3⟩
              have hg : ops[i]? = some ops[i] := Array.getElem?_eq_getElem h1
              rw [hg] at h3
              simp only [Option.map_some, Option.getD_some] at h3
              refine ⟨h1, ?_, ops[i], by simp [h1], fun e he hb => ?_⟩
              · have : i < listed.size := by omega
                simpa [Array.getD, this] using h2
              · have := (Array.all_eq_true_iff_forall_mem.1 h3) e (by simpa using he)
                simpa [hb] using this
            · rintro ⟨h1, h2, o, h3, h4⟩
              have hg : ops[i]? = some o := by rw [← Array.getElem?_toList]; exact h3
              refine ⟨h1, ?_, ?_⟩
              · have : i < listed.size := by omega
                simpa [Array.getD, this] using h2
              · rw [hg]
                simp only [Option.map_some, Option.getD_some]
                refine Array.all_eq_true_iff_forall_mem.2 (fun e he => ?_)
                cases hb : Region.binds .any e with
                | false => rfl
                | true => simpa using h4 e (by simpa using he) hb
          refine wpAny_inv I (fun _ _ _ h => h.1) ?_ ?_ ops.size _ a _ (by simp) ?_
          · rintro listed a' w' ⟨hsz, c', rfl, hD⟩ i hi
            obtain ⟨h1, h2, o, h3, h4⟩ := (hready listed i hsz).1 hi
            refine DRel.step hT hcall hI h0 rfl (by rw [hRdef]) hWd hn' (fun d j hw => hlook R.W d j _ hdl' hw) hlen' hF' hD h3 h2 h4 (fun a2 c2 hD2 => ?_)
            refine ⟨by simpa using hsz, c2, rfl, ?_⟩
            have : (fun j => (listed.setIfInBounds i true).getD j false) = more (fun i => listed.getD i false) i := by
              funext j
              simp only [Array.getD_eq_getD_getElem?, Array.getElem?_setIfInBounds, more]
              by_cases hji : j = i
              · subst hji
                have : j < listed.size := by omega
                simp [this]
              · rw [if_neg (fun e => hji e.symm)]
                simp [hji]
            rw [this]
            exact hD2
          · rintro listed a' w' ⟨hsz, c', rfl, hD⟩ hempty
            have hall : ∀ i, i < ops.toList.length → listed.getD i false = true := by
              intro i
              induction i using Nat.strongRecOn with
              | _ i ih =>
                intro hi
                cases hb : listed.getD i false with
                | true => rfl
                | false =>
                  exfalso
                  have ho := List.getElem?_eq_getElem hi
                  have : i ∈ Region.ready .any ops listed := (hready listed i hsz).2 ⟨by simpa using hi, hb, _, ho, fun e he hbe => by
                    have hlt := edgesOk_get ops.toList 0 hedges i _ ho e he hbe
                    rw [Nat.zero_add] at hlt
                    exact ih e.on hlt (by omega)⟩
                  rw [hempty] at this
                  cases this
            have hfin := DRel.finish hn' hdl' (fun t j hw => by
              rw [hWd] at hw
              obtain ⟨o', _, h2, _⟩ := writers_get ops.toList 0 t j hw
              rw [Nat.sub_zero] at h2
              exact (List.getElem?_eq_some_iff.1 h2).1) hlen' hF' (by rw [hst]; exact hR.keys) (by rw [hst]; exact hR.livelt) hD hall (fun i hi => by
              have : i < listed.size := by
                rcases Nat.lt_or_ge i listed.size with h | h
                · exact h
                · simp [Array.getD, Nat.not_lt.2 h] at hi
              simpa [hsz] using this)
            rw [hst, hWd] at hfin
            exact hQ a' c' hfin
          · refine ⟨by simp, _, rfl, hR0.base, ?_, ?_, ?_, hR0.defers, by rw [hst]; exact hR0.len, fun t ht => .inl (by rw [hst]; exact hR0.iss t ht), ?_⟩
            · intro k e cs hk
              have hD0 : ∀ i, (Array.replicate ops.size false).getD i false = false := by intro i; simp [Array.getD]
              unfold bxD at hk
              cases hb : baseD R effs (fun i => (Array.replicate ops.size false).getD i false) k with
              | none => rw [hb] at hk; cases hk
              | some p =>
                rw [hb] at hk
                simp only [Option.map_some] at hk
                injection hk with hk
                have h1 : lookup st.boxes k = some p := by
                  unfold baseD at hb
                  split at hb
                  · split at hb
                    · simp [hD0] at hb
                    · cases hb
                  · rw [← hst]; exact hb
                have h2 : storeD R effs (fun i => (Array.replicate ops.size false).getD i false) k p = p := by
                  unfold storeD
                  split
                  · simp [hD0]
                  · rfl
                rw [h2] at hk
                rw [hk] at h1
                exact hR0.box k e cs h1
            · rintro k ⟨h1, _⟩
              rcases h1 with h1 | ⟨_, h2, _⟩
              · exact hR0.live k (by rw [← hst]; exact h1)
              · simp [Array.getD] at h2
            · intro t
              have := hR0.tm t
              unfold tmD
              rw [hst]
              split
              · have hD0 : ∀ i, (Array.replicate ops.size false).getD i false = false := by intro i; simp [Array.getD]
                simp only [hD0, Bool.false_eq_true, if_false]
                exact this
              · exact this
            · intro i o ho hD
              simp [Array.getD] at hD
        · cases h
      · cases h
    · cases h
end
end Go.Proofs.YtmehknlijcbphaaGreatDoor.Ev
