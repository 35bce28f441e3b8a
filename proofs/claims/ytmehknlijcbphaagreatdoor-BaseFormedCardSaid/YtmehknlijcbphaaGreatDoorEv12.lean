/- A region whose order is open leaves what the evaluator tells; no condition. -/
import Derived.Test.YtmehknlijcbphaaGreatDoorEv11
namespace Go.Proofs.YtmehknlijcbphaaGreatDoor.Ev
open Go Go.RowKit

theorem wpAny_inv {P : Program} {md : Region.Mode} {ops : Array Oper} {Q : Exit → Act → World → Prop} (I : Array Bool → Act → World → Prop)
    (hsize : ∀ listed a w, I listed a w → listed.size = ops.size)
    (hstep : ∀ listed a w, I listed a w → ∀ i ∈ Region.ready md ops listed, wpOp P ops Q i (fun a' w' => I (listed.setIfInBounds i true) a' w') a w)
    (hend : ∀ listed a w, I listed a w → Region.ready md ops listed = [] → Q .normal a w) :
    ∀ (fuel : Nat) (listed : Array Bool) (a : Act) (w : World), (listed.toList.filter (! ·)).length ≤ fuel → I listed a w → wpAny P md ops Q fuel listed a w
  | 0, listed, a, w, hf, hI => by
    have hall : ∀ i, i < ops.size → listed.getD i true = true := by
      intro i hi
      have hs := hsize _ _ _ hI
      have h0 : listed.toList.filter (! ·) = [] := List.eq_nil_of_length_eq_zero (by omega)
      have h1 : i < listed.size := by omega
      cases hb : listed[i] with
      | true => simp [Array.getD, h1, hb]
      | false =>
        have : listed[i] ∈ listed.toList.filter (! ·) := List.mem_filter.2 ⟨by simp, by rw [hb]; rfl⟩
        rw [h0] at this
        cases this
    have hr : Region.ready md ops listed = [] := by
      unfold Region.ready
      rw [List.filter_eq_nil_iff]
      intro i hi
      simp only [List.mem_range] at hi
      rw [hall i hi]
      simp
    exact ⟨hr, hend _ _ _ hI hr⟩
  | fuel + 1, listed, a, w, hf, hI => by
    refine ⟨hend _ _ _ hI, fun i hi => ?_⟩
    refine wpOp_mono ?_ (hstep _ _ _ hI i hi)
    intro a' w' h'
    refine wpAny_inv I hsize hstep hend fuel _ a' w' ?_ h'
    have hi' : i < ops.size ∧ listed.getD i true = false := by
      unfold Region.ready at hi
      simp only [List.mem_filter, List.mem_range, Bool.and_eq_true, Bool.not_eq_true'] at hi
      exact ⟨hi.1, hi.2.1⟩
    have h1 : i < listed.size := by have := hsize _ _ _ hI; omega
    have hfalse : listed.toList[i]? = some false := by
      have := hi'.2
      simp [Array.getD, h1] at this
      simp [h1, this]
    have go : ∀ (l : List Bool) (i : Nat), l[i]? = some false → ((l.set i true).filter (! ·)).length + 1 = (l.filter (! ·)).length := by
      intro l
      induction l with
      | nil => intro i h; simp at h
      | cons b r ih =>
        intro i h
        cases i with
        | zero =>
          simp at h
          subst h
          simp
        | succ i =>
          have := ih i (by simpa using h)
          cases b <;> simp <;> omega
    have := go _ _ hfalse
    have e : (listed.setIfInBounds i true).toList = listed.toList.set i true := by simp
    rw [e]
    omega

/-! What is there when the operations of D are done -/
section
variable (R : Reg) (res : List AV) (effs : List Eff) (D : Nat → Bool)
def tmD (t : Nat) : AV := match lookup R.W t with
  | some j => if D j then getAt res j else getAt R.st.tmps t
  | none => getAt R.st.tmps t
def baseD (k : Nat) : Option (TypeId × List AV) :=
  if R.st.nid ≤ k then (match effs[k - R.st.nid]? with
    | some (.box e cs) => if D (k - R.st.nid) then some (e, cs) else none
    | _ => none)
  else lookup R.st.boxes k
def storeD (k : Nat) (p : TypeId × List AV) : TypeId × List AV := match lookup R.S k with
  | some s => if D s then (match effs[s]? with
    | some (.store k' cs) => if k' = k then (p.1, cs) else p
    | _ => p) else p
  | none => p
def bxD (k : Nat) : Option (TypeId × List AV) := (baseD R effs D k).map (storeD R effs D k)
def isTok : Option Eff → Bool
  | some (.tok _) => true
  | _ => false
def eats (k : Nat) : Option Eff → Bool
  | some (.tok (some j)) => decide (j = k)
  | _ => false
def LvD (k : Nat) : Prop := (R.st.live.elem k = true ∨ (R.st.nid ≤ k ∧ D (k - R.st.nid) = true ∧ isTok effs[k - R.st.nid]? = true)) ∧ ∀ i, D i = true → eats k effs[i]? = false
end

/-- What the evaluator has found of each operation. -/
structure Found (P : Program) (T : Tab) (call : FuncId → List AV → Option AV) (ops : Array Oper) (R : Reg) (res : List AV) (effs : List Eff) (i : Nat) (o : Oper) (res' : List AV) (md : List (Nat × TypeId × List AV)) (tk cn : List Nat) (v : AV) (e : Eff) : Prop where
  step : evStep P T call ops (drawEnv R i res' md tk cn) o = some (v, e)
  val : getAt res i = v
  eff : effs[i]? = some e
  pre : ∀ j, j < i → getAt res' j = getAt res j
  made : ∀ k p, lookup md k = some p → ∃ j, j < i ∧ k = R.st.nid + j ∧ effs[j]? = some (.box p.1 p.2)
  toks : ∀ k, tk.elem k = true → ∃ j, j < i ∧ k = R.st.nid + j ∧ isTok effs[j]? = true
  cons : ∀ j k, j < i → eats k effs[j]? = true → cn.elem k = true
  eat : ∀ k, e = .tok (some k) → (drawEnv R i res' md tk cn).lv k = true
  store : ∀ k cs, e = .store k cs → lookup R.S k = some i ∧ ((drawEnv R i res' md tk cn).bx k).isSome = true

theorem elem_cons' {k x : Nat} {l : List Nat} : (List.elem k (x :: l) = true) ↔ k = x ∨ List.elem k l = true := by simp
theorem getAt_append_lt : ∀ (l r : List AV) (j : Nat), j < l.length → getAt (l ++ r) j = getAt l j
  | [], _, _, h => by simp at h
  | x :: l, r, 0, _ => rfl
  | x :: l, r, j + 1, h => by
    simp only [List.cons_append, getAt]
    exact getAt_append_lt l r j (by simpa using h)
theorem getAt_append_len : ∀ (l : List AV) (v : AV) (r : List AV), getAt (l ++ v :: r) l.length = v
  | [], _, _ => rfl
  | x :: l, v, r => by
    simp only [List.cons_append, List.length_cons, getAt]
    exact getAt_append_len l v r

theorem evDraw_found [Syms] {P : Program} {T : Tab} {call : FuncId → List AV → Option AV} {ops : Array Oper} {R : Reg} : ∀ (r : List Oper) (i : Nat) (res : List AV) (effs : List Eff) (made : List (Nat × TypeId × List AV)) (toks cons : List Nat) (res' : List AV) (effs' : List Eff),
    evDraw P T call ops R r i res effs made toks cons = some (res', effs') → res.length = i → effs.length = i →
    (∀ k p, lookup made k = some p → ∃ j, j < i ∧ k = R.st.nid + j ∧ effs[j]? = some (.box p.1 p.2)) → (∀ k, toks.elem k = true → ∃ j, j < i ∧ k = R.st.nid + j ∧ isTok effs[j]? = true) → (∀ j k, j < i → eats k effs[j]? = true → cons.elem k = true) →
    (∃ x, res' = res ++ x) ∧ (∃ y, effs' = effs ++ y) ∧ effs'.length = i + r.length ∧
      ∀ (j : Nat) (o : Oper), r[j]? = some o → ∃ res1 made1 toks1 cons1 v e, Found P T call ops R res' effs' (i + j) o res1 made1 toks1 cons1 v e
  | [], i, res, effs, made, toks, cons, res', effs', h, hl1, hl2, hm, ht, hc => by
    simp only [evDraw] at h
    injection h with h
    injection h with h1 h2
    subst h1
    subst h2
    exact ⟨⟨[], by simp⟩, ⟨[], by simp⟩, by simpa using hl2, fun j o hj => by simp at hj⟩
  | o :: r, i, res, effs, made, toks, cons, res', effs', h, hl1, hl2, hm, ht, hc => by
    have key : ∀ (v : AV) (e : Eff) (made' : List (Nat × TypeId × List AV)) (toks' cons' : List Nat), evStep P T call ops (drawEnv R i res made toks cons) o = some (v, e) →
        evDraw P T call ops R r (i + 1) (res ++ [v]) (effs ++ [e]) made' toks' cons' = some (res', effs') →
        (∀ k p, lookup made' k = some p → lookup made k = some p ∨ (k = R.st.nid + i ∧ e = .box p.1 p.2)) → (∀ k, toks'.elem k = true → toks.elem k = true ∨ (k = R.st.nid + i ∧ isTok (some e) = true)) → (∀ k, cons.elem k = true → cons'.elem k = true) → (∀ k, eats k (some e) = true → cons'.elem k = true) →
        (∀ k, e = .tok (some k) → (drawEnv R i res made toks cons).lv k = true) → (∀ k cs, e = .store k cs → lookup R.S k = some i ∧ ((drawEnv R i res made toks cons).bx k).isSome = true) →
        (∃ x, res' = res ++ x) ∧ (∃ y, effs' = effs ++ y) ∧ effs'.length = i + (o :: r).length ∧
          ∀ (j : Nat) (o' : Oper), (o :: r)[j]? = some o' → ∃ res1 made1 toks1 cons1 v e, Found P T call ops R res' effs' (i + j) o' res1 made1 toks1 cons1 v e := by
      intro v e made' toks' cons' hs hd hm' ht' hcc hce heat hst
      have hget : ∀ j, j < i → (effs ++ [e])[j]? = effs[j]? := fun j hj => List.getElem?_append_left (by omega)
      have hgi : (effs ++ [e])[i]? = some e := by rw [← hl2]; simp
      obtain ⟨⟨x, hx⟩, ⟨y, hy⟩, hlen, hall⟩ := evDraw_found r (i + 1) _ _ made' toks' cons' res' effs' hd (by simp [hl1]) (by simp [hl2])
        (fun k p hk => by
          rcases hm' k p hk with h | ⟨h1, h2⟩
          · obtain ⟨j, h1, h2, h3⟩ := hm k p h
            exact ⟨j, by omega, h2, by rw [hget j h1]; exact h3⟩
          · exact ⟨i, by omega, h1, by rw [hgi, h2]⟩)
        (fun k hk => by
          rcases ht' k hk with h | ⟨h1, h2⟩
          · obtain ⟨j, h1, h2, h3⟩ := ht k h
            exact ⟨j, by omega, h2, by rw [hget j h1]; exact h3⟩
          · exact ⟨i, by omega, h1, by rw [hgi]; exact h2⟩)
        (fun j k hj he => by
          by_cases hji : j < i
          · rw [hget j hji] at he
            exact hcc k (hc j k hji he)
          · have : j = i := by omega
            subst this
            rw [hgi] at he
            exact hce k he)
      refine ⟨⟨v :: x, by rw [hx]; simp⟩, ⟨e :: y, by rw [hy]; simp⟩, by rw [hlen]; simp; omega, fun j o' hj => ?_⟩
      cases j with
      | zero =>
        simp only [List.getElem?_cons_zero] at hj
        injection hj with hj
        subst hj
        have heffs : ∀ j, j < i → effs'[j]? = effs[j]? := fun j hj => by
          rw [hy, List.append_assoc, List.getElem?_append_left (by omega)]
        refine ⟨res, made, toks, cons, v, e, ⟨hs, ?_, ?_, ?_, ?_, ?_, ?_, heat, hst⟩⟩
        · rw [hx, List.append_assoc, Nat.add_zero, ← hl1]
          exact getAt_append_len res v x
        · rw [hy, List.append_assoc, Nat.add_zero, ← hl2]
          simp
        · intro j hj
          rw [hx, List.append_assoc, getAt_append_lt _ _ _ (by omega)]
        · intro k p hk
          obtain ⟨j, h1, h2, h3⟩ := hm k p hk
          exact ⟨j, by omega, h2, by rw [heffs j h1]; exact h3⟩
        · intro k hk
          obtain ⟨j, h1, h2, h3⟩ := ht k hk
          exact ⟨j, by omega, h2, by rw [heffs j h1]; exact h3⟩
        · intro j k hj he
          rw [heffs j (by omega)] at he
          exact hc j k (by omega) he
      | succ j =>
        have := hall j o' (by simpa using hj)
        rw [show i + 1 + j = i + (j + 1) by omega] at this
        exact this
    simp only [evDraw] at h
    split at h
    · rename_i v hs
      exact key v .none made toks cons hs h (fun k p hk => .inl hk) (fun k hk => .inl hk) (fun k hk => hk) (fun k hk => by simp [eats] at hk) (fun k hk => by cases hk) (fun k cs hk => by cases hk)
    · rename_i v e cs hs
      refine key v (.box e cs) _ toks cons hs h (fun k p hk => ?_) (fun k hk => .inl hk) (fun k hk => hk) (fun k hk => by simp [eats] at hk) (fun k hk => by cases hk) (fun k cs hk => by cases hk)
      simp only [lookup] at hk
      split at hk
      · rename_i he
        injection hk with hk
        subst hk
        exact .inr ⟨he.symm, rfl⟩
      · exact .inl hk
    · rename_i v hs
      refine key v (.tok none) made _ cons hs h (fun k p hk => .inl hk) (fun k hk => ?_) (fun k hk => hk) (fun k hk => by simp [eats] at hk) (fun k hk => by cases hk) (fun k cs hk => by cases hk)
      rcases elem_cons'.1 hk with hk | hk
      · exact .inr ⟨hk, rfl⟩
      · exact .inl hk
    · rename_i v k0 hs
      split at h
      · rename_i hlv
        refine key v (.tok (some k0)) made _ _ hs h (fun k p hk => .inl hk) (fun k hk => ?_) (fun k hk => ?_) (fun k hk => ?_) (fun k hk => ?_) (fun k cs hk => by cases hk)
        · rcases elem_cons'.1 hk with hk | hk
          · exact .inr ⟨hk, rfl⟩
          · exact .inl hk
        · exact elem_cons'.2 (.inr hk)
        · simp only [eats, decide_eq_true_eq] at hk
          exact elem_cons'.2 (.inl hk.symm)
        · injection hk with hk
          injection hk with hk
          subst hk
          exact hlv
      · cases h
    · rename_i v k0 cs0 hs
      split at h
      · rename_i hst
        refine key v (.store k0 cs0) made toks cons hs h (fun k p hk => .inl hk) (fun k hk => .inl hk) (fun k hk => hk) (fun k hk => by simp [eats] at hk) (fun k hk => by cases hk) (fun k cs hk => ?_)
        injection hk with h1 h2
        subst h1
        exact hst
      · cases h
    · cases h
end Go.Proofs.YtmehknlijcbphaaGreatDoor.Ev
