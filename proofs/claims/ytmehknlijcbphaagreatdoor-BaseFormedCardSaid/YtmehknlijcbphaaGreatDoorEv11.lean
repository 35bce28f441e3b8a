/- Operations whose order is open; no condition. -/
import Derived.Test.YtmehknlijcbphaaGreatDoorEv10
namespace Go.Proofs.YtmehknlijcbphaaGreatDoor.Ev
open Go Go.RowKit

/-! What the order leaves open -/

/-- The operations that D tells of are done; with each, all that it waits for. -/
def Closed (l : List Oper) (D : Nat → Bool) : Prop := ∀ (i : Nat) (o : Oper), l[i]? = some o → D i = true → ∀ e ∈ o.after.toList, Region.binds .any e = true → D e.on = true

theorem foldl_or (acc : List Nat) : ∀ (es : List Edge) (m j : Nat), (es.foldl (fun m e => if Region.binds .any e then m ||| (2 ^ e.on ||| acc.getD e.on 0) else m) m).testBit j = true →
    m.testBit j = true ∨ ∃ e ∈ es, Region.binds .any e = true ∧ (j = e.on ∨ (acc.getD e.on 0).testBit j = true)
  | [], m, j, h => .inl h
  | e :: es, m, j, h => by
    simp only [List.foldl_cons] at h
    rcases foldl_or acc es _ j h with h | ⟨e', h1, h2, h3⟩
    · by_cases hb : Region.binds .any e = true
      · rw [if_pos hb, Nat.testBit_or, Nat.testBit_or, Bool.or_eq_true, Bool.or_eq_true] at h
        rcases h with h | h | h
        · exact .inl h
        · rw [Nat.testBit_two_pow] at h
          have h5 : e.on = j := by simpa using h
          exact .inr ⟨e, by simp, hb, .inl h5.symm⟩
        · exact .inr ⟨e, by simp, hb, .inr h⟩
      · rw [if_neg hb] at h
        exact .inl h
    · exact .inr ⟨e', by simp [h1], h2, h3⟩

theorem closures_get : ∀ (l : List Oper) (acc : List Nat) (i : Nat), (closures l acc)[i]? = if i < acc.length then acc[i]? else match l[i - acc.length]? with
    | some o => some (o.after.toList.foldl (fun m e => if Region.binds .any e then m ||| (2 ^ e.on ||| ((closures l acc).take i).getD e.on 0) else m) 0)
    | none => none
  | [], acc, i => by
    simp only [closures]
    by_cases h : i < acc.length
    · rw [if_pos h]
    · rw [if_neg h]; simp; omega
  | o :: r, acc, i => by
    have ih := closures_get r (acc ++ [o.after.toList.foldl (fun m e => if Region.binds .any e then m ||| (2 ^ e.on ||| acc.getD e.on 0) else m) 0]) i
    simp only [closures]
    rw [ih]
    have htake : ∀ (l : List Oper) (a : List Nat), (closures l a).take a.length = a := by
      intro l
      induction l with
      | nil => intro a; simp [closures]
      | cons x r ih =>
        intro a
        simp only [closures]
        have := ih (a ++ [x.after.toList.foldl (fun m e => if Region.binds .any e then m ||| (2 ^ e.on ||| a.getD e.on 0) else m) 0])
        have h2 := congrArg (List.take a.length) this
        rw [List.take_take] at h2
        simpa using h2
    rcases Nat.lt_trichotomy i acc.length with h | h | h
    · rw [if_pos (by simp; omega), if_pos h, List.getElem?_append_left h]
    · subst h
      rw [if_pos (by simp), if_neg (by omega)]
      simp only [Nat.sub_self, List.getElem?_cons_zero]
      have := htake r (acc ++ [o.after.toList.foldl (fun m e => if Region.binds .any e then m ||| (2 ^ e.on ||| acc.getD e.on 0) else m) 0])
      have h2 := congrArg (List.take acc.length) this
      rw [List.take_take] at h2
      have h3 : (closures r (acc ++ [o.after.toList.foldl (fun m e => if Region.binds .any e then m ||| (2 ^ e.on ||| acc.getD e.on 0) else m) 0])).take acc.length = acc := by simpa using h2
      rw [h3]
      simp
    · rw [if_neg (by simp; omega), if_neg (by omega)]
      have : i - acc.length = (i - (acc.length + 1)) + 1 := by omega
      rw [List.length_append, List.length_singleton, this, List.getElem?_cons_succ]

/-- What comes ahead of an operation that may run now is done. -/
theorem ahead_done [Syms] {l : List Oper} {D : Nat → Bool} (hc : Closed l D) : ∀ (i : Nat) (o : Oper), l[i]? = some o → (∀ e ∈ o.after.toList, Region.binds .any e = true → D e.on = true) → ∀ j, ((closures l []).getD i 0).testBit j = true → D j = true := by
  intro i
  induction i using Nat.strongRecOn with
  | _ i ih =>
    intro o ho hed j hj
    have hg := closures_get l [] i
    simp only [List.length_nil, Nat.not_lt_zero, if_false, Nat.sub_zero, ho] at hg
    rw [List.getD_eq_getElem?_getD, hg] at hj
    simp only [Option.getD_some] at hj
    rcases foldl_or _ _ _ j hj with h | ⟨e, h1, h2, h3⟩
    · simp at h
    · have hD := hed e h1 h2
      rcases h3 with rfl | h3
      · exact hD
      · by_cases hlt : e.on < i
        · have he : ((closures l []).take i).getD e.on 0 = (closures l []).getD e.on 0 := by
            simp only [List.getD_eq_getElem?_getD, List.getElem?_take, hlt, if_true]
          rw [he] at h3
          cases ho2 : l[e.on]? with
          | none =>
            have hg2 := closures_get l [] e.on
            simp only [List.length_nil, Nat.not_lt_zero, if_false, Nat.sub_zero, ho2] at hg2
            rw [List.getD_eq_getElem?_getD, hg2] at h3
            simp at h3
          | some o2 => exact ih e.on hlt o2 ho2 (hc e.on o2 ho2 hD) j h3
        · have he : ((closures l []).take i).getD e.on 0 = 0 := by
            simp only [List.getD_eq_getElem?_getD, List.getElem?_take, hlt, if_false]
            rfl
          rw [he] at h3
          simp at h3

theorem writers_get : ∀ (l : List Oper) (i t j : Nat), lookup (writers l i) t = some j → ∃ o, i ≤ j ∧ l[j - i]? = some o ∧ o.dst = some t
  | [], _, _, _, h => by simp [writers, lookup] at h
  | o :: r, i, t, j, h => by
    simp only [writers] at h
    cases hd : o.dst with
    | none =>
      rw [hd] at h
      obtain ⟨o', h1, h2, h3⟩ := writers_get r (i + 1) t j h
      refine ⟨o', by omega, ?_, h3⟩
      rw [show j - i = (j - (i + 1)) + 1 by omega, List.getElem?_cons_succ]
      exact h2
    | some d =>
      rw [hd] at h
      simp only [lookup] at h
      split at h
      · rename_i he
        injection h with h
        subst h
        subst he
        exact ⟨o, Nat.le_refl _, by simp, hd⟩
      · obtain ⟨o', h1, h2, h3⟩ := writers_get r (i + 1) t j h
        refine ⟨o', by omega, ?_, h3⟩
        rw [show j - i = (j - (i + 1)) + 1 by omega, List.getElem?_cons_succ]
        exact h2
theorem writers_of : ∀ (l : List Oper) (i : Nat), nodup (writers l i) = true → ∀ (j : Nat) (o : Oper) (d : Nat), l[j]? = some o → o.dst = some d → lookup (writers l i) d = some (i + j)
  | [], _, _, _, _, _, h, _ => by simp at h
  | x :: r, i, hn, 0, o, d, h, hd => by
    simp only [List.getElem?_cons_zero] at h
    injection h with h
    subst h
    simp [writers, hd, lookup]
  | x :: r, i, hn, j + 1, o, d, h, hd => by
    simp only [List.getElem?_cons_succ] at h
    simp only [writers] at hn ⊢
    cases hx : x.dst with
    | none =>
      rw [hx] at hn
      have := writers_of r (i + 1) hn j o d h hd
      rw [show i + (j + 1) = i + 1 + j by omega]
      exact this
    | some d' =>
      rw [hx] at hn
      simp only [nodup, Bool.and_eq_true] at hn
      have := writers_of r (i + 1) hn.2 j o d h hd
      simp only [lookup]
      split
      · rename_i he
        subst he
        rw [this] at hn
        simp at hn
      · rw [show i + (j + 1) = i + 1 + j by omega]
        exact this
end Go.Proofs.YtmehknlijcbphaaGreatDoor.Ev
