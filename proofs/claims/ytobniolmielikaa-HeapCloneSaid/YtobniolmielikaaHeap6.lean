/- Lists of keys and values whose order is free; no condition. -/
import Derived.Test.YtobniolmielikaaHeap3
namespace Go.Proofs.Ytobniolmielikaa
open Go.RowKit

section lists
variable {β : Type}

theorem nodup_val {l : List (Int × β)} (h : (l.map (·.1)).Nodup) {k : Int} {v v' : β} (h1 : (k, v) ∈ l) (h2 : (k, v') ∈ l) : v = v' := by
  induction l with
  | nil => cases h1
  | cons p r ih =>
    rw [List.map_cons, List.nodup_cons] at h
    rcases List.mem_cons.1 h1 with h1 | h1 <;> rcases List.mem_cons.1 h2 with h2 | h2
    · exact (Prod.mk.inj (h1.trans h2.symm)).2
    · exact absurd (List.mem_map_of_mem (f := (·.1)) h2) (by rw [← h1] at h; exact h.1)
    · exact absurd (List.mem_map_of_mem (f := (·.1)) h1) (by rw [← h2] at h; exact h.1)
    · exact ih h.2 h1 h2
theorem ix_mem {l : List (Int × β)} (h : (l.map (·.1)).Nodup) {k : Int} {v : β} (h1 : (k, v) ∈ l) : ∃ i, ix l k = some (i, v) ∧ l[i]? = some (k, v) := by
  cases he : ix l k with
  | none => exact absurd (List.mem_map_of_mem (f := (·.1)) h1) (ix_none.1 he)
  | some q =>
    obtain ⟨i, v'⟩ := q
    have h2 := ix_get he
    have := nodup_val h h1 (List.mem_of_getElem? h2)
    subst this
    exact ⟨i, rfl, h2⟩
theorem get_mem {l : List (Int × β)} (h : (l.map (·.1)).Nodup) {k : Int} {v : β} : get l k = some v ↔ (k, v) ∈ l := by
  constructor
  · intro h1
    unfold get at h1
    obtain ⟨⟨i, v'⟩, h2, rfl⟩ := Option.map_eq_some_iff.1 h1
    exact List.mem_of_getElem? (ix_get h2)
  · intro h1
    obtain ⟨i, h2, _⟩ := ix_mem h h1
    simp [get, h2]
theorem get_perm {l m : List (Int × β)} (hp : l.Perm m) (h : (l.map (·.1)).Nodup) (k : Int) : get l k = get m k := by
  have h' : (m.map (·.1)).Nodup := (hp.map _).nodup_iff.1 h
  cases h1 : get l k with
  | none =>
    refine (get_none.2 fun h2 => ?_).symm
    exact get_none.1 h1 ((hp.map (·.1)).mem_iff.2 h2)
  | some v =>
    exact ((get_mem h').2 (hp.mem_iff.1 ((get_mem h).1 h1))).symm
theorem perm_erase : ∀ (l : List (Int × β)) (i : Nat) (x : Int × β), l[i]? = some x → (x :: l.eraseIdx i).Perm l
  | [], i, x, h => by simp at h
  | y :: l, 0, x, h => by simp at h; subst h; simp
  | y :: l, i + 1, x, h => by
    have ih := perm_erase l i x (by simpa using h)
    rw [List.eraseIdx_cons_succ]
    exact (List.Perm.swap y x _).trans (ih.cons y)
theorem del_perm {l todo : List (Int × β)} (hp : l.Perm todo) (h : (l.map (·.1)).Nodup) {j : Nat} {x : Int} {v : β} (hj : todo[j]? = some (x, v)) : (del l x).Perm (todo.eraseIdx j) := by
  have hm : (x, v) ∈ l := hp.mem_iff.2 (List.mem_of_getElem? hj)
  obtain ⟨i, h1, h2⟩ := ix_mem h hm
  have e : del l x = l.eraseIdx i := by simp [del, h1]
  rw [e]
  exact List.Perm.cons_inv ((perm_erase l i _ h2).trans (hp.trans (perm_erase todo j _ hj).symm))
theorem erase_key {todo : List (Int × β)} (h : (todo.map (·.1)).Nodup) {j : Nat} {x : Int} {v : β} (hj : todo[j]? = some (x, v)) : x ∉ (todo.eraseIdx j).map (·.1) := by
  have hp := (perm_erase todo j _ hj).map (·.1)
  have := hp.nodup_iff.2 h
  rw [List.map_cons, List.nodup_cons] at this
  exact this.1
theorem put_new {l : List (Int × β)} {k : Int} (h : k ∉ l.map (·.1)) (v : β) : put l k v = l ++ [(k, v)] := by
  have := ix_none.2 h
  simp [put, this]
theorem put_map {l : List (Int × β)} (h : (l.map (·.1)).Nodup) {k : Int} (hk : k ∈ l.map (·.1)) (v : β) : put l k v = l.map fun p => if p.1 = k then (k, v) else p := by
  obtain ⟨⟨k', v0⟩, h0, rfl⟩ := List.mem_map.1 hk
  obtain ⟨i, h1, h2⟩ := ix_mem h h0
  have e : put l k' v = l.set i (k', v) := by simp [put, h1]
  dsimp only
  rw [e]
  refine List.ext_getElem? fun j => ?_
  rw [List.getElem?_map, List.getElem?_set]
  by_cases hj : i = j
  · subst hj
    have := (List.getElem?_eq_some_iff.1 h2).1
    rw [if_pos rfl, if_pos this, h2]
    simp
  · rw [if_neg hj]
    cases h3 : l[j]? with
    | none => rfl
    | some p =>
      have hne : p.1 ≠ k' := by
        intro e'
        have hi := (List.getElem?_eq_some_iff.1 h2).1
        have hj' := (List.getElem?_eq_some_iff.1 h3).1
        have a1 := (List.getElem?_eq_some_iff.1 h2).2
        have a2 := (List.getElem?_eq_some_iff.1 h3).2
        have hp := List.pairwise_iff_getElem.1 h
        rcases Nat.lt_or_gt_of_ne hj with hl | hl
        · exact hp i j (by simpa using hi) (by simpa using hj') hl (by simp [a1, a2, e'])
        · exact hp j i (by simpa using hj') (by simpa using hi) hl (by simp [a1, a2, e'])
      simp [hne]
theorem put_perm {l m : List (Int × β)} (hp : l.Perm m) (h : (l.map (·.1)).Nodup) (k : Int) (v : β) : (put l k v).Perm (put m k v) := by
  have h' : (m.map (·.1)).Nodup := (hp.map _).nodup_iff.1 h
  by_cases hk : k ∈ l.map (·.1)
  · rw [put_map h hk, put_map h' ((hp.map (·.1)).mem_iff.1 hk)]
    exact hp.map _
  · rw [put_new hk, put_new (fun x => hk ((hp.map (·.1)).mem_iff.2 x))]
    exact hp.append_right _

/-- The number behind the greatest key. -/
def nxt (m : List (Int × β)) : Int := m.foldl (fun n p => max n (p.1 + 1)) 0
theorem nxt_snoc (m : List (Int × β)) (p : Int × β) : nxt (m ++ [p]) = max (nxt m) (p.1 + 1) := by simp [nxt]
theorem nxt_perm {l m : List (Int × β)} (hp : l.Perm m) : nxt l = nxt m := by
  unfold nxt
  refine hp.foldl_eq' (fun x _ y _ z => ?_) 0
  omega
theorem nxt_lt (m : List (Int × β)) : (∀ p ∈ m, p.1 < nxt m) ∧ 0 ≤ nxt m ∧ (∀ b : Int, 0 ≤ b → (∀ p ∈ m, p.1 < b) → nxt m ≤ b) := by
  have go : ∀ (m : List (Int × β)) (n : Int), n ≤ m.foldl (fun n p => max n (p.1 + 1)) n ∧ (∀ p ∈ m, p.1 < m.foldl (fun n p => max n (p.1 + 1)) n) ∧ (∀ b : Int, n ≤ b → (∀ p ∈ m, p.1 < b) → m.foldl (fun n p => max n (p.1 + 1)) n ≤ b) := by
    intro m
    induction m with
    | nil => intro n; exact ⟨Int.le_refl _, by simp, fun b h _ => h⟩
    | cons q r ih =>
      intro n
      obtain ⟨h1, h2, h3⟩ := ih (max n (q.1 + 1))
      refine ⟨?_, ?_, ?_⟩
      · simp only [List.foldl_cons]; omega
      · intro p hp
        rcases List.mem_cons.1 hp with rfl | hp
        · simp only [List.foldl_cons]; omega
        · exact h2 p hp
      · intro b hb hall
        have := hall q (List.mem_cons_self ..)
        exact h3 b (by omega) (fun p hp => hall p (List.mem_cons_of_mem _ hp))
  obtain ⟨h1, h2, h3⟩ := go m 0
  exact ⟨h2, h1, h3⟩
end lists
end Go.Proofs.Ytobniolmielikaa
