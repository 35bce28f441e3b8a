/- What an accepted sequence of events has; no condition but that it is accepted. -/
import Derived.Test.YtngdchahahabpaaCost17
namespace Go.Proofs.Ytngdchahahabpaa
open Go.RowKit

/-- The states behind an event. -/
def nx (xs : List Int) (e : Ev) : List Int := if e.op = 1 then xs ++ [0] else xs.set e.id.toNat (mv (xs.getD e.id.toNat 0) e.op).1
/-- One accepted event. -/
structure Ok1 (xs : List Int) (last : Int) (e : Ev) (i : Nat) : Prop where
  id : e.id = (i : Int)
  step : last ≤ e.step
  pos : 0 ≤ e.step
  op : e.op = 1 ∧ i = xs.length ∨ ∃ h : i < xs.length, (e.op = 2 ∧ xs[i] = 0 ∨ e.op = 3 ∧ xs[i] = 1 ∨ e.op = 4 ∧ xs[i] = 1 ∨ e.op = 5 ∧ xs[i] = 1 ∨ e.op = 6 ∧ xs[i] = 2 ∨ e.op = 7 ∧ xs[i] = 1)
theorem chk_cons {xs : List Int} {last : Int} {e : Ev} {r : List Ev} (h : chk xs last (e :: r) = 0) : ∃ i, Ok1 xs last e i ∧ chk (nx xs e) e.step r = 0 := by
  unfold chk at h
  by_cases c1 : e.op < 1 ∨ 7 < e.op ∨ e.step < 0
  · rw [if_pos c1] at h; omega
  rw [if_neg c1] at h
  by_cases c2 : e.step < last
  · rw [if_pos c2] at h; omega
  rw [if_neg c2] at h
  by_cases c3 : e.op = 1
  · rw [if_pos c3] at h
    by_cases c4 : e.id = xs.length
    · rw [if_pos c4] at h
      exact ⟨xs.length, ⟨c4, by omega, by omega, .inl ⟨c3, rfl⟩⟩, by rw [nx, if_pos c3]; exact h⟩
    · rw [if_neg c4] at h; omega
  rw [if_neg c3] at h
  by_cases c4 : e.id < 0 ∨ (xs.length : Int) ≤ e.id
  · rw [if_pos c4] at h; omega
  rw [if_neg c4] at h
  by_cases c5 : (mv (xs.getD e.id.toNat 0) e.op).2 = true
  · rw [if_pos c5] at h
    have hi : e.id.toNat < xs.length := by omega
    have hx : xs.getD e.id.toNat 0 = xs[e.id.toNat] := by simp [List.getD_eq_getElem?_getD, hi]
    refine ⟨e.id.toNat, ⟨by omega, by omega, by omega, .inr ⟨hi, ?_⟩⟩, by rw [nx, if_neg c3]; exact h⟩
    rw [hx] at c5
    have hop : e.op = 2 ∨ e.op = 3 ∨ e.op = 4 ∨ e.op = 5 ∨ e.op = 6 ∨ e.op = 7 := by omega
    rcases hop with o | o | o | o | o | o <;> rw [o] at c5 <;> simp [mv] at c5 <;> simp [o, c5]
  · rw [if_neg c5] at h; omega
theorem nx_get {xs : List Int} {last : Int} {e : Ev} {i : Nat} (h : Ok1 xs last e i) (j : Nat) : (nx xs e)[j]? = if j = i then some (if e.op = 1 then 0 else (mv (xs.getD i 0) e.op).1) else xs[j]? := by
  have hid : e.id.toNat = i := by have := h.id; omega
  unfold nx
  rcases h.op with ⟨o, hi⟩ | ⟨hi, o⟩
  · rw [if_pos o, if_pos o, List.getElem?_append]
    subst hi
    by_cases hj : j < xs.length
    · rw [if_pos hj, if_neg (by omega)]
    · rw [if_neg hj]
      by_cases hj2 : j = xs.length
      · subst hj2
        simp
      · rw [if_neg hj2, List.getElem?_eq_none (by simp; omega), List.getElem?_eq_none (by omega)]
  · have ho : ¬ e.op = 1 := by rcases o with o | o | o | o | o | o <;> omega
    rw [if_neg ho, if_neg ho, hid, List.getElem?_set]
    by_cases hj : j = i
    · subst hj
      simp [hi]
    · rw [if_neg (fun h => hj h.symm), if_neg hj]
/-- The new state of the event's thunk, by its old one. -/
theorem nx_new {xs : List Int} {last : Int} {e : Ev} {i : Nat} (h : Ok1 xs last e i) :
    e.op = 1 ∧ xs[i]? = none ∧ (nx xs e)[i]? = some 0 ∨ e.op = 2 ∧ xs[i]? = some 0 ∧ (nx xs e)[i]? = some 1 ∨ e.op = 3 ∧ xs[i]? = some 1 ∧ (nx xs e)[i]? = some 3 ∨ e.op = 4 ∧ xs[i]? = some 1 ∧ (nx xs e)[i]? = some 3 ∨
    e.op = 5 ∧ xs[i]? = some 1 ∧ (nx xs e)[i]? = some 2 ∨ e.op = 6 ∧ xs[i]? = some 2 ∧ (nx xs e)[i]? = some 1 ∨ e.op = 7 ∧ xs[i]? = some 1 ∧ (nx xs e)[i]? = some 1 := by
  have hg := nx_get h i
  rw [if_pos rfl] at hg
  rcases h.op with ⟨o, hi⟩ | ⟨hi, o⟩
  · left
    rw [if_pos o] at hg
    exact ⟨o, List.getElem?_eq_none (by omega), hg⟩
  · right
    have hx : xs.getD i 0 = xs[i] := by simp [List.getD_eq_getElem?_getD, hi]
    have hs : xs[i]? = some xs[i] := List.getElem?_eq_getElem hi
    rw [hx] at hg
    rcases o with ⟨o, s⟩ | ⟨o, s⟩ | ⟨o, s⟩ | ⟨o, s⟩ | ⟨o, s⟩ | ⟨o, s⟩ <;> rw [s] at hg hs <;> rw [o] at hg <;> simp [mv] at hg <;> simp [o, hs, hg]

/-- The events that finish a thunk. -/
def fins (l : List Ev) (i : Nat) : Nat := (l.filter fun e => e.id == (i : Int) && (e.op == 3 || e.op == 4)).length
theorem fins_le (i : Nat) : ∀ (r : List Ev) (xs : List Int) (last : Int), chk xs last r = 0 → fins r i ≤ if xs[i]? = some 3 then 0 else 1
  | [], xs, last, _ => by simp [fins]
  | e :: r, xs, last, h => by
    obtain ⟨k, ok, hr⟩ := chk_cons h
    have ih := fins_le i r _ _ hr
    have hn := nx_new ok
    have hg := nx_get ok i
    by_cases hk : i = k
    · subst hk
      have hid : (e.id == (i : Int)) = true := by simpa using ok.id
      unfold fins at ih ⊢
      rw [List.filter_cons]
      rcases hn with ⟨o, a, b⟩ | ⟨o, a, b⟩ | ⟨o, a, b⟩ | ⟨o, a, b⟩ | ⟨o, a, b⟩ | ⟨o, a, b⟩ | ⟨o, a, b⟩ <;> rw [b] at ih <;> rw [a] <;> simp [hid, o] at ih ⊢ <;> omega
    · have hid : (e.id == (i : Int)) = false := by have := ok.id; simp; omega
      rw [if_neg hk] at hg
      rw [hg] at ih
      unfold fins at ih ⊢
      rw [List.filter_cons, hid]
      simpa using ih

theorem no_begin (i : Nat) : ∀ (r : List Ev) (xs : List Int) (last s : Int), chk xs last r = 0 → xs[i]? = some s → s ≠ 0 → has 2 (i : Int) r = false
  | [], _, _, _, _, _, _ => rfl
  | e :: r, xs, last, s, h, hs, h0 => by
    obtain ⟨k, ok, hr⟩ := chk_cons h
    have hn := nx_new ok
    have hg := nx_get ok i
    unfold has
    rw [List.any_cons]
    by_cases hk : i = k
    · subst hk
      have go : ∀ t, (nx xs e)[i]? = some t → t ≠ 0 → has 2 (i : Int) r = false := fun t ht h1 => no_begin i r _ _ t hr ht h1
      unfold has at go
      rcases hn with ⟨o, a, b⟩ | ⟨o, a, b⟩ | ⟨o, a, b⟩ | ⟨o, a, b⟩ | ⟨o, a, b⟩ | ⟨o, a, b⟩ | ⟨o, a, b⟩ <;> rw [hs] at a <;> simp at a
      · exact absurd a h0
      all_goals rw [go _ b (by omega)]; simp [o]
    · have hid : (e.id == (i : Int)) = false := by have := ok.id; simp; omega
      rw [if_neg hk, hs] at hg
      have := no_begin i r _ _ s hr hg h0
      unfold has at this
      rw [this, hid]
      simp
theorem once_ok : ∀ (r : List Ev) (xs : List Int) (last : Int), chk xs last r = 0 → ronL r = true
  | [], _, _, _ => rfl
  | e :: r, xs, last, h => by
    obtain ⟨k, ok, hr⟩ := chk_cons h
    unfold ronL
    rw [once_ok r _ _ hr]
    by_cases ho : e.op = 2
    · rcases nx_new ok with ⟨o, a, b⟩ | ⟨o, a, b⟩ | ⟨o, a, b⟩ | ⟨o, a, b⟩ | ⟨o, a, b⟩ | ⟨o, a, b⟩ | ⟨o, a, b⟩ <;> try omega
      have := no_begin k r _ _ 1 hr b (by omega)
      rw [ok.id, this]
      simp
    · have : (e.op == 2) = false := by simpa using ho
      rw [this]
      simp
end Go.Proofs.Ytngdchahahabpaa
