/- What an accepted sequence of events has: its ages; no condition but that it is accepted. -/
import Derived.Test.YtngdchahahabpaaCost19
import Derived.Test.YtngdchahahabpaaCostW1
namespace Go.Proofs.Ytngdchahahabpaa
open Go.RowKit

/-- What has begun stays begun. -/
theorem begun_fin (i : Nat) : ∀ (r : List Ev) (xs : List Int) (last s : Int), chk xs last r = 0 → xs[i]? = some s → s ≠ 0 → ∃ t, (fin xs r)[i]? = some t ∧ t ≠ 0
  | [], _, _, s, _, hs, h0 => ⟨s, hs, h0⟩
  | e :: r, xs, last, s, h, hs, h0 => by
    obtain ⟨k, ok, hr⟩ := chk_cons h
    rw [fin_cons]
    have hg := nx_get ok i
    by_cases hk : i = k
    · subst hk
      rcases nx_new ok with ⟨o, a, b⟩ | ⟨o, a, b⟩ | ⟨o, a, b⟩ | ⟨o, a, b⟩ | ⟨o, a, b⟩ | ⟨o, a, b⟩ | ⟨o, a, b⟩ <;> rw [hs] at a <;> simp at a
      · exact absurd a h0
      all_goals exact begun_fin i r _ _ _ hr b (by omega)
    · rw [if_neg hk, hs] at hg
      exact begun_fin i r _ _ s hr hg h0
theorem fresh_fin (i : Nat) : ∀ (r : List Ev) (xs : List Int) (last : Int), chk xs last r = 0 → xs[i]? = some 0 → (at1 2 (i : Int) r = none ∧ (fin xs r)[i]? = some 0) ∨ (at1 2 (i : Int) r ≠ none ∧ ∃ t, (fin xs r)[i]? = some t ∧ t ≠ 0)
  | [], _, _, _, hs => .inl ⟨rfl, hs⟩
  | e :: r, xs, last, h, hs => by
    obtain ⟨k, ok, hr⟩ := chk_cons h
    rw [fin_cons, at1]
    have hg := nx_get ok i
    by_cases hk : i = k
    · subst hk
      rcases nx_new ok with ⟨o, a, b⟩ | ⟨o, a, b⟩ | ⟨o, a, b⟩ | ⟨o, a, b⟩ | ⟨o, a, b⟩ | ⟨o, a, b⟩ | ⟨o, a, b⟩ <;> rw [hs] at a <;> simp at a
      rw [if_pos ⟨o, ok.id⟩]
      exact .inr ⟨by simp, begun_fin i r _ _ _ hr b (by omega)⟩
    · rw [if_neg hk, hs] at hg
      rw [if_neg (fun h => by have := ok.id; omega)]
      exact fresh_fin i r _ _ hr hg
theorem none_fin (i : Nat) : ∀ (r : List Ev) (xs : List Int) (last : Int), chk xs last r = 0 → xs[i]? = none → (agi r (i : Int) = none ∧ ((fin xs r)[i]? = none ∨ (fin xs r)[i]? = some 0)) ∨ (agi r (i : Int) ≠ none ∧ ∃ t, (fin xs r)[i]? = some t ∧ t ≠ 0)
  | [], _, _, _, hs => .inl ⟨rfl, .inl hs⟩
  | e :: r, xs, last, h, hs => by
    obtain ⟨k, ok, hr⟩ := chk_cons h
    rw [fin_cons]
    have hg := nx_get ok i
    by_cases hk : i = k
    · subst hk
      rcases nx_new ok with ⟨o, a, b⟩ | ⟨o, a, b⟩ | ⟨o, a, b⟩ | ⟨o, a, b⟩ | ⟨o, a, b⟩ | ⟨o, a, b⟩ | ⟨o, a, b⟩ <;> rw [hs] at a <;> simp at a
      have hag : agi (e :: r) (i : Int) = (at1 2 (i : Int) r).map fun q => wrap64 (q.1 - e.step) := by
        unfold agi
        rw [at1, if_pos ⟨o, ok.id⟩]
      rw [hag]
      rcases fresh_fin i r _ _ hr b with ⟨h1, h2⟩ | ⟨h1, h2⟩
      · exact .inl ⟨by rw [h1]; rfl, .inr h2⟩
      · exact .inr ⟨by simpa using h1, h2⟩
    · rw [if_neg hk, hs] at hg
      have hag : agi (e :: r) (i : Int) = agi r (i : Int) := by
        unfold agi
        rw [at1, if_neg (fun h => by have := ok.id; omega)]
      rw [hag]
      exact none_fin i r _ _ hr hg
theorem age_len (l : List Ev) (h : chk [] 0 l = 0) : ((agM l).length : Int) = cn l 2 := by
  have hs := rids_sorted l [] List.Pairwise.nil
  have hp : (rids [] l).Perm (places non0 (fin [] l)) := by
    refine (List.perm_ext_iff_of_nodup (hs.imp fun h => by omega) (places_nodup _ _)).2 fun x => ?_
    rw [mem_places]
    constructor
    · intro hx
      obtain ⟨na, nb, g⟩ := rids_good l x hx
      obtain ⟨i, hi⟩ := ids_nat l [] 0 h (l[na]'g.la) (List.getElem_mem _)
      rw [g.ia] at hi
      have hne := (mem_rids l x).1 hx
      rw [hi] at hne
      rcases none_fin i l [] 0 h rfl with ⟨h1, _⟩ | ⟨_, t, h2, h3⟩
      · exact absurd h1 hne
      · exact ⟨i, hi, t, h2, by simpa [non0] using h3⟩
    · rintro ⟨i, rfl, s, h1, h2⟩
      have h0 : s ≠ 0 := by simpa [non0] using h2
      rw [mem_rids]
      rcases none_fin i l [] 0 h rfl with ⟨_, h3 | h3⟩ | ⟨h3, _⟩
      · rw [h3] at h1; cases h1
      · rw [h3] at h1
        cases h1
        exact absurd rfl h0
      · exact h3
  have h1 := hp.length_eq
  rw [places_length] at h1
  have h2 := age_count l [] 0 h
  have h3 : ct non0 [] = 0 := rfl
  rw [h3] at h2
  rw [rids_len]
  omega
/-- Steps do not go down. -/
theorem at1_step (op id : Int) : ∀ (r : List Ev) (xs : List Int) (last s : Int) (t : List Ev), chk xs last r = 0 → at1 op id r = some (s, t) → last ≤ s ∧ 0 ≤ s ∧ (∃ ys, chk ys s t = 0) ∧ (∃ e ∈ r, e.step = s) ∧ ∀ e ∈ t, e ∈ r
  | [], _, _, _, _, _, h => by cases h
  | e :: r, xs, last, s, t, h, ha => by
    obtain ⟨k, ok, hr⟩ := chk_cons h
    unfold at1 at ha
    by_cases hm : e.op = op ∧ e.id = id
    · rw [if_pos hm] at ha
      cases ha
      exact ⟨ok.step, ok.pos, ⟨_, hr⟩, ⟨e, List.mem_cons_self .., rfl⟩, fun x hx => List.mem_cons_of_mem _ hx⟩
    · rw [if_neg hm] at ha
      obtain ⟨h1, h2, h3, ⟨e', he', h4⟩, h5⟩ := at1_step op id r _ _ s t hr ha
      exact ⟨by have := ok.step; omega, h2, h3, ⟨e', List.mem_cons_of_mem _ he', h4⟩, fun x hx => List.mem_cons_of_mem _ (h5 x hx)⟩
theorem age_pos (l : List Ev) (h : chk [] 0 l = 0) (hw : ∀ e ∈ l, (Lit.int .i64 e.step).wf = true) (id : Int) : 0 ≤ (get (agM l) id).getD 0 := by
  rw [agM_get]
  unfold agi
  cases ha : at1 1 id l with
  | none => simp
  | some q =>
    obtain ⟨s, r⟩ := q
    obtain ⟨_, h1, ⟨ys, h2⟩, _, h3⟩ := at1_step 1 id l [] 0 s r h ha
    cases hb : at1 2 id r with
    | none => simp [hb]
    | some q' =>
      obtain ⟨s', r'⟩ := q'
      obtain ⟨h4, h5, _, ⟨e, he, h6⟩, _⟩ := at1_step 2 id r ys s s' r' h2 hb
      have h7 := wf64 (hw e (h3 e he))
      simp only [hb, Option.map_some, Option.getD_some]
      have : wrap64 (s' - s) = s' - s := by unfold wrap64; omega
      rw [this]
      omega
end Go.Proofs.Ytngdchahahabpaa
