/- The reference's ages are those of the program; no condition. -/
import Derived.Test.YtngdchahahabpaaCost15
import Derived.Test.YtngdchahahabpaaCost16
namespace Go.Proofs.Ytngdchahahabpaa
open Go.RowKit

theorem at1_fstL (op id : Int) : ∀ (l : List Ev) (i k : Nat), fstL op id l i = ((i + k : Nat) : Int) → (hk : k < l.length) → at1 op id l = some (l[k].step, l.drop (k + 1))
  | [], i, k, _, hk => by simp at hk
  | e :: r, i, k, h, hk => by
    unfold fstL at h
    unfold at1
    by_cases hm : e.op = op ∧ e.id = id
    · rw [if_pos hm] at h ⊢
      have : k = 0 := by omega
      subst this
      rfl
    · rw [if_neg hm] at h ⊢
      obtain ⟨k', hk', e1, _⟩ := fstL_spec op id r (i + 1) (by omega)
      have : k = k' + 1 := by omega
      subst this
      rw [at1_fstL op id r (i + 1) k' e1 hk']
      rfl
theorem agi_good {l : List Ev} {id : Int} {na nb : Nat} (g : Good l id na nb) : agi l id = some (rage l id) := by
  have h1 := at1_fstL 1 id l 0 na (by simpa [fa] using g.ha) g.la
  have h2 := g.hb
  rw [drop_at l g.la, fstL, if_neg (fun h => by have := g.oa; omega)] at h2
  obtain ⟨k', hk', e1, _⟩ := fstL_spec 2 id (l.drop (na + 1)) (na + 1) (by omega)
  have h3 := at1_fstL 2 id (l.drop (na + 1)) (na + 1) k' e1 hk'
  have hnb : nb = na + 1 + k' := by omega
  unfold agi
  rw [h1]
  simp only [h3, Option.map_some]
  rw [rage_good g]
  congr 3
  rw [List.getElem_drop]
  congr 2
  omega
theorem at1_split (op id : Int) : ∀ (l : List Ev) (s : Int) (r : List Ev), at1 op id l = some (s, r) → ∃ p e, l = p ++ e :: r ∧ e.op = op ∧ e.id = id
  | [], s, r, h => by cases h
  | e :: t, s, r, h => by
    unfold at1 at h
    by_cases hm : e.op = op ∧ e.id = id
    · rw [if_pos hm] at h
      cases h
      exact ⟨[], e, rfl, hm.1, hm.2⟩
    · rw [if_neg hm] at h
      obtain ⟨p, e', rfl, h1, h2⟩ := at1_split op id t s r h
      exact ⟨e :: p, e', rfl, h1, h2⟩
theorem rids_sub (x : Int) : ∀ (r : List Ev) (out : List Int), x ∈ out → x ∈ rids out r
  | [], _, h => h
  | e :: r, out, h => by
    unfold rids
    refine rids_sub x r _ ?_
    split
    · exact (mem_ins _ _ _).2 (.inr h)
    · exact h
theorem rids_met (e : Ev) (r : List Ev) (h1 : e.op = 1) (h2 : has 2 e.id (e :: r) = true) : ∀ (p : List Ev) (out : List Int), e.id ∈ rids out (p ++ e :: r)
  | [], out => by
    rw [List.nil_append, rids, if_pos ⟨h1, h2⟩]
    exact rids_sub _ _ _ ((mem_ins _ _ _).2 (.inl rfl))
  | d :: p, out => by
    rw [List.cons_append, rids]
    exact rids_met e r h1 h2 p _
theorem mem_rids (l : List Ev) (x : Int) : x ∈ rids [] l ↔ agi l x ≠ none := by
  constructor
  · intro h
    obtain ⟨na, nb, g⟩ := rids_good l x h
    rw [agi_good g]
    simp
  · intro h
    unfold agi at h
    cases ha : at1 1 x l with
    | none => rw [ha] at h; exact absurd rfl h
    | some q =>
      obtain ⟨s, r⟩ := q
      rw [ha] at h
      cases hb : at1 2 x r with
      | none => simp [hb] at h
      | some q' =>
        obtain ⟨s', r'⟩ := q'
        obtain ⟨p, e, rfl, o1, i1⟩ := at1_split 1 x l s r ha
        obtain ⟨p', e', rfl, o2, i2⟩ := at1_split 2 x r s' r' hb
        subst i1
        refine rids_met e _ o1 ?_ p []
        simp only [has, List.any_eq_true]
        exact ⟨e', by simp, by simp [o2, i2]⟩
theorem rids_sorted : ∀ (r : List Ev) (out : List Int), out.Pairwise (· < ·) → (rids out r).Pairwise (· < ·)
  | [], _, h => h
  | e :: r, out, h => by
    unfold rids
    refine rids_sorted r _ ?_
    split
    · exact ins_sorted _ _ h
    · exact h
theorem rids_len (l : List Ev) : (agM l).length = (rids [] l).length := by
  have hs := rids_sorted l [] List.Pairwise.nil
  have hp : ((agM l).map (·.1)).Perm (rids [] l) := by
    refine (List.perm_ext_iff_of_nodup (agM_nodup l) (hs.imp fun h => by omega)).2 fun x => ?_
    rw [mem_rids, ← agM_get]
    constructor
    · intro h h2
      exact get_none.1 h2 h
    · intro h
      exact Classical.byContradiction fun h2 => h (get_none.2 h2)
  have := hp.length_eq
  simpa using this
theorem rids_age (l : List Ev) (x : Int) (h : x ∈ rids [] l) : get (agM l) x = some (rage l x) := by
  obtain ⟨na, nb, g⟩ := rids_good l x h
  rw [agM_get, agi_good g]
end Go.Proofs.Ytngdchahahabpaa
