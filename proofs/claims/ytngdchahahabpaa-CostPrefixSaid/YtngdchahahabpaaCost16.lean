/- What the program's Age holds of each thunk, said by the list; no condition. -/
import Derived.Test.YtngdchahahabpaaCost14
namespace Go.Proofs.Ytngdchahahabpaa
open Go.RowKit

/-- One thunk's part of the second loop: seen, aged, the age. -/
structure O3 where
  seen : Bool
  aged : Bool
  age : Option Int
def o3F (born : Int) (id : Int) (s : O3) (e : Ev) : O3 :=
  if e.id = id then
    if e.op = 1 then ⟨true, s.aged, s.age⟩
    else if e.op = 2 ∧ s.seen = true ∧ s.aged = false then ⟨s.seen, true, some (wrap64 (e.step - born))⟩ else s
  else s
def o3 (S : A3) (id : Int) : O3 := ⟨(get S.seen id).getD false, (get S.aged id).getD false, get S.ages id⟩
theorem o3_step (M : List (Int × Int)) (S : A3) (e : Ev) (id : Int) : o3 (agedF M S e) id = o3F ((get M id).getD 0) id (o3 S id) e := by
  obtain ⟨sn, ag, ags⟩ := S
  by_cases hid : e.id = id
  · subst hid
    by_cases h1 : e.op = 1
    · have : ¬ e.op = 2 := by omega
      simp [agedF, seenF, o3F, o3, h1, get_put]
    · by_cases h2 : e.op = 2
      · by_cases hc : (get sn e.id).getD false = true ∧ (get ag e.id).getD false = false
        · simp [agedF, seenF, o3F, o3, h2, hc, get_put]
        · have hc' : ¬ ((get sn e.id).getD false = true ∧ (get ag e.id).getD false = false) := hc
          simp only [agedF, seenF, o3F, o3, h2]
          simp [hc']
      · simp [agedF, seenF, o3F, o3, h1, h2]
  · have hne : ¬ id = e.id := fun h => hid h.symm
    simp only [o3F, if_neg hid]
    unfold agedF
    split
    · simp only [o3, seenF]
      split <;> simp [get_put, hne]
    · simp only [o3, seenF]
      split <;> simp [get_put, hne]
theorem o3_fold (M : List (Int × Int)) (id : Int) : ∀ (l : List Ev) (S : A3), o3 (l.foldl (agedF M) S) id = l.foldl (o3F ((get M id).getD 0) id) (o3 S id)
  | [], _ => rfl
  | e :: r, S => by
    rw [List.foldl_cons, List.foldl_cons, o3_fold M id r, o3_step]

/-- The first event of a form with an id, and what follows it. -/
def at1 (op id : Int) : List Ev → Option (Int × List Ev)
  | [] => none
  | e :: r => if e.op = op ∧ e.id = id then some (e.step, r) else at1 op id r
/-- The age that the program holds. -/
def agi (l : List Ev) (id : Int) : Option Int :=
  match at1 1 id l with
  | none => none
  | some (s, r) => (at1 2 id r).map fun q => wrap64 (q.1 - s)
theorem o3_aged (born id : Int) : ∀ (l : List Ev) (b : Bool) (a : Option Int), (l.foldl (o3F born id) ⟨b, true, a⟩).age = a
  | [], _, _ => rfl
  | e :: r, b, a => by
    rw [List.foldl_cons]
    unfold o3F
    split
    · split
      · exact o3_aged born id r _ _
      · simp only [Bool.true_eq_false, and_false, if_false]
        exact o3_aged born id r _ _
    · exact o3_aged born id r _ _
theorem o3_seen (born id : Int) : ∀ (l : List Ev), (l.foldl (o3F born id) ⟨true, false, none⟩).age = (at1 2 id l).map fun q => wrap64 (q.1 - born)
  | [] => rfl
  | e :: r => by
    rw [List.foldl_cons]
    unfold o3F at1
    by_cases hid : e.id = id
    · by_cases h1 : e.op = 1
      · rw [if_pos hid, if_pos h1, if_neg (by omega)]
        exact o3_seen born id r
      · by_cases h2 : e.op = 2
        · rw [if_pos hid, if_neg h1, if_pos ⟨h2, rfl, rfl⟩, if_pos ⟨h2, hid⟩]
          exact o3_aged born id r _ _
        · rw [if_pos hid, if_neg h1, if_neg (fun h => h2 h.1), if_neg (fun h => h2 h.1)]
          exact o3_seen born id r
    · rw [if_neg hid, if_neg (fun h => hid h.2)]
      exact o3_seen born id r
theorem o3_new (born id : Int) : ∀ (l : List Ev), (l.foldl (o3F born id) ⟨false, false, none⟩).age = match at1 1 id l with | none => none | some (_, r) => (at1 2 id r).map fun q => wrap64 (q.1 - born)
  | [] => rfl
  | e :: r => by
    rw [List.foldl_cons]
    unfold o3F
    rw [at1]
    by_cases hid : e.id = id
    · by_cases h1 : e.op = 1
      · rw [if_pos hid, if_pos h1, if_pos ⟨h1, hid⟩]
        exact o3_seen born id r
      · rw [if_pos hid, if_neg h1, if_neg (by simp), if_neg (fun h => h1 h.1)]
        exact o3_new born id r
    · rw [if_neg hid, if_neg (fun h => hid h.2)]
      exact o3_new born id r
theorem bornF_get (M : List (Int × Int)) (e : Ev) (id : Int) : get (bornF M e) id = if get M id = none ∧ e.op = 1 ∧ e.id = id then some e.step else get M id := by
  unfold bornF
  by_cases h : e.op = 1 ∧ get M e.id = none
  · rw [if_pos h, get_put]
    by_cases hid : id = e.id
    · subst hid
      rw [if_pos rfl, if_pos ⟨h.2, h.1, rfl⟩]
    · rw [if_neg hid, if_neg (fun x => hid x.2.2.symm)]
  · rw [if_neg h, if_neg]
    rintro ⟨h1, h2, h3⟩
    subst h3
    exact h ⟨h2, h1⟩
theorem born_get (id : Int) : ∀ (l : List Ev) (M : List (Int × Int)), get (l.foldl bornF M) id = match get M id with | some x => some x | none => (at1 1 id l).map (·.1)
  | [], M => by
    rw [List.foldl_nil]
    cases get M id <;> rfl
  | e :: r, M => by
    rw [List.foldl_cons, born_get id r, bornF_get]
    cases hg : get M id with
    | some x => simp
    | none =>
      by_cases h : e.op = 1 ∧ e.id = id
      · rw [if_pos ⟨rfl, h⟩, at1, if_pos h]
        rfl
      · rw [if_neg (fun x => h x.2), at1, if_neg h]
theorem agM_get (l : List Ev) (id : Int) : get (agM l) id = agi l id := by
  have h := o3_fold (bornL l) id l ⟨[], [], []⟩
  have h2 : get (agM l) id = (o3 (l.foldl (agedF (bornL l)) ⟨[], [], []⟩) id).age := rfl
  rw [h2, h]
  have h3 : o3 ⟨[], [], []⟩ id = ⟨false, false, none⟩ := rfl
  rw [h3, o3_new]
  have h4 := born_get id l []
  unfold agi
  rw [get_nil] at h4
  cases ha : at1 1 id l with
  | none => rfl
  | some q =>
    obtain ⟨s, r⟩ := q
    rw [ha] at h4
    have h5 : get (bornL l) id = some s := h4
    simp [h5]
theorem agM_nodup (l : List Ev) : ((agM l).map (·.1)).Nodup := by
  have go : ∀ (r : List Ev) (S : A3), (S.ages.map (·.1)).Nodup → ((r.foldl (agedF (bornL l)) S).ages.map (·.1)).Nodup := by
    intro r
    induction r with
    | nil => intro S h; exact h
    | cons e r ih =>
      intro S h
      refine ih _ ?_
      unfold agedF
      split
      · exact put_nodup _ _ _ h
      · exact h
  exact go l _ (by simp)
end Go.Proofs.Ytngdchahahabpaa
