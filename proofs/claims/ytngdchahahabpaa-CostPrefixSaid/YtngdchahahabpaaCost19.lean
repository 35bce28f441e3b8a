/- What an accepted sequence of events has: its open thunks, its ages; no condition but that it is accepted. -/
import Derived.Test.YtngdchahahabpaaCost18
namespace Go.Proofs.Ytngdchahahabpaa
open Go.RowKit

/-- The states at the end. -/
def fin (xs : List Int) (r : List Ev) : List Int := r.foldl nx xs
theorem fin_cons (xs : List Int) (e : Ev) (r : List Ev) : fin xs (e :: r) = fin (nx xs e) r := rfl

/-- Going on: the state 1. -/
theorem bgn_fin (i : Nat) : ∀ (r : List Ev) (xs : List Int) (last : Int), chk xs last r = 0 → r.foldl (bgnF (i : Int)) (decide (xs[i]? = some 1)) = decide ((fin xs r)[i]? = some 1)
  | [], _, _, _ => rfl
  | e :: r, xs, last, h => by
    obtain ⟨k, ok, hr⟩ := chk_cons h
    rw [List.foldl_cons, fin_cons, ← bgn_fin i r _ _ hr]
    congr 1
    have hn := nx_new ok
    have hg := nx_get ok i
    by_cases hk : i = k
    · subst hk
      unfold bgnF
      rw [if_pos ok.id]
      rcases hn with ⟨o, a, b⟩ | ⟨o, a, b⟩ | ⟨o, a, b⟩ | ⟨o, a, b⟩ | ⟨o, a, b⟩ | ⟨o, a, b⟩ | ⟨o, a, b⟩ <;> rw [a, b] <;> simp [o]
    · rw [if_neg hk] at hg
      unfold bgnF
      rw [if_neg (by have := ok.id; omega), hg]
theorem ids_nat : ∀ (r : List Ev) (xs : List Int) (last : Int), chk xs last r = 0 → ∀ e ∈ r, ∃ i : Nat, e.id = (i : Int)
  | [], _, _, _, _, h => by cases h
  | e :: r, xs, last, h, e', he => by
    obtain ⟨k, ok, hr⟩ := chk_cons h
    rcases List.mem_cons.1 he with rfl | he
    · exact ⟨k, ok.id⟩
    · exact ids_nat r _ _ hr e' he

/-- How many entries are s. -/
def ct (p : Int → Bool) (xs : List Int) : Nat := (xs.filter p).length
theorem ct_append (p : Int → Bool) (xs ys : List Int) : ct p (xs ++ ys) = ct p xs + ct p ys := by simp [ct]
theorem ct_set (p : Int → Bool) (a b : Int) : ∀ (xs : List Int) (i : Nat), xs[i]? = some a → (ct p (xs.set i b) : Int) = ct p xs - (if p a = true then 1 else 0) + (if p b = true then 1 else 0)
  | [], i, h => by simp at h
  | x :: r, 0, h => by
    simp at h
    subst h
    simp only [List.set_cons_zero, ct, List.filter_cons]
    split <;> split <;> simp <;> omega
  | x :: r, i + 1, h => by
    have ih := ct_set p a b r i (by simpa using h)
    simp only [List.set_cons_succ, ct, List.filter_cons] at ih ⊢
    cases p x <;> simp <;> omega
theorem ct_nx {xs : List Int} {last : Int} {e : Ev} {i : Nat} (h : Ok1 xs last e i) (p : Int → Bool) {a b : Int} (ha : xs[i]? = some a) (hb : (nx xs e)[i]? = some b) : (ct p (nx xs e) : Int) = ct p xs - (if p a = true then 1 else 0) + (if p b = true then 1 else 0) := by
  have hid : e.id.toNat = i := by have := h.id; omega
  have hi : i < xs.length := (List.getElem?_eq_some_iff.1 ha).1
  have ho : ¬ e.op = 1 := by
    rcases h.op with ⟨o, hi'⟩ | ⟨_, o⟩
    · omega
    · rcases o with o | o | o | o | o | o <;> omega
  unfold nx at hb ⊢
  rw [if_neg ho, hid] at hb ⊢
  rw [List.getElem?_set_self hi] at hb
  injection hb with hb
  rw [hb]
  exact ct_set p a b xs i ha
theorem ct_new {xs : List Int} {e : Ev} (o : e.op = 1) (p : Int → Bool) : (ct p (nx xs e) : Int) = ct p xs + (if p 0 = true then 1 else 0) := by
  unfold nx
  rw [if_pos o, ct_append]
  simp only [ct, List.filter_cons, List.filter_nil]
  split <;> simp

theorem cn_cons (e : Ev) (r : List Ev) (j : Nat) : (cn (e :: r) j : Int) = cn r j + (if slot e = j then 1 else 0) := by
  simp only [cn, List.filter_cons, beq_iff_eq]
  split <;> simp
theorem slot_op {e : Ev} {n : Int} (h : e.op = n) (h1 : 1 ≤ n) (h7 : n ≤ 7) : slot e = n.toNat := by
  unfold slot
  rw [h, if_pos ⟨h1, h7⟩]
def one (s : Int) : Bool := s == 1
def non0 (s : Int) : Bool := !(s == 0)
theorem open_count : ∀ (r : List Ev) (xs : List Int) (last : Int), chk xs last r = 0 → (ct one (fin xs r) : Int) = ct one xs + cn r 2 + cn r 6 - cn r 3 - cn r 4 - cn r 5
  | [], xs, _, _ => by simp [fin, cn]
  | e :: r, xs, last, h => by
    obtain ⟨k, ok, hr⟩ := chk_cons h
    rw [fin_cons, open_count r _ _ hr]
    simp only [cn_cons]
    rcases nx_new ok with ⟨o, a, b⟩ | ⟨o, a, b⟩ | ⟨o, a, b⟩ | ⟨o, a, b⟩ | ⟨o, a, b⟩ | ⟨o, a, b⟩ | ⟨o, a, b⟩
    · rw [ct_new o, slot_op o (by omega) (by omega)]
      simp [one]
    all_goals rw [ct_nx ok one a b, slot_op o (by omega) (by omega)]; simp [one]; try omega
theorem age_count : ∀ (r : List Ev) (xs : List Int) (last : Int), chk xs last r = 0 → (ct non0 (fin xs r) : Int) = ct non0 xs + cn r 2
  | [], xs, _, _ => by simp [fin, cn]
  | e :: r, xs, last, h => by
    obtain ⟨k, ok, hr⟩ := chk_cons h
    rw [fin_cons, age_count r _ _ hr]
    simp only [cn_cons]
    rcases nx_new ok with ⟨o, a, b⟩ | ⟨o, a, b⟩ | ⟨o, a, b⟩ | ⟨o, a, b⟩ | ⟨o, a, b⟩ | ⟨o, a, b⟩ | ⟨o, a, b⟩
    · rw [ct_new o, slot_op o (by omega) (by omega)]
      simp [non0]
    all_goals rw [ct_nx ok non0 a b, slot_op o (by omega) (by omega)]; simp [non0]; try omega
theorem alloc_count : ∀ (r : List Ev) (xs : List Int) (last : Int), chk xs last r = 0 → ((fin xs r).length : Int) = xs.length + cn r 1
  | [], xs, _, _ => by simp [fin, cn]
  | e :: r, xs, last, h => by
    obtain ⟨k, ok, hr⟩ := chk_cons h
    rw [fin_cons, alloc_count r _ _ hr]
    simp only [cn_cons]
    rcases nx_new ok with ⟨o, a, b⟩ | ⟨o, a, b⟩ | ⟨o, a, b⟩ | ⟨o, a, b⟩ | ⟨o, a, b⟩ | ⟨o, a, b⟩ | ⟨o, a, b⟩
    · rw [slot_op o (by omega) (by omega)]
      simp [nx, o]
      omega
    all_goals rw [slot_op o (by omega) (by omega)]; simp [nx, o]

/-- The places of the entries with p, as a list. -/
def places (p : Int → Bool) (xs : List Int) : List Int := ((List.range xs.length).filter fun i => p (xs.getD i 0)).map Int.ofNat
theorem places_length (p : Int → Bool) (xs : List Int) : (places p xs).length = ct p xs := by
  have h : xs = (List.range xs.length).map fun i => xs.getD i 0 := by
    apply List.ext_getElem
    · simp
    · intro i h1 h2
      simp [List.getD_eq_getElem?_getD, h1]
  unfold places ct
  rw [List.length_map]
  conv => rhs; rw [h]
  rw [List.filter_map, List.length_map]
  rfl
theorem mem_places (p : Int → Bool) (xs : List Int) (x : Int) : x ∈ places p xs ↔ ∃ i : Nat, x = (i : Int) ∧ ∃ s, xs[i]? = some s ∧ p s = true := by
  unfold places
  simp only [List.mem_map, List.mem_filter, List.mem_range]
  constructor
  · rintro ⟨i, ⟨h1, h2⟩, rfl⟩
    refine ⟨i, rfl, xs[i], List.getElem?_eq_getElem h1, ?_⟩
    simpa [List.getD_eq_getElem?_getD, h1] using h2
  · rintro ⟨i, rfl, s, h1, h2⟩
    have hi : i < xs.length := (List.getElem?_eq_some_iff.1 h1).1
    refine ⟨i, ⟨hi, ?_⟩, rfl⟩
    simpa [List.getD_eq_getElem?_getD, h1] using h2
theorem places_nodup (p : Int → Bool) (xs : List Int) : (places p xs).Nodup := by
  unfold places
  refine List.Pairwise.map _ (fun a b h => ?_) (List.Nodup.sublist List.filter_sublist List.nodup_range)
  intro e
  exact h (Int.ofNat.inj e)
theorem open_len (l : List Ev) (h : chk [] 0 l = 0) : ((ropn l).length : Int) = cn l 2 + cn l 6 - cn l 3 - cn l 4 - cn l 5 := by
  have hp : (ropn l).Perm (places one (fin [] l)) := by
    refine (List.perm_ext_iff_of_nodup ((ropn_sorted l).imp fun h => by omega) (places_nodup _ _)).2 fun x => ?_
    rw [mem_ropn, mem_places]
    constructor
    · rintro ⟨e, he, hb, rfl⟩
      obtain ⟨i, hi⟩ := ids_nat l [] 0 h e he
      refine ⟨i, hi, 1, ?_, rfl⟩
      have := bgn_fin i l [] 0 h
      rw [hi] at hb
      have h2 : l.foldl (bgnF (i : Int)) false = true := hb
      simp only [List.getElem?_nil] at this
      have h3 : decide ((none : Option Int) = some 1) = false := rfl
      rw [h3, h2] at this
      simpa using this.symm
    · rintro ⟨i, rfl, s, hs, h1⟩
      have h1' : s = 1 := by simpa [one] using h1
      subst h1'
      have := bgn_fin i l [] 0 h
      have h3 : decide (([] : List Int)[i]? = some 1) = false := rfl
      rw [h3, hs] at this
      have hb : bgn l (i : Int) = true := by unfold bgn; rw [this]; simp
      obtain ⟨e, he, hid⟩ := bgn_met l _ hb
      exact ⟨e, he, by rw [hid]; exact hb, hid⟩
  have h1 := hp.length_eq
  rw [places_length] at h1
  have h2 := open_count l [] 0 h
  have h3 : ct one [] = 0 := rfl
  rw [h3] at h2
  omega
end Go.Proofs.Ytngdchahahabpaa
