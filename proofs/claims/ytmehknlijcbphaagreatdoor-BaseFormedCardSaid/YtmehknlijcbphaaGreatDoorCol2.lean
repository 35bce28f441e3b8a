/- What is known of Collect, for the evaluator; no condition. -/
import Derived.Test.YtmehknlijcbphaaGreatDoorEv17
import Derived.Test.YtmehknlijcbphaaGreatDoorCol
namespace Go.Proofs.YtmehknlijcbphaaGreatDoor
open Go Go.RowKit Go.Shelf Ev

theorem ss_res [Syms] {W W' : World} {ok : Nat → Nat → Prop} {v : Value} (l : List ByteArray) (hb : Below W.heap.size W W') (h : Ss W.heap.size W' v l) (hne : l ≠ []) : ResOk W ok W' (.sl l.length (strsAV l) none) v := by
  have h2 := h.2
  rcases h2 with ⟨_, h0⟩ | ⟨g, cap, cur, rfl, hg, hgg, hcap, _, _, _⟩
  · exact absurd (List.length_eq_zero_iff.1 h0) hne
  · refine ⟨hb, argCx W' (fun b _ => b = g), rfl, ?_, ?_, fun _ _ _ _ _ h => by cases h⟩
    · rintro b o rfl
      exact ⟨.inr hg, (Array.getElem?_eq_some_iff.1 hgg).1⟩
    · simp only [Real]
      refine ⟨g, 0, cap, l.map Value.string, rfl, hcap, ?_, fun j v hj => ⟨?_, rfl, ?_⟩, trivial⟩
      · have := realL_lits (c := argCx W' (fun b _ => b = g)) (l.map Value.string)
        rw [List.map_map] at this
        exact this
      · rw [Nat.zero_add]
        show W'.cell? _ = _
        have hl : j < l.length := by have := (List.getElem?_eq_some_iff.1 hj).1; simpa using this
        rw [World.ownsRow.cellAt h j (by simpa using hl)]
        exact hj
      · have := List.mem_of_getElem? hj
        simp only [List.mem_map] at this
        obtain ⟨s, _, rfl⟩ := this
        rfl

def ext24 : List AV → Option AV
  | [.lit (.slice none 0 0), .lit (.slice none 0 0), t] => match coll 100 [] t with
    | some [] => some (.lit (.slice none 0 0))
    | some (x :: r) => some (.sl (x :: r).length (strsAV (x :: r)) none)
    | none => none
  | _ => none
theorem ext24_ok [Syms] : OneOk 24 ext24 := by
  intro args r h W ok vs hok hargs h0
  refine ⟨⟨_, Tryz.func24, by kernel_rfl, by kernel_rfl⟩, ?_⟩
  unfold ext24 at h
  split at h
  · rename_i t
    obtain ⟨u1, us, rfl, h1, h2⟩ := realL_cons_inv hargs
    obtain ⟨u2, us2, rfl, h3, h4⟩ := realL_cons_inv h2
    obtain ⟨u3, us3, rfl, h5, h6⟩ := realL_cons_inv h4
    obtain rfl := realL_nil_inv h6
    simp only [Real] at h1 h3
    subst h1
    subst h3
    cases hc : coll 100 [] t with
    | none => rw [hc] at h; cases h
    | some l =>
      refine (coll_any 100 [] t l hc W ok W.heap.size u3 (.slice none 0 0) hok (Nat.le_refl _) h5 (World.ownsRow_nil _ _ _ _) (fun _ => rfl)).mono ?_
      rintro e w' ⟨v', rfl, ⟨hS, hz⟩, hN⟩
      have hb : Below W.heap.size W w' := hN.below (Nat.le_refl _) (fun k hk => by cases hk)
      refine ⟨_, rfl, ?_⟩
      rw [hc] at h
      cases l with
      | nil =>
        injection h with h
        subst h
        rw [hz rfl]
        exact lit_res _ hb
      | cons x r' =>
        injection h with h
        subst h
        exact ss_res (x :: r') hb hS (by simp)
  · cases h
end Go.Proofs.YtmehknlijcbphaaGreatDoor
