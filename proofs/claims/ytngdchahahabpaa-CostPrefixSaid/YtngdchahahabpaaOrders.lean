/- An invariant over a region that draws its order: shown once for each operation, not once for each order; no condition. -/
import Derived.Test.YtngdchahahabpaaCost20
import Derived.Orders
namespace Go.Proofs.Ytngdchahahabpaa
open Go.RowKit

theorem wpAny_inv {P : Program} {md : Region.Mode} {ops : Array Oper} {Q : Exit → Act → World → Prop} (I : Array Bool → Act → World → Prop)
    (hsize : ∀ listed a w, I listed a w → listed.size = ops.size)
    (hstep : ∀ listed a w, I listed a w → ∀ i ∈ Region.ready md ops listed, wpOp P ops Q i (fun a' w' => I (listed.setIfInBounds i true) a' w') a w)
    (hend : ∀ listed a w, I listed a w → Region.ready md ops listed = [] → Q .normal a w) :
    ∀ (fuel : Nat) (listed : Array Bool) (a : Act) (w : World), (listed.toList.filter (! ·)).length ≤ fuel → I listed a w → wpAny P md ops Q fuel listed a w
  | 0, listed, a, w, hf, hI => by
    have hall : ∀ i, i < ops.size → listed.getD i true = true := by
      intro i hi
      have hs := hsize _ _ _ hI
      have h0 : listed.toList.filter (! ·) = [] := List.eq_nil_of_length_eq_zero (by omega)
      have h1 : i < listed.size := by omega
      cases hb : listed[i] with
      | true => simp [Array.getD, h1, hb]
      | false =>
        have : listed[i] ∈ listed.toList.filter (! ·) := List.mem_filter.2 ⟨by simp, by rw [hb]; rfl⟩
        rw [h0] at this
        cases this
    have hr : Region.ready md ops listed = [] := by
      unfold Region.ready
      rw [List.filter_eq_nil_iff]
      intro i hi
      simp only [List.mem_range] at hi
      rw [hall i hi]
      simp
    exact ⟨hr, hend _ _ _ hI hr⟩
  | fuel + 1, listed, a, w, hf, hI => by
    refine ⟨hend _ _ _ hI, fun i hi => ?_⟩
    refine wpOp_mono ?_ (hstep _ _ _ hI i hi)
    intro a' w' h'
    refine wpAny_inv I hsize hstep hend fuel _ a' w' ?_ h'
    have hi' : i < ops.size ∧ listed.getD i true = false := by
      unfold Region.ready at hi
      simp only [List.mem_filter, List.mem_range, Bool.and_eq_true, Bool.not_eq_true'] at hi
      exact ⟨hi.1, hi.2.1⟩
    have h1 : i < listed.size := by have := hsize _ _ _ hI; omega
    have hfalse : listed.toList[i]? = some false := by
      have := hi'.2
      simp [Array.getD, h1] at this
      simp [h1, this]
    have go : ∀ (l : List Bool) (i : Nat), l[i]? = some false → ((l.set i true).filter (! ·)).length + 1 = (l.filter (! ·)).length := by
      intro l
      induction l with
      | nil => intro i h; simp at h
      | cons b r ih =>
        intro i h
        cases i with
        | zero =>
          simp at h
          subst h
          simp
        | succ i =>
          have := ih i (by simpa using h)
          cases b <;> simp <;> omega
    have := go _ _ hfalse
    have e : (listed.setIfInBounds i true).toList = listed.toList.set i true := by simp
    rw [e]
    omega
/-- One operation, its successor hidden. -/
theorem wpOp_mine {P : Program} {ops : Array Oper} {Q : Exit → Act → World → Prop} {R : Act → World → Prop} {a : Act} {w : World} {i : Nat} {o : Oper} (ho : ops[i]? = some o)
    (h : ∀ K : Act → World → Prop, (∀ a w, R a w → K a w) → if Region.wanted o (yielded ops a.tmps) = true then Oper.wp P o a w K Q else K (a.put o.dst undef) w) : wpOp P ops Q i R a w := by
  have h1 := h R (fun _ _ h => h)
  unfold wpOp
  rw [ho]
  dsimp only
  split
  · rename_i hw
    rw [if_pos hw] at h1
    exact .inl h1
  · rename_i hw
    rw [if_neg hw] at h1
    exact h1
end Go.Proofs.Ytngdchahahabpaa
