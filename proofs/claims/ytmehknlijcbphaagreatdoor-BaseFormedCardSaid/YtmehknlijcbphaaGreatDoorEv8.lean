/- The evaluator's append is the model's; no condition. -/
import Derived.Test.YtmehknlijcbphaaGreatDoorEv7
namespace Go.Proofs.YtmehknlijcbphaaGreatDoor.Ev
open Go Go.RowKit

section
variable {W0 : World} {ok0 : Nat → Nat → Prop} {id : Nat} {c : Cx}

theorem zeroCells_some {i : TypeInfo} {cs : List AV} (h : zeroCellsAV i = some cs) : ∃ z, i.zero = some z ∧ z.cells.size = i.size ∧ lits z.cells = some cs := by
  unfold zeroCellsAV at h
  split at h
  · rename_i z hz
    split at h
    · rename_i hs
      exact ⟨z, hz, hs, h⟩
    · cases h
  · cases h

theorem take_get {l : List Value} {n j : Nat} {v : Value} (h : (l.take n)[j]? = some v) : l[j]? = some v ∧ j < n := by
  rw [List.getElem?_take] at h
  split at h
  · exact ⟨h, by assumption⟩
  · cases h

theorem owns_cells [Syms] {w : World} {e : TypeId} {sz n : Nat} {u : Value} {vs : List Value} {g : Nat} (h : w.ownsRow 0 e sz u n vs) (hu : u.ownBlock = some g) : ∀ j v, vs[j]? = some v → w.cell? ⟨g, j, none⟩ = some v := by
  intro j v hj
  rcases h.2 with ⟨rfl, _⟩ | ⟨g', cap, cur, rfl, _, hg, _, _, _, ht⟩
  · simp [Value.ownBlock] at hu
  · have : g' = g := by simpa [Value.ownBlock] using hu
    subst this
    rw [← ht] at hj
    have hj2 := (take_get hj).1
    simp only [World.cell?, hg]
    simpa using hj2

/-- Append to a row with room of its own, or to none. -/
theorem append_real [Syms] {P : Program} (hB : Base W0 ok0 c) (hid : ¬ c.iss id) {t ty e : TypeId} {i : TypeInfo} (ht : P.underlying t = some (.slice e)) (hi : P.info? e = some i) (hz : (zeroCellsAV i).isSome = true) (hsz : 0 < i.size)
    {n m : Nat} {cs ys : List AV} {old : Option Nat} {u ux : Value} {tk : Option (Nat × TypeId × Nat)}
    (hu : (old = none ∧ n = 0 ∧ cs = [] ∧ u = .slice none 0 0) ∨ ∃ k, old = some k ∧ Real c (.sl n cs (some (k, e, i.size))) u ∧ (c.τ k).isSome = true)
    (hx : Real c (.sl m ys tk) ux) (hm : 0 < m) (hyl : ys.length = m * i.size) (hnm : n + m ≤ 1000000) (hby : (n + m) * i.bytes ≤ 1000000) :
    ∃ (u' : Value) (c' : Cx), (Builtin.append_ #[t, t] ty #[u, ux]).run P c.W = .ok u' c'.W ∧ Real c' (.sl (n + m) (cs ++ ys) (some (id, e, i.size))) u' ∧ EffOk W0 ok0 id (.tok old) c c' := by
  have h0 : W0.heap.size ≤ c.W.heap.size := hB.below.size
  obtain ⟨zc, hzc⟩ := Option.isSome_iff_exists.1 hz
  obtain ⟨z, hz1, hz2, _⟩ := zeroCells_some hzc
  have hmax : n + m ≤ maxLen := by simp only [maxLen]; omega
  simp only [Real] at hx
  obtain ⟨b2, off2, cap2, ws, rfl, hle2, hrx, hcx, _⟩ := hx
  have hws := hrx.length
  -- the old row
  have hold : ∃ vs : List Value, RealL c cs vs ∧ c.W.ownsRow 0 e i.size u n vs ∧ (∀ v ∈ vs, v.oneCell' = true) ∧ (∀ k, old = some k → ∃ g, c.τ k = some (g, n * i.size) ∧ u.ownBlock = some g) ∧ (old = none → u.ownBlock = none) := by
    rcases hu with ⟨rfl, rfl, rfl, rfl⟩ | ⟨k, rfl, hr, hk⟩
    · exact ⟨[], realL_nil, World.ownsRow_nil c.W 0 e i.size, by simp, by simp, fun _ => rfl⟩
    · simp only [Real] at hr
      obtain ⟨b, off, cap, vs, rfl, hle, hr, hcells, _, htok⟩ := hr
      obtain ⟨⟨g, lim⟩, hk⟩ := Option.isSome_iff_exists.1 hk
      obtain ⟨rfl, h2, h3⟩ := htok g lim hk
      refine ⟨vs, hr, h3, fun v hv => ?_, fun k' hk' => ?_, by simp⟩
      · obtain ⟨j, hj⟩ := List.getElem?_of_mem hv
        exact (hcells j v hj).2.2
      · injection hk' with hk'
        subst hk'
        exact ⟨g, hk, h2⟩
  obtain ⟨vs, hr, hown, hv1, hk, hnone⟩ := hold
  have hvl := hr.length
  have hown1 := hown.1
  obtain ⟨g, cap', w', hrun, hown', hwhere, hglt⟩ := run_append_either (P := P) (w := c.W) t ty e i z ht hi hz1 hz2 hsz u n vs hown ⟨b2, off2, none⟩ m cap2 ws (by omega) (fun j v hj => by rw [add_at]; exact (hcx j v hj).1)
    (fun v hv => by
      obtain ⟨j, hj⟩ := List.getElem?_of_mem hv
      exact (hcx j v hj).2.2) hm hmax (by omega)
  have hsz' : c.W.heap.size ≤ w'.heap.size := by
    rcases hwhere with ⟨_, h⟩ | ⟨_, h⟩ <;> exact h.size
  have hgB : W0.heap.size ≤ g := by
    rcases hwhere with ⟨h, _⟩ | ⟨h, _⟩
    · cases old with
      | none => rw [hnone rfl] at h; cases h
      | some k =>
        obtain ⟨g', h1, h2⟩ := hk k rfl
        rw [h2] at h
        injection h with h
        subst h
        exact (hB.tok k g' _ h1).1
    · omega
  -- which token is at g
  have hgt : ∀ t' l, c.τ t' = some (g, l) → old = some t' ∧ l = n * i.size := by
    intro t' l ht'
    rcases hwhere with ⟨h, _⟩ | ⟨h, _⟩
    · cases old with
      | none => rw [hnone rfl] at h; cases h
      | some k =>
        obtain ⟨g', h1, h2⟩ := hk k rfl
        rw [h2] at h
        injection h with h
        subst h
        have := hB.tinj t' k g' _ _ ht' h1
        subst this
        rw [h1] at ht'
        injection ht' with ht'
        injection ht' with _ ht'
        exact ⟨rfl, ht'.symm⟩
    · have := (hB.tok t' g l ht').2.1
      omega
  have hgr : ∀ k, c.ρ k ≠ some g := by
    intro k hkg
    rcases hwhere with ⟨h, _⟩ | ⟨h, _⟩
    · cases old with
      | none => rw [hnone rfl] at h; cases h
      | some k' =>
        obtain ⟨g', h1, h2⟩ := hk k' rfl
        rw [h2] at h
        injection h with h
        subst h
        exact (hB.tok k' g' _ h1).2.2.2.1 k hkg
    · have := (hB.rho k g hkg).2.1
      omega
  -- blocks other than g stay
  have hother : ∀ b, b < c.W.heap.size → b ≠ g → w'.heap[b]? = c.W.heap[b]? := by
    intro b hb hbg
    rcases hwhere with ⟨_, h⟩ | ⟨_, h⟩
    · exact h.block b hb (by simpa using hbg)
    · exact h.block b hb (by simp)
  have hokg : ∀ o, c.ok g o → o < n * i.size ∧ ∃ v, vs[o]? = some v ∧ c.W.cell? ⟨g, o, none⟩ = some v := by
    intro o ho
    rcases hwhere with ⟨h, _⟩ | ⟨h, _⟩
    · cases old with
      | none => rw [hnone rfl] at h; cases h
      | some k =>
        obtain ⟨g', h1, h2⟩ := hk k rfl
        have hgg : g' = g := by rw [h2] at h; injection h
        subst hgg
        have hlt := (hB.tok k g' _ h1).2.2.1 o ho
        refine ⟨hlt, ?_⟩
        have hvo : vs[o]? = some (vs[o]'(by omega)) := List.getElem?_eq_getElem (by omega)
        exact ⟨_, hvo, owns_cells hown h2 o _ hvo⟩
    · have := (hB.okb g o ho).2
      omega
  let c' : Cx := { W := w', ok := fun b o => c.ok b o ∨ (b = g ∧ o < (n + m) * i.size), ρ := c.ρ, τ := fun t => if t = id then some (g, (n + m) * i.size) else if old = some t then none else c.τ t, iss := fun t => c.iss t ∨ t = id }
  have hnewcell : ∀ j v, (vs ++ ws)[j]? = some v → w'.cell? ⟨g, j, none⟩ = some v := owns_cells hown' rfl
  have hmul : (n + m) * i.size = n * i.size + m * i.size := Nat.add_mul _ _ _
  have hle : Le c c' := by
    refine ⟨fun b o h => .inl h, fun b o v h hc => ?_, fun _ _ h => h, fun t h => .inl h, fun t g2 l2 hi2 h => ?_⟩
    · by_cases hbg : b = g
      · subst hbg
        obtain ⟨ho, v', hv', hcell⟩ := hokg o h
        rw [hc] at hcell
        injection hcell with hcell
        subst hcell
        exact hnewcell o v (by rw [List.getElem?_append_left (List.getElem?_eq_some_iff.1 hv').1]; exact hv')
      · show w'.cell? ⟨b, o, none⟩ = some v
        rw [cell_eq (hother b (hB.okb b o h).2 hbg)]
        exact hc
    · have hti : t ≠ id := fun e => hid (e ▸ hi2)
      by_cases hot : old = some t
      · simp [c', hti, hot] at h
      · have h' : c.τ t = some (g2, l2) := by simpa [c', hti, hot] using h
        refine ⟨h', hother g2 (hB.tok t g2 l2 h').2.1 (fun e => hot ?_)⟩
        subst e
        exact (hgt t l2 h').1
  refine ⟨_, c', hrun, ?_, hle, fun t h => h, ⟨?_, ?_, ?_, hB.inj, ?_, ?_⟩, fun bx hbx => hbx.le hle (fun k b hkb => hother b (hB.rho k b hkb).2.1 (fun e => hgr k (e ▸ hkb))), ?_⟩
  · simp only [Real]
    refine ⟨g, 0, cap', vs ++ ws, rfl, ?_, (hr.append hrx).le hle, fun j v hj => ?_, .inr rfl, fun g2 l2 hg2 => ?_⟩
    · rcases hown'.2 with ⟨h, _⟩ | ⟨g3, cap3, cur3, h, _, _, h3, _⟩
      · cases h
      · injection h with _ _ h
        omega
    · rw [Nat.zero_add]
      have hjl := (List.getElem?_eq_some_iff.1 hj).1
      rw [List.length_append] at hjl
      refine ⟨hnewcell j v hj, .inr ⟨rfl, by omega⟩, ?_⟩
      rcases List.mem_append.1 (List.mem_of_getElem? hj) with hv | hv
      · exact hv1 v hv
      · obtain ⟨j', hj'⟩ := List.getElem?_of_mem hv
        exact (hcx j' v hj').2.2
    · have : g = g2 ∧ (n + m) * i.size = l2 := by simpa [c'] using hg2
      obtain ⟨rfl, rfl⟩ := this
      exact ⟨rfl, rfl, hown'⟩
  · rintro b o (h | ⟨rfl, h⟩)
    · exact ⟨(hB.okb b o h).1, Nat.lt_of_lt_of_le (hB.okb b o h).2 hsz'⟩
    · exact ⟨.inr hgB, hglt⟩
  · have hgo : c.W.grownBy w' (some g) := by
      rcases hwhere with ⟨_, h⟩ | ⟨_, h⟩
      · exact h
      · exact ⟨h.os, h.tape, h.output, h.size, fun k hk _ => h.block k hk (by simp)⟩
    exact ⟨hgo.os.trans hB.below.os, hgo.tape.trans hB.below.tape, hgo.output.trans hB.below.output, Nat.le_trans h0 hsz', fun k hk2 => (hother k (Nat.lt_of_lt_of_le hk2 h0) (by omega)).trans (hB.below.block k hk2)⟩
  · intro k b hkb
    obtain ⟨h1, h2, h3, h4⟩ := hB.rho k b hkb
    refine ⟨h1, Nat.lt_of_lt_of_le h2 hsz', fun o ho => ?_, .inl h4⟩
    rcases ho with ho | ⟨rfl, _⟩
    · exact h3 o ho
    · exact hgr k hkb
  · intro t2 g2 l2 ht2
    by_cases hti : t2 = id
    · have : g = g2 ∧ (n + m) * i.size = l2 := by simpa [c', hti] using ht2
      obtain ⟨rfl, rfl⟩ := this
      refine ⟨hgB, hglt, fun o ho => ?_, hgr, .inr hti⟩
      rcases ho with ho | ⟨_, ho⟩
      · have := (hokg o ho).1
        omega
      · exact ho
    · by_cases hot : old = some t2
      · simp [c', hti, hot] at ht2
      · have h' : c.τ t2 = some (g2, l2) := by simpa [c', hti, hot] using ht2
        obtain ⟨h1, h2, h3, h4, h5⟩ := hB.tok t2 g2 l2 h'
        refine ⟨h1, Nat.lt_of_lt_of_le h2 hsz', fun o ho => ?_, h4, .inl h5⟩
        rcases ho with ho | ⟨rfl, _⟩
        · exact h3 o ho
        · exact absurd (hgt t2 l2 h').1 hot
  · intro t1 t2 g2 l1 l2 ht1 ht2
    have key : ∀ t l, (if t = id then some (g, (n + m) * i.size) else if old = some t then none else c.τ t) = some (g2, l) → t = id ∧ g = g2 ∨ t ≠ id ∧ old ≠ some t ∧ c.τ t = some (g2, l) := by
      intro t l h
      by_cases hti : t = id
      · rw [if_pos hti] at h
        injection h with h
        injection h with h _
        exact .inl ⟨hti, h⟩
      · rw [if_neg hti] at h
        by_cases hot : old = some t
        · rw [if_pos hot] at h; cases h
        · rw [if_neg hot] at h
          exact .inr ⟨hti, hot, h⟩
    rcases key t1 l1 ht1 with ⟨a1, a2⟩ | ⟨a1, a2, a3⟩ <;> rcases key t2 l2 ht2 with ⟨b1, b2⟩ | ⟨b1, b2, b3⟩
    · rw [a1, b1]
    · subst a2
      exact absurd (hgt t2 l2 b3).1 b2
    · subst b2
      exact absurd (hgt t1 l1 a3).1 a2
    · exact hB.tinj t1 t2 g2 l1 l2 a3 b3
  · intro lv hlv t2 ht2
    show (if t2 = id then some (g, (n + m) * i.size) else if old = some t2 then none else c.τ t2).isSome = true
    by_cases hti : t2 = id
    · rw [if_pos hti]; rfl
    · rw [if_neg hti]
      cases old with
      | none =>
        simp only [lvEff, hti, decide_false, Bool.false_or] at ht2
        simpa using hlv t2 ht2
      | some k =>
        simp only [lvEff, hti, decide_false, Bool.false_or, Bool.and_eq_true, decide_eq_true_eq] at ht2
        rw [if_neg (by simp; exact fun e => ht2.2 e.symm)]
        exact hlv t2 ht2.1
end
end Go.Proofs.YtmehknlijcbphaaGreatDoor.Ev
