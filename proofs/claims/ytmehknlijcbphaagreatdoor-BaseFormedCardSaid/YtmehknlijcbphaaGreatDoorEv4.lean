/- The function's memory between two operations, and how each kind of step turns it; no condition. -/
import Derived.Test.YtmehknlijcbphaaGreatDoorEv3
import Derived.Deep.DeepAppendRoom
namespace Go.Proofs.YtmehknlijcbphaaGreatDoor.Ev
open Go Go.RowKit

/-- W0: the memory when the function began; ok0: what it was given to look at. -/
structure Base (W0 : World) (ok0 : Nat → Nat → Prop) (c : Cx) : Prop where
  okb : ∀ b o, c.ok b o → (ok0 b o ∨ W0.heap.size ≤ b) ∧ b < c.W.heap.size
  below : Below W0.heap.size W0 c.W
  rho : ∀ k b, c.ρ k = some b → W0.heap.size ≤ b ∧ b < c.W.heap.size ∧ (∀ o, ¬ c.ok b o) ∧ c.iss k
  inj : ∀ k k' b, c.ρ k = some b → c.ρ k' = some b → k = k'
  tok : ∀ t g lim, c.τ t = some (g, lim) → W0.heap.size ≤ g ∧ g < c.W.heap.size ∧ (∀ o, c.ok g o → o < lim) ∧ (∀ k, c.ρ k ≠ some g) ∧ c.iss t
  tinj : ∀ t t' g l l', c.τ t = some (g, l) → c.τ t' = some (g, l') → t = t'

def BoxOk [Syms] (bx : Nat → Option (TypeId × List AV)) (c : Cx) : Prop :=
  ∀ k e cs, bx k = some (e, cs) → ∃ (b : Nat) (vs : List Value), c.ρ k = some b ∧ c.W.heap[b]? = some (.cells vs.toArray e (0, 0)) ∧ RealL c cs vs ∧ ∀ v ∈ vs, v.oneCell' = true
def LiveOk (lv : Nat → Bool) (c : Cx) : Prop := ∀ t, lv t = true → (c.τ t).isSome = true

def bxEff (id : Nat) (bx : Nat → Option (TypeId × List AV)) : Eff → Nat → Option (TypeId × List AV)
  | .box e cs, k => if k = id then some (e, cs) else bx k
  | .store j cs, k => if k = j then (bx k).map fun p => (p.1, cs) else bx k
  | _, k => bx k
def lvEff (id : Nat) (lv : Nat → Bool) : Eff → Nat → Bool
  | .tok none, k => k = id || lv k
  | .tok (some j), k => k = id || (lv k && decide (k ≠ j))
  | _, k => lv k

structure EffOk [Syms] (W0 : World) (ok0 : Nat → Nat → Prop) (id : Nat) (eff : Eff) (c c' : Cx) : Prop where
  le : Le c c'
  iss : ∀ t, c'.iss t → c.iss t ∨ t = id
  base : Base W0 ok0 c'
  box : ∀ bx, BoxOk bx c → BoxOk (bxEff id bx eff) c'
  live : ∀ lv, LiveOk lv c → LiveOk (lvEff id lv eff) c'

theorem cell_lt {w : World} {b o : Nat} {v : Value} (h : w.cell? ⟨b, o, none⟩ = some v) : b < w.heap.size := World.block_lt_of_cell? w ⟨b, o, none⟩ h
theorem cell_eq {w w' : World} {b o : Nat} (h : w'.heap[b]? = w.heap[b]?) : w'.cell? ⟨b, o, none⟩ = w.cell? ⟨b, o, none⟩ := World.cell?_of_block (a := ⟨b, o, none⟩) h
theorem alloc_old (w : World) (o : Obj) {k : Nat} (h : k < w.heap.size) : (w.alloc o).heap[k]? = w.heap[k]? := by
  simp only [World.alloc, Array.getElem?_push]
  rw [if_neg (by omega)]
theorem alloc_new (w : World) (o : Obj) : (w.alloc o).heap[w.heap.size]? = some o := heap_alloc_new w o
theorem alloc_size (w : World) (o : Obj) : (w.alloc o).heap.size = w.heap.size + 1 := World.size_alloc w o
theorem row_cell {w : World} {b o : Nat} {vs : List Value} {e : TypeId} {fr : Nat × Nat} (h : w.heap[b]? = some (.cells vs.toArray e fr)) : w.cell? ⟨b, o, none⟩ = vs[o]? := by
  simp [World.cell?, h]

section
variable {W0 : World} {ok0 : Nat → Nat → Prop} {id : Nat} {c : Cx}

theorem EffOk.same [Syms] (hB : Base W0 ok0 c) : EffOk W0 ok0 id .none c c := ⟨Le.refl c, fun _ h => .inl h, hB, fun _ h => h, fun _ h => h⟩

theorem BoxOk.le [Syms] {c' : Cx} {bx : Nat → Option (TypeId × List AV)} (h : BoxOk bx c) (hl : Le c c') (hk : ∀ k b, c.ρ k = some b → c'.W.heap[b]? = c.W.heap[b]?) : BoxOk bx c' := fun k e cs hb => by
  obtain ⟨b, vs, h1, h2, h3, h4⟩ := h k e cs hb
  exact ⟨b, vs, hl.rho k b h1, (hk k b h1).trans h2, h3.le hl, h4⟩

/-- A step that leaves all that there was as it was: what is new may be looked at. -/
theorem EffOk.below [Syms] {W' : World} (hB : Base W0 ok0 c) (hb : Below c.W.heap.size c.W W') :
    EffOk W0 ok0 id .none c { c with W := W', ok := fun b o => c.ok b o ∨ (c.W.heap.size ≤ b ∧ b < W'.heap.size) } := by
  have h0 : W0.heap.size ≤ c.W.heap.size := hB.below.size
  have hsz : c.W.heap.size ≤ W'.heap.size := hb.size
  have hle : Le c { c with W := W', ok := fun b o => c.ok b o ∨ (c.W.heap.size ≤ b ∧ b < W'.heap.size) } :=
    ⟨fun b o h => .inl h, fun b o v h hc => by rw [cell_eq (hb.block b (hB.okb b o h).2)]; exact hc, fun _ _ h => h, fun t h => h, fun t g lim _ h => ⟨h, hb.block g (hB.tok t g lim h).2.1⟩⟩
  refine ⟨hle, fun t h => .inl h, ⟨?_, hB.below.trans (hb.mono h0), ?_, hB.inj, ?_, hB.tinj⟩, fun bx h => h.le hle (fun k b hk => hb.block b (hB.rho k b hk).2.1), fun _ h => h⟩
  · rintro b o (h | ⟨h1, h2⟩)
    · exact ⟨(hB.okb b o h).1, Nat.lt_of_lt_of_le (hB.okb b o h).2 hsz⟩
    · exact ⟨.inr (Nat.le_trans h0 h1), h2⟩
  · intro k b hk
    obtain ⟨h1, h2, h3, h4⟩ := hB.rho k b hk
    refine ⟨h1, Nat.lt_of_lt_of_le h2 hsz, fun o ho => ?_, h4⟩
    rcases ho with ho | ⟨ho, _⟩
    · exact h3 o ho
    · omega
  · intro t g lim ht
    obtain ⟨h1, h2, h3, h4, h5⟩ := hB.tok t g lim ht
    refine ⟨h1, Nat.lt_of_lt_of_le h2 hsz, fun o ho => ?_, h4, h5⟩
    rcases ho with ho | ⟨ho, _⟩
    · exact h3 o ho
    · omega

/-- A step that leaves the memory as it was. -/
theorem EffOk.drew [Syms] {W' : World} (hB : Base W0 ok0 c) (hb : Below c.W.heap.size c.W W') : EffOk W0 ok0 id .none c { c with W := W' } := by
  have h0 : W0.heap.size ≤ c.W.heap.size := hB.below.size
  have hsz : c.W.heap.size ≤ W'.heap.size := hb.size
  have hle : Le c { c with W := W' } :=
    ⟨fun b o h => h, fun b o v h hc => by rw [cell_eq (hb.block b (hB.okb b o h).2)]; exact hc, fun _ _ h => h, fun t h => h, fun t g lim _ h => ⟨h, hb.block g (hB.tok t g lim h).2.1⟩⟩
  refine ⟨hle, fun t h => .inl h, ⟨?_, hB.below.trans (hb.mono h0), ?_, hB.inj, ?_, hB.tinj⟩, fun bx h => h.le hle (fun k b hk => hb.block b (hB.rho k b hk).2.1), fun _ h => h⟩
  · intro b o h
    exact ⟨(hB.okb b o h).1, Nat.lt_of_lt_of_le (hB.okb b o h).2 hsz⟩
  · intro k b hk
    obtain ⟨h1, h2, h3, h4⟩ := hB.rho k b hk
    exact ⟨h1, Nat.lt_of_lt_of_le h2 hsz, h3, h4⟩
  · intro t g lim ht
    obtain ⟨h1, h2, h3, h4, h5⟩ := hB.tok t g lim ht
    exact ⟨h1, Nat.lt_of_lt_of_le h2 hsz, h3, h4, h5⟩

/-- A new box. -/
theorem EffOk.newBox [Syms] (hB : Base W0 ok0 c) (hid : ¬ c.iss id) {e : TypeId} {cs : List AV} {vs : List Value} (hr : RealL c cs vs) (h1 : ∀ v ∈ vs, v.oneCell' = true) :
    ∃ c', EffOk W0 ok0 id (.box e cs) c c' ∧ c'.W = c.W.alloc (.cells vs.toArray e) ∧ c'.ρ id = some c.W.heap.size := by
  have h0 : W0.heap.size ≤ c.W.heap.size := hB.below.size
  have hid' : ∀ k b, c.ρ k = some b → k ≠ id := fun k b h e => hid (e ▸ (hB.rho k b h).2.2.2)
  let c' : Cx := { W := c.W.alloc (.cells vs.toArray e), ok := c.ok, ρ := fun k => if k = id then some c.W.heap.size else c.ρ k, τ := c.τ, iss := fun t => c.iss t ∨ t = id }
  have hle : Le c c' :=
    ⟨fun b o h => h, fun b o v h hc => by rw [cell_eq (alloc_old _ _ (hB.okb b o h).2)]; exact hc, fun k b h => by show (if k = id then _ else _) = _; rw [if_neg (hid' k b h)]; exact h, fun t h => .inl h,
     fun t g lim _ h => ⟨h, alloc_old _ _ (hB.tok t g lim h).2.1⟩⟩
  have hsz : c'.W.heap.size = c.W.heap.size + 1 := alloc_size _ _
  refine ⟨c', ⟨hle, fun t h => h, ⟨?_, (Below.alloc hB.below h0 _), ?_, ?_, ?_, hB.tinj⟩, ?_, fun _ h => h⟩, rfl, by simp [c']⟩
  · intro b o h
    exact ⟨(hB.okb b o h).1, by rw [hsz]; exact Nat.lt_succ_of_lt (hB.okb b o h).2⟩
  · intro k b hk
    by_cases hki : k = id
    · subst hki
      have : c.W.heap.size = b := by simpa [c'] using hk
      subst this
      exact ⟨h0, by rw [hsz]; omega, fun o ho => Nat.lt_irrefl _ (hB.okb _ o ho).2, .inr rfl⟩
    · have hk' : c.ρ k = some b := by simpa [c', hki] using hk
      obtain ⟨h1, h2, h3, h4⟩ := hB.rho k b hk'
      exact ⟨h1, by rw [hsz]; omega, h3, .inl h4⟩
  · intro k k' b hk hk'
    by_cases hki : k = id <;> by_cases hki' : k' = id
    · rw [hki, hki']
    · have e1 : c.W.heap.size = b := by simpa [c', hki] using hk
      have e2 : c.ρ k' = some b := by simpa [c', hki'] using hk'
      have := (hB.rho k' b e2).2.1
      omega
    · have e1 : c.W.heap.size = b := by simpa [c', hki'] using hk'
      have e2 : c.ρ k = some b := by simpa [c', hki] using hk
      have := (hB.rho k b e2).2.1
      omega
    · exact hB.inj k k' b (by simpa [c', hki] using hk) (by simpa [c', hki'] using hk')
  · intro t g lim ht
    obtain ⟨h1, h2, h3, h4, h5⟩ := hB.tok t g lim ht
    refine ⟨h1, by rw [hsz]; omega, h3, fun k hk => ?_, .inl h5⟩
    by_cases hki : k = id
    · have : c.W.heap.size = g := by simpa [c', hki] using hk
      omega
    · exact h4 k (by simpa [c', hki] using hk)
  · intro bx hbx k e2 cs2 hk
    simp only [bxEff] at hk
    split at hk
    · rename_i hki
      injection hk with hk
      injection hk with hk1 hk2
      subst hk1
      subst hk2
      exact ⟨c.W.heap.size, vs, by simp [c', hki], alloc_new _ _, hr.le hle, h1⟩
    · exact hbx.le hle (fun k b hk => alloc_old _ _ (hB.rho k b hk).2.1) k e2 cs2 hk

/-- A new row of its own. -/
theorem EffOk.newRow [Syms] (hB : Base W0 ok0 c) (hid : ¬ c.iss id) {e : TypeId} {n sz : Nat} {cs : List AV} {vs : List Value} (hr : RealL c cs vs) (h1 : ∀ v ∈ vs, v.oneCell' = true) (hl : vs.length = n * sz) (hm : n ≤ maxLen) :
    ∃ c', EffOk W0 ok0 id (.tok none) c c' ∧ c'.W = c.W.alloc (.cells vs.toArray e) ∧ Real c' (.sl n cs (some (id, e, sz))) (.slice (some ⟨c.W.heap.size, 0, none⟩) n n) := by
  have h0 : W0.heap.size ≤ c.W.heap.size := hB.below.size
  have hid' : ∀ t g l, c.τ t = some (g, l) → t ≠ id := fun t g l h e => hid (e ▸ (hB.tok t g l h).2.2.2.2)
  let c' : Cx := { W := c.W.alloc (.cells vs.toArray e), ok := fun b o => c.ok b o ∨ (b = c.W.heap.size ∧ o < n * sz), ρ := c.ρ, τ := fun t => if t = id then some (c.W.heap.size, n * sz) else c.τ t, iss := fun t => c.iss t ∨ t = id }
  have hle : Le c c' :=
    ⟨fun b o h => .inl h, fun b o v h hc => by rw [cell_eq (alloc_old _ _ (hB.okb b o h).2)]; exact hc, fun k b h => h, fun t h => .inl h,
     fun t g lim hi h => by
      have hti : t ≠ id := fun e => hid (e ▸ hi)
      have h' : c.τ t = some (g, lim) := by simpa [c', hti] using h
      exact ⟨h', alloc_old _ _ (hB.tok t g lim h').2.1⟩⟩
  have hsz : c'.W.heap.size = c.W.heap.size + 1 := alloc_size _ _
  have hnew : c'.W.heap[c.W.heap.size]? = some (.cells vs.toArray e (0, 0)) := alloc_new _ _
  refine ⟨c', ⟨hle, fun t h => h, ⟨?_, (Below.alloc hB.below h0 _), ?_, hB.inj, ?_, ?_⟩, fun bx hbx => hbx.le hle (fun k b hk => alloc_old _ _ (hB.rho k b hk).2.1), ?_⟩, rfl, ?_⟩
  · rintro b o (h | ⟨rfl, h⟩)
    · exact ⟨(hB.okb b o h).1, by rw [hsz]; exact Nat.lt_succ_of_lt (hB.okb b o h).2⟩
    · exact ⟨.inr h0, by rw [hsz]; omega⟩
  · intro k b hk
    obtain ⟨h1, h2, h3, h4⟩ := hB.rho k b hk
    refine ⟨h1, by rw [hsz]; omega, fun o ho => ?_, .inl h4⟩
    rcases ho with ho | ⟨rfl, _⟩
    · exact h3 o ho
    · omega
  · intro t g lim ht
    by_cases hti : t = id
    · have : c.W.heap.size = g ∧ n * sz = lim := by simpa [c', hti] using ht
      obtain ⟨rfl, rfl⟩ := this
      refine ⟨h0, by rw [hsz]; omega, fun o ho => ?_, fun k hk => Nat.lt_irrefl _ (hB.rho k _ hk).2.1, .inr hti⟩
      rcases ho with ho | ⟨_, ho⟩
      · exact absurd (hB.okb _ o ho).2 (Nat.lt_irrefl _)
      · exact ho
    · have ht' : c.τ t = some (g, lim) := by simpa [c', hti] using ht
      obtain ⟨h1, h2, h3, h4, h5⟩ := hB.tok t g lim ht'
      refine ⟨h1, by rw [hsz]; omega, fun o ho => ?_, h4, .inl h5⟩
      rcases ho with ho | ⟨rfl, _⟩
      · exact h3 o ho
      · omega
  · intro t t' g l l' ht ht'
    by_cases hti : t = id <;> by_cases hti' : t' = id
    · rw [hti, hti']
    · have e1 : c.W.heap.size = g ∧ n * sz = l := by simpa [c', hti] using ht
      have e2 : c.τ t' = some (g, l') := by simpa [c', hti'] using ht'
      have := (hB.tok t' g l' e2).2.1
      omega
    · have e1 : c.W.heap.size = g ∧ n * sz = l' := by simpa [c', hti'] using ht'
      have e2 : c.τ t = some (g, l) := by simpa [c', hti] using ht
      have := (hB.tok t g l e2).2.1
      omega
    · exact hB.tinj t t' g l l' (by simpa [c', hti] using ht) (by simpa [c', hti'] using ht')
  · intro lv hlv t ht
    simp only [lvEff, Bool.or_eq_true, decide_eq_true_eq] at ht
    by_cases hti : t = id
    · simp [c', hti]
    · have := hlv t (by simpa [hti] using ht)
      simpa [c', hti] using this
  · simp only [Real]
    refine ⟨c.W.heap.size, 0, n, vs, rfl, Nat.le_refl _, hr.le hle, fun j v hj => ?_, .inr rfl, fun g lim ht => ?_⟩
    · obtain ⟨hj1, hj2⟩ := List.getElem?_eq_some_iff.1 hj
      refine ⟨by rw [Nat.zero_add, row_cell hnew]; exact hj, .inr ⟨rfl, by omega⟩, h1 v (List.mem_of_getElem? hj)⟩
    · have : c.W.heap.size = g ∧ n * sz = lim := by simpa [c'] using ht
      obtain ⟨rfl, rfl⟩ := this
      exact ⟨rfl, rfl, hl, .inr ⟨c.W.heap.size, n, vs.toArray, rfl, Nat.zero_le _, hnew, Nat.le_refl _, hm, by simp [hl], by simp [← hl]⟩⟩

/-- A store into a box. -/
theorem EffOk.store [Syms] (hB : Base W0 ok0 c) {k b : Nat} {e : TypeId} {old vs : List Value} {cs : List AV} (hk : c.ρ k = some b) (hold : c.W.heap[b]? = some (.cells old.toArray e (0, 0))) (hr : RealL c cs vs) (h1 : ∀ v ∈ vs, v.oneCell' = true) :
    EffOk W0 ok0 id (.store k cs) c { c with W := putB c.W b (.cells vs.toArray e (0, 0)) } := by
  have h0 : W0.heap.size ≤ c.W.heap.size := hB.below.size
  obtain ⟨hb1, hb2, hb3, hb4⟩ := hB.rho k b hk
  have hle : Le c { c with W := putB c.W b (.cells vs.toArray e (0, 0)) } :=
    ⟨fun b o h => h, fun b' o v h hc => by rw [cell_eq (putB_other (fun e => hb3 o (by rw [← e]; exact h)))]; exact hc, fun _ _ h => h, fun t h => h,
     fun t g lim _ h => ⟨h, putB_other (fun e => (hB.tok t g lim h).2.2.2.1 k (by rw [e]; exact hk))⟩⟩
  have hbe : Below W0.heap.size W0 (putB c.W b (.cells vs.toArray e (0, 0))) :=
    ⟨hB.below.os, hB.below.tape, hB.below.output, by rw [putB_size]; exact h0, fun j hj => by rw [putB_other (by omega)]; exact hB.below.block j hj⟩
  refine ⟨hle, fun t h => .inl h, ⟨?_, hbe, ?_, hB.inj, ?_, hB.tinj⟩, ?_, fun _ h => h⟩
  · intro b o h
    exact ⟨(hB.okb b o h).1, by rw [putB_size]; exact (hB.okb b o h).2⟩
  · intro k b hk
    obtain ⟨h1, h2, h3, h4⟩ := hB.rho k b hk
    exact ⟨h1, by rw [putB_size]; exact h2, h3, h4⟩
  · intro t g lim ht
    obtain ⟨h1, h2, h3, h4, h5⟩ := hB.tok t g lim ht
    exact ⟨h1, by rw [putB_size]; exact h2, h3, h4, h5⟩
  · intro bx hbx j e2 cs2 hj
    simp only [bxEff] at hj
    split at hj
    · rename_i hjk
      subst hjk
      cases hbj : bx j with
      | none => rw [hbj] at hj; cases hj
      | some p =>
        rw [hbj] at hj
        injection hj with hj
        injection hj with hj1 hj2
        obtain ⟨b', vs', h2, h3, _, _⟩ := hbx j p.1 p.2 hbj
        rw [hk] at h2
        injection h2 with h2
        subst h2
        rw [hold] at h3
        injection h3 with h3
        injection h3 with _ h3
        subst hj1
        subst hj2
        rw [← h3]
        exact ⟨b, vs, hk, putB_same hold, hr.le hle, h1⟩
    · rename_i hjk
      obtain ⟨b', vs', h2, h3, h4, h5⟩ := hbx j e2 cs2 hj
      refine ⟨b', vs', h2, ?_, h4.le hle, h5⟩
      rw [putB_other (fun e => hjk (hB.inj j k b (by rw [← e]; exact h2) hk))]
      exact h3

end
end Go.Proofs.YtmehknlijcbphaaGreatDoor.Ev
