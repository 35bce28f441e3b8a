/- What an abstract value says of a value and of memory; how it outlives the function's steps; no condition. -/
import Derived.Test.YtmehknlijcbphaaGreatDoorEv1
import Derived.WalkKit
namespace Go.Proofs.YtmehknlijcbphaaGreatDoor.Ev
open Go

/-- A memory, the cells that may be looked at, where the boxes lie, which rows have room of their own, which numbers have been given out. -/
structure Cx where
  W : World
  ok : Nat → Nat → Prop
  ρ : Nat → Option Nat
  τ : Nat → Option (Nat × Nat)
  iss : Nat → Prop

def CellsAt (c : Cx) (b off : Nat) (vs : List Value) : Prop :=
  ∀ j v, vs[j]? = some v → c.W.cell? ⟨b, off + j, none⟩ = some v ∧ c.ok b (off + j) ∧ v.oneCell' = true

def TokOk (c : Cx) (u : Value) (n : Nat) (vs : List Value) : Option (Nat × TypeId × Nat) → Prop
  | none => True
  | some (t, e, sz) => c.iss t ∧ ∀ g lim, c.τ t = some (g, lim) → lim = n * sz ∧ u.ownBlock = some g ∧ c.W.ownsRow 0 e sz u n vs

mutual
def Real [Syms] (c : Cx) : AV → Value → Prop
  | .any, _ => True
  | .lit v, u => u = v
  | .agg cs, u => ∃ vs : List Value, u = .agg vs.toArray ∧ RealL c cs vs ∧ ∀ v ∈ vs, v.oneCell' = true
  | .sl n cs tok, u => ∃ (b off cap : Nat) (vs : List Value), u = .slice (some ⟨b, off, none⟩) n cap ∧ n ≤ cap ∧ RealL c cs vs ∧ CellsAt c b off vs ∧ TokOk c u n vs tok
  | .box k off, u => ∃ b : Nat, c.ρ k = some b ∧ u = .pointer (some ⟨b, off, none⟩)
  | .rd cs, u => ∃ (b off : Nat) (vs : List Value), u = .pointer (some ⟨b, off, none⟩) ∧ RealL c cs vs ∧ CellsAt c b off vs
  | .tup cs, u => ∃ vs : List Value, u = .tuple vs.toArray ∧ RealL c cs vs
  | .clo f cs, u => ∃ vs : List Value, u = .func (.func f) #[] vs.toArray ∧ RealL c cs vs
  | .sym i, u => u = Syms.val i
def RealL [Syms] (c : Cx) : List AV → List Value → Prop
  | [], vs => vs = []
  | a :: as, vs => ∃ u us, vs = u :: us ∧ Real c a u ∧ RealL c as us
end

/-- What held still holds. -/
structure Le (c c' : Cx) : Prop where
  ok : ∀ b o, c.ok b o → c'.ok b o
  cell : ∀ b o v, c.ok b o → c.W.cell? ⟨b, o, none⟩ = some v → c'.W.cell? ⟨b, o, none⟩ = some v
  rho : ∀ k b, c.ρ k = some b → c'.ρ k = some b
  iss : ∀ t, c.iss t → c'.iss t
  tau : ∀ t g lim, c.iss t → c'.τ t = some (g, lim) → c.τ t = some (g, lim) ∧ c'.W.heap[g]? = c.W.heap[g]?

theorem Le.refl (c : Cx) : Le c c := ⟨fun _ _ h => h, fun _ _ _ _ h => h, fun _ _ h => h, fun _ h => h, fun _ _ _ _ h => ⟨h, rfl⟩⟩
theorem Le.trans {a b c : Cx} (h : Le a b) (h' : Le b c) : Le a c :=
  ⟨fun b o x => h'.ok b o (h.ok b o x), fun b o v x y => h'.cell b o v (h.ok b o x) (h.cell b o v x y), fun k b x => h'.rho k b (h.rho k b x), fun t x => h'.iss t (h.iss t x),
   fun t g lim x y => by
    obtain ⟨y1, y2⟩ := h'.tau t g lim (h.iss t x) y
    obtain ⟨z1, z2⟩ := h.tau t g lim x y1
    exact ⟨z1, y2.trans z2⟩⟩

theorem CellsAt.le {c c' : Cx} (h : Le c c') {b off : Nat} {vs : List Value} (hc : CellsAt c b off vs) : CellsAt c' b off vs := fun j v hj =>
  let ⟨h1, h2, h3⟩ := hc j v hj
  ⟨h.cell _ _ _ h2 h1, h.ok _ _ h2, h3⟩
theorem ownsRow_heap {w w' : World} {b e sz n : Nat} {u : Value} {vs : List Value} {g : Nat} (hu : u.ownBlock = some g) (h : w'.heap[g]? = w.heap[g]?) (ho : w.ownsRow b e sz u n vs) : w'.ownsRow b e sz u n vs := by
  obtain ⟨h1, h2⟩ := ho
  refine ⟨h1, ?_⟩
  rcases h2 with h2 | ⟨g', cap, cur, rfl, h3, h4, r⟩
  · exact .inl h2
  · have : g' = g := by simpa [Value.ownBlock] using hu
    subst this
    exact .inr ⟨g', cap, cur, rfl, h3, h.trans h4, r⟩
theorem TokOk.le [Syms] {c c' : Cx} (h : Le c c') {u : Value} {n : Nat} {vs : List Value} : ∀ {tok : Option (Nat × TypeId × Nat)}, TokOk c u n vs tok → TokOk c' u n vs tok
  | none, _ => trivial
  | some (t, e, sz), ht => ⟨h.iss t ht.1, fun g lim hg => by
    obtain ⟨h1, h2⟩ := h.tau t g lim ht.1 hg
    obtain ⟨h3, h4, h5⟩ := ht.2 g lim h1
    exact ⟨h3, h4, ownsRow_heap h4 h2 h5⟩⟩

mutual
theorem Real.le [Syms] {c c' : Cx} (h : Le c c') : ∀ (a : AV) (u : Value), Real c a u → Real c' a u
  | .any, _, _ => by simp only [Real]
  | .lit v, u, hr => by simp only [Real] at hr ⊢; exact hr
  | .agg cs, u, hr => by
    simp only [Real] at hr ⊢
    obtain ⟨vs, e, h1, h2⟩ := hr
    exact ⟨vs, e, RealL.le h cs vs h1, h2⟩
  | .sl n cs tok, u, hr => by
    simp only [Real] at hr ⊢
    obtain ⟨b, off, cap, vs, e, h0, h1, h2, h3⟩ := hr
    exact ⟨b, off, cap, vs, e, h0, RealL.le h cs vs h1, h2.le h, h3.le h⟩
  | .box k off, u, hr => by
    simp only [Real] at hr ⊢
    obtain ⟨b, h1, h2⟩ := hr
    exact ⟨b, h.rho k b h1, h2⟩
  | .rd cs, u, hr => by
    simp only [Real] at hr ⊢
    obtain ⟨b, off, vs, e, h1, h2⟩ := hr
    exact ⟨b, off, vs, e, RealL.le h cs vs h1, h2.le h⟩
  | .tup cs, u, hr => by
    simp only [Real] at hr ⊢
    obtain ⟨vs, e, h1⟩ := hr
    exact ⟨vs, e, RealL.le h cs vs h1⟩
  | .clo f cs, u, hr => by
    simp only [Real] at hr ⊢
    obtain ⟨vs, e, h1⟩ := hr
    exact ⟨vs, e, RealL.le h cs vs h1⟩
  | .sym i, u, hr => by simp only [Real] at hr ⊢; exact hr
theorem RealL.le [Syms] {c c' : Cx} (h : Le c c') : ∀ (as : List AV) (vs : List Value), RealL c as vs → RealL c' as vs
  | [], _, hr => by simp only [RealL] at hr ⊢; exact hr
  | a :: as, vs, hr => by
    simp only [RealL] at hr ⊢
    obtain ⟨u, us, e, h1, h2⟩ := hr
    exact ⟨u, us, e, Real.le h a u h1, RealL.le h as us h2⟩
end

section
variable {c : Cx}
theorem realL_nil [Syms] : RealL c [] [] := by simp only [RealL]
theorem realL_cons [Syms] {a : AV} {as : List AV} {u : Value} {us : List Value} (h : Real c a u) (h' : RealL c as us) : RealL c (a :: as) (u :: us) := by
  simp only [RealL]; exact ⟨u, us, rfl, h, h'⟩
theorem realL_cons_inv [Syms] {a : AV} {as : List AV} {vs : List Value} (h : RealL c (a :: as) vs) : ∃ u us, vs = u :: us ∧ Real c a u ∧ RealL c as us := by
  simpa only [RealL] using h
theorem realL_nil_inv [Syms] {vs : List Value} (h : RealL c [] vs) : vs = [] := by simpa only [RealL] using h
theorem RealL.length [Syms] : ∀ {as : List AV} {vs : List Value}, RealL c as vs → vs.length = as.length
  | [], vs, h => by rw [realL_nil_inv h]; rfl
  | a :: as, vs, h => by
    obtain ⟨u, us, rfl, _, h2⟩ := realL_cons_inv h
    simp [RealL.length h2]
theorem RealL.append [Syms] : ∀ {as bs : List AV} {vs us : List Value}, RealL c as vs → RealL c bs us → RealL c (as ++ bs) (vs ++ us)
  | [], bs, vs, us, h, h' => by rw [realL_nil_inv h]; exact h'
  | a :: as, bs, vs, us, h, h' => by
    obtain ⟨u, r, rfl, h1, h2⟩ := realL_cons_inv h
    exact realL_cons h1 (h2.append h')
theorem RealL.take [Syms] : ∀ (n : Nat) {as : List AV} {vs : List Value}, RealL c as vs → RealL c (as.take n) (vs.take n)
  | 0, _, _, _ => by simp only [List.take_zero]; exact realL_nil
  | n + 1, [], vs, h => by rw [realL_nil_inv h]; exact realL_nil
  | n + 1, a :: as, vs, h => by
    obtain ⟨u, r, rfl, h1, h2⟩ := realL_cons_inv h
    exact realL_cons h1 (h2.take n)
theorem RealL.drop [Syms] : ∀ (n : Nat) {as : List AV} {vs : List Value}, RealL c as vs → RealL c (as.drop n) (vs.drop n)
  | 0, _, _, h => h
  | n + 1, [], vs, h => by rw [realL_nil_inv h]; exact realL_nil
  | n + 1, a :: as, vs, h => by
    obtain ⟨u, r, rfl, h1, h2⟩ := realL_cons_inv h
    exact h2.drop n
theorem RealL.get [Syms] : ∀ {as : List AV} {vs : List Value} {i : Nat} {a : AV}, RealL c as vs → as[i]? = some a → ∃ u, vs[i]? = some u ∧ Real c a u
  | [], _, _, _, _, hi => by simp at hi
  | a :: as, vs, 0, a', h, hi => by
    obtain ⟨u, r, rfl, h1, h2⟩ := realL_cons_inv h
    simp at hi
    subst hi
    exact ⟨u, rfl, h1⟩
  | a :: as, vs, i + 1, a', h, hi => by
    obtain ⟨u, r, rfl, h1, h2⟩ := realL_cons_inv h
    exact h2.get (by simpa using hi)
theorem realL_lits [Syms] : ∀ (vs : List Value), RealL c (vs.map AV.lit) vs
  | [] => realL_nil
  | v :: vs => realL_cons (by simp only [Real]) (realL_lits vs)
theorem realL_rep [Syms] {z : List AV} {zs : List Value} (h : RealL c z zs) : ∀ n, RealL c ((List.replicate n z).flatten) ((List.replicate n zs).flatten)
  | 0 => realL_nil
  | n + 1 => by
    simp only [List.replicate_succ, List.flatten_cons]
    exact h.append (realL_rep h n)
/-- vs with us at place i. -/
def putV : List Value → Nat → List Value → List Value
  | cs, _, [] => cs
  | [], _, _ => []
  | _ :: cs, 0, y :: ys => y :: putV cs 0 ys
  | x :: cs, i + 1, ys => x :: putV cs i ys
theorem putV_nil (cs : List Value) (i : Nat) : putV cs i [] = cs := by cases cs <;> cases i <;> rfl
theorem put_nil (cs : List AV) (i : Nat) : put cs i [] = cs := by cases cs <;> cases i <;> rfl
theorem RealL.put [Syms] : ∀ {as : List AV} {vs : List Value} (i : Nat) {bs : List AV} {us : List Value}, RealL c as vs → RealL c bs us → RealL c (put as i bs) (putV vs i us)
  | as, vs, i, [], us, h, h' => by rw [realL_nil_inv h', put_nil, putV_nil]; exact h
  | [], vs, i, b :: bs, us, h, h' => by
    rw [realL_nil_inv h]
    obtain ⟨u, r, rfl, _, _⟩ := realL_cons_inv h'
    cases i <;> exact realL_nil
  | a :: as, vs, 0, b :: bs, us, h, h' => by
    obtain ⟨u, r, rfl, h1, h2⟩ := realL_cons_inv h
    obtain ⟨x, y, rfl, h3, h4⟩ := realL_cons_inv h'
    exact realL_cons h3 (RealL.put 0 h2 h4)
  | a :: as, vs, i + 1, b :: bs, us, h, h' => by
    obtain ⟨u, r, rfl, h1, h2⟩ := realL_cons_inv h
    obtain ⟨x, y, rfl, h3, h4⟩ := realL_cons_inv h'
    exact realL_cons h1 (RealL.put i h2 h')
theorem putV_length [Syms] : ∀ (cs : List Value) (i : Nat) (ys : List Value), (putV cs i ys).length = cs.length
  | cs, i, [] => by rw [putV_nil]
  | [], i, y :: ys => by cases i <;> rfl
  | c :: cs, 0, y :: ys => by simp [putV, putV_length cs 0 ys]
  | c :: cs, i + 1, y :: ys => by simp [putV, putV_length cs i (y :: ys)]
theorem putV_get [Syms] : ∀ (cs : List Value) (i : Nat) (ys : List Value) (j : Nat), (putV cs i ys)[j]? = if i ≤ j ∧ j < i + ys.length ∧ j < cs.length then ys[j - i]? else cs[j]?
  | cs, i, [], j => by rw [putV_nil, if_neg (by simp; omega)]
  | [], i, y :: ys, j => by cases i <;> simp [putV]
  | c :: cs, 0, y :: ys, 0 => by simp [putV]
  | c :: cs, 0, y :: ys, j + 1 => by
    have := putV_get cs 0 ys j
    simp only [putV, List.getElem?_cons_succ, this]
    simp
  | c :: cs, i + 1, y :: ys, 0 => by simp [putV]
  | c :: cs, i + 1, y :: ys, j + 1 => by
    have := putV_get cs i (y :: ys) j
    simp only [putV, List.getElem?_cons_succ, this, List.length_cons]
    by_cases hh : i ≤ j ∧ j < i + (ys.length + 1) ∧ j < cs.length
    · rw [if_pos hh, if_pos (by omega), show j + 1 - (i + 1) = j - i by omega]
    · rw [if_neg hh, if_neg (by omega)]
theorem putV_mem [Syms] {cs : List Value} {i : Nat} {ys : List Value} {v : Value} (h : v ∈ putV cs i ys) : v ∈ cs ∨ v ∈ ys := by
  obtain ⟨j, hj⟩ := List.getElem?_of_mem h
  rw [putV_get] at hj
  split at hj
  · exact .inr (List.mem_of_getElem? hj)
  · exact .inl (List.mem_of_getElem? hj)

theorem lits_some [Syms] {cs : Array Value} {l : List AV} (h : lits cs = some l) : RealL c l cs.toList ∧ ∀ v ∈ cs.toList, v.oneCell' = true := by
  unfold lits at h
  split at h
  · rename_i ha
    injection h with h
    subst h
    exact ⟨realL_lits _, fun v hv => List.all_eq_true.1 ha v hv⟩
  · cases h

theorem one_cells {u : Value} (h : u.oneCell' = true) : u.cells = #[u] := by cases u <;> first | rfl | cases h

theorem cellsOf_real [Syms] {a : AV} {u : Value} {cs : List AV} (h : cellsOf a = some cs) (hr : Real c a u) : RealL c cs u.cells.toList ∧ ∀ v ∈ u.cells.toList, v.oneCell' = true := by
  cases a with
  | any => cases h
  | tup _ => cases h
  | agg xs =>
    injection h with h
    subst h
    simp only [Real] at hr
    obtain ⟨vs, rfl, h1, h2⟩ := hr
    exact ⟨by simpa [Value.cells] using h1, by simpa [Value.cells] using h2⟩
  | sl n xs tok =>
    injection h with h
    subst h
    have hr' := hr
    simp only [Real] at hr
    obtain ⟨b, off, cap, vs, rfl, _⟩ := hr
    exact ⟨realL_cons hr' realL_nil, by simp [Value.cells, Value.oneCell']⟩
  | box k off =>
    injection h with h
    subst h
    have hr' := hr
    simp only [Real] at hr
    obtain ⟨b, _, rfl⟩ := hr
    exact ⟨realL_cons hr' realL_nil, by simp [Value.cells, Value.oneCell']⟩
  | rd xs =>
    injection h with h
    subst h
    have hr' := hr
    simp only [Real] at hr
    obtain ⟨b, off, vs, rfl, _⟩ := hr
    exact ⟨realL_cons hr' realL_nil, by simp [Value.cells, Value.oneCell']⟩
  | clo f xs =>
    injection h with h
    subst h
    have hr' := hr
    simp only [Real] at hr
    obtain ⟨vs, rfl, _⟩ := hr
    exact ⟨realL_cons hr' realL_nil, by simp [Value.cells, Value.oneCell']⟩
  | sym i =>
    injection h with h
    subst h
    have hr' := hr
    simp only [Real] at hr
    subst hr
    have h1 := Syms.one i
    have hc : (Syms.val i).cells = #[Syms.val i] := one_cells h1
    exact ⟨by rw [hc]; exact realL_cons hr' realL_nil, by rw [hc]; simp [h1]⟩
  | lit v =>
    have hr' := hr
    simp only [Real] at hr
    subst hr
    cases u with
    | agg xs => exact lits_some h
    | tuple _ => cases h
    | _ =>
      simp only [cellsOf] at h
      injection h with h
      subst h
      exact ⟨realL_cons hr' realL_nil, by simp [Value.cells, Value.oneCell']⟩

theorem toVal_go_real [Syms] : ∀ {cs : List AV} {vs us : List Value}, toVal.go cs = some vs → RealL c cs us → us = vs
  | [], vs, us, h, hr => by
    simp only [toVal.go] at h
    injection h with h
    rw [realL_nil_inv hr, h]
  | .lit v :: r, vs, us, h, hr => by
    obtain ⟨u, t, rfl, h1, h2⟩ := realL_cons_inv hr
    simp only [toVal.go] at h
    split at h
    · cases hg : toVal.go r with
      | none => rw [hg] at h; cases h
      | some w =>
        rw [hg] at h
        injection h with h
        subst h
        simp only [Real] at h1
        rw [h1, toVal_go_real hg h2]
    · cases h
  | .any :: _, _, _, h, _ | .agg _ :: _, _, _, h, _ | .sl _ _ _ :: _, _, _, h, _ | .box _ _ :: _, _, _, h, _ | .rd _ :: _, _, _, h, _ | .tup _ :: _, _, _, h, _ | .clo _ _ :: _, _, _, h, _ | .sym _ :: _, _, _, h, _ => by cases h
theorem toVal_real [Syms] {a : AV} {u v : Value} (h : toVal a = some v) (hr : Real c a u) : u = v := by
  cases a with
  | lit w =>
    injection h with h
    subst h
    simpa only [Real] using hr
  | agg cs =>
    simp only [Real] at hr
    obtain ⟨vs, rfl, h1, _⟩ := hr
    simp only [toVal] at h
    cases hg : toVal.go cs with
    | none => rw [hg] at h; cases h
    | some w =>
      rw [hg] at h
      injection h with h
      rw [← h, toVal_go_real hg h1]
  | _ => cases h
end

/-- What asks only for the program runs so in every world. -/
theorem pureRun_run [Syms] (P : Program) {α : Type} : ∀ (s : Sem α) {a : α}, pureRun P s = some a → ∀ w : World, s.run P w = .ok a w
  | .pure a, x, h, w => by
    injection h with h
    subst h
    rfl
  | .program k, x, h, w => pureRun_run P (k P) h w
  | .mark m k, x, h, w => pureRun_run P k h w
  | .load .., _, h, _ | .store .., _, h, _ | .new .., _, h, _ | .shape .., _, h, _ | .freeze .., _, h, _ | .frozen .., _, h, _ | .getObj .., _, h, _ | .setObj .., _, h, _
  | .choose .., _, h, _ | .sys .., _, h, _ | .halt _, _, h, _ => by cases h

end Go.Proofs.YtmehknlijcbphaaGreatDoor.Ev
