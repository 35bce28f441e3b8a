/- The reference heap: merge; no condition. -/
import Derived.Test.YtobniolmielikaaRef7
namespace Go.Proofs.Ytobniolmielikaa
open Go.RowKit

theorem size60 (W : World) : (sizeOf (Try.prog.elem 60)).run Try.prog W = .ok 6 W := by kernel_rfl
theorem Own.base {B B' : Nat} {w : World} {v : Value} {l : List It} (h : Own B w v l) (hb : B' ≤ B) : Own B' w v l := by
  refine ⟨h.1, ?_⟩
  rcases h.2 with h0 | ⟨g, cap, cur, e, hg, rest⟩
  · exact .inl h0
  · exact .inr ⟨g, cap, cur, e, Nat.le_trans hb hg, rest⟩
theorem raw_one {w : World} {g : Nat} {x : It} (h : w.heap[g]? = some (.cells x.arr 97)) : Raw (fun _ => True) w (.slice (some ⟨g, 0, none⟩) 1 1) [x] := by
  refine ⟨_, 1, rfl, by simp, by simp [maxLen], (fun h => by cases h), fun _ => ⟨g, 0, rfl, trivial, heap_lt h, ?_⟩, by simp⟩
  intro k y hy
  match k, hy with
  | 0, hy =>
    simp at hy
    subst hy
    exact ⟨row_cells h 0 _ rfl, row_cells h 1 _ rfl, row_cells h 2 _ rfl, row_cells h 3 _ rfl, row_cells h 4 _ rfl, row_cells h 5 _ rfl⟩
theorem Raw.drop {ok : Nat → Prop} {w : World} {A : Option Addr} {n c : Nat} {l : List It} (h : Raw ok w (.slice A n c) l) {k : Nat} (hk : k ≤ l.length) : Raw ok w (.slice (if c = k then A else A.map (·.add (k * 6))) (l.length - k) (c - k)) (l.drop k) := by
  obtain ⟨A', cap, e, h1, h2, h3, h4, h5⟩ := h
  cases e
  have hlen : (l.drop k).length = l.length - k := by simp
  refine ⟨_, _, by rw [hlen], by omega, by omega, ?_, fun h0 => ?_, by omega⟩
  · intro hn
    split at hn
    · omega
    · cases A with
      | none => have := h3 rfl; omega
      | some ad => cases hn
  · obtain ⟨b, o, rfl, hk', hl, hc⟩ := h4 (by omega)
    rw [if_neg (by omega)]
    refine ⟨b, o + k * 6, by simp [Addr.add_lit], hk', hl, fun j y hj => ?_⟩
    rw [List.getElem?_drop] at hj
    have := hc (k + j) y hj
    rw [Nat.add_mul, ← Nat.add_assoc] at this
    exact this
/-- 'l[k:]'. -/
theorem its_rest {ok : Nat → Prop} {w : World} {A : Option Addr} {c : Nat} {l : List It} (h : Raw ok w (.slice A l.length c) l) {k : Nat} (hk : k ≤ l.length) :
    ∃ B, Raw ok w (.slice B (l.length - k) (c - k)) (l.drop k) ∧ ∀ W, (Instr.slice 60 (.slice A l.length c) (some (.int .i64 k)) none none).run Try.prog W = .ok (.slice B (l.length - k) (c - k)) W := by
  have hcap : l.length ≤ c := by
    obtain ⟨A', cap, e, h1, _⟩ := h
    cases e
    exact h1
  have hel : Try.prog.underlying 60 = some (.slice (Try.prog.elem 60)) := by kernel_rfl
  refine ⟨_, h.drop hk, fun W => ?_⟩
  rw [run_slice_l W 60 A l.length c hel .i64 k (by omega) (by omega), size60]
  simp only [Result.andThen, sliced, Int.toNat_natCast]

/-- 'append(s, x...)', both of items, s a row of the call's own. -/
theorem wpList_append_it (w : World) {ops : Array Oper} {rest : List Oper} {o : Oper} {a : Act} {Q : Exit → Act → World → Prop} (hgd : o.guard = none) (s x : Operand)
    (ho : o.op = .call { callee := .builtin .append, args := #[s, x], argTypes := #[60, 60] }) (base : Nat)
    (v : Value) (l : List It) (hs : a.eval s = v) (hown : Own base w v l) (ok : Nat → Prop) (u : Value) (ys : List It) (hx : a.eval x = u) (hu : Raw ok w u ys)
    (hbytes : (l.length + ys.length) * 80 ≤ 140737488355328) (hbase : base ≤ w.heap.size)
    (h : ∀ v' w', Own base w' v' (l ++ ys) → w.grownBy w' v.ownBlock → wpList Try.prog ops Q rest (a.put o.dst v') w') : wpList Try.prog ops Q (o :: rest) a w := by
  obtain ⟨i, hi, hz0, hz1, hz2⟩ := info_parts info97
  obtain ⟨A, cap, rfl, h1, h2, h3, h4, h5⟩ := hu
  cases A with
  | none =>
    have hc := h3 rfl
    subst hc
    have hy : ys = [] := List.eq_nil_of_length_eq_zero (by omega)
    subst hy
    refine wpList_append_own_none hgd s x 60 ho base 97 i 6 Try.underlying60 hi v l.length _ hs hown hx ?_
    exact h v w (by simpa using hown) (World.grownBy.refl _ _)
  | some ad =>
    refine wpList_append_own w hgd s x 60 ho base 97 i _ 6 80 Try.underlying60 hi hz0 hz1 hz2 rfl (by decide) v l.length (flat l) hs hown ad ys.length cap (flat ys) hx (flat_length ys) ?_ (flat_one' ys) (by unfold maxLen; omega) hbytes hbase ?_
    · intro j y hj
      have hjl := (List.getElem?_eq_some_iff.1 hj).1
      rw [flat_length] at hjl
      obtain ⟨b, p, e, _, _, hc⟩ := h4 (by omega)
      cases e
      obtain ⟨q, t, ht, rfl⟩ : ∃ q t, t < 6 ∧ j = q * 6 + t := ⟨j / 6, j % 6, by omega, by omega⟩
      have hq : q < ys.length := by omega
      have h6 := flat_get ys q ys[q] t (List.getElem?_eq_getElem hq) ht
      rw [hj] at h6
      have := (hc q ys[q] (List.getElem?_eq_getElem hq)).get t y h6.symm
      rw [Addr.add_lit, ← Nat.add_assoc]
      exact this
    · intro v' w' r1 r2 _
      refine h v' w' ?_ r2
      unfold Own
      rw [List.length_append, flat_append]
      exact r1

/-- An item put among ascending items. -/
def mrg (l : List It) (x : It) : List It := l.takeWhile (fun y => decide (y.a < x.a)) ++ x :: l.dropWhile (fun y => decide (y.a < x.a))
theorem mrg_at {l : List It} {x : It} : ∀ {i : Nat}, (∀ j, j < i → ∀ y, l[j]? = some y → y.a < x.a) → (∀ y, l[i]? = some y → ¬ y.a < x.a) → mrg l x = l.take i ++ x :: l.drop i := by
  unfold mrg
  induction l with
  | nil => intro i _ _; simp
  | cons z r ih =>
    intro i h1 h2
    cases i with
    | zero =>
      have := h2 z rfl
      simp [List.takeWhile, List.dropWhile, this]
    | succ i =>
      have h0 := h1 0 (by omega) z rfl
      have := ih (i := i) (fun j hj y hy => h1 (j + 1) (by omega) y (by simpa using hy)) (fun y hy => h2 y (by simpa using hy))
      simp only [List.takeWhile, List.dropWhile, h0, decide_true, List.cons_append, List.take_succ_cons, List.drop_succ_cons]
      rw [this]
theorem mrg_length (l : List It) (x : It) : (mrg l x).length = l.length + 1 := by
  have := congrArg List.length (List.takeWhile_append_dropWhile (p := fun y : It => decide (y.a < x.a)) (l := l))
  simp only [mrg, List.length_append, List.length_cons] at this ⊢
  omega
end Go.Proofs.Ytobniolmielikaa
