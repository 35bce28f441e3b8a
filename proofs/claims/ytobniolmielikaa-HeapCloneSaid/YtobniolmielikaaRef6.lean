/- The reference heap: an item written in its place; no condition. -/
import Derived.Test.YtobniolmielikaaRef5
namespace Go.Proofs.Ytobniolmielikaa
open Go.RowKit

/-- The object of an item overwritten. -/
def setO (w : World) (g p : Nat) (x : It) : World :=
  ((((w.setCell ⟨g, p + 1, none⟩ (.int .i64 x.o.op)).setCell ⟨g, p + 1 + 1, none⟩ (.int .i64 x.o.n)).setCell ⟨g, p + 1 + 2, none⟩ (.int .i64 x.o.ar)).setCell ⟨g, p + 1 + 3, none⟩ (.slice x.ra x.o.refs.length x.rc)).setCell ⟨g, p + 1 + 4, none⟩ (.slice x.wa x.o.words.length x.wc)
theorem setO_row {w : World} {g : Nat} {cur : Array Value} {T : TypeId} {f : Nat × Nat} (h : w.heap[g]? = some (.cells cur T f)) (p : Nat) (x : It) :
    (setO w g p x).heap[g]? = some (.cells (((((cur.setIfInBounds (p + 1) (.int .i64 x.o.op)).setIfInBounds (p + 2) (.int .i64 x.o.n)).setIfInBounds (p + 3) (.int .i64 x.o.ar)).setIfInBounds (p + 4) (.slice x.ra x.o.refs.length x.rc)).setIfInBounds (p + 5) (.slice x.wa x.o.words.length x.wc)) T f) :=
  rowSet (rowSet (rowSet (rowSet (rowSet h (p + 1) _) (p + 1 + 1) _) (p + 1 + 2) _) (p + 1 + 3) _) (p + 1 + 4) _
theorem setO_ne {w : World} {g k p : Nat} {x : It} {o : Obj} (h : w.heap[k]? = some o) (hne : k ≠ g) : (setO w g p x).heap[k]? = some o :=
  rowSetNe (rowSetNe (rowSetNe (rowSetNe (rowSetNe h hne _) hne _) hne _) hne _) hne _
theorem setO_turn {S : Nat → Prop} {w0 w : World} {g p : Nat} {x : It} (ht : Turn S w0 w) (hg : S g) : Turn S w0 (setO w g p x) :=
  ((((ht.setCell (p := ⟨g, p + 1, none⟩) hg _).setCell (p := ⟨g, p + 1 + 1, none⟩) hg _).setCell (p := ⟨g, p + 1 + 2, none⟩) hg _).setCell (p := ⟨g, p + 1 + 3, none⟩) hg _).setCell (p := ⟨g, p + 1 + 4, none⟩) hg _

theorem Own.pos {base : Nat} {w : World} {v : Value} {l : List It} (h : Own base w v l) (hl : 0 < l.length) : ∃ g cap cur, v = .slice (some ⟨g, 0, none⟩) l.length cap ∧ w.heap[g]? = some (.cells cur 97 (0, 0)) := by
  rcases h.2 with ⟨_, h0⟩ | ⟨g, cap, cur, e, _, hb, _⟩
  · omega
  · exact ⟨g, cap, cur, e, hb⟩
theorem flat_set_get {l : List It} {i : Nat} {x : It} (q s : Nat) (hq : q < l.length) (hs : s < 6) : (flat (l.set i x))[q * 6 + s]? = if q = i then x.cells[s]? else (flat l)[q * 6 + s]? := by
  have h1 : (l.set i x)[q]? = some (if q = i then x else l[q]) := by
    rw [List.getElem?_set]
    split
    · rename_i e
      subst e
      simp [hq]
    · rename_i e
      rw [if_neg (fun e' => e e'.symm), List.getElem?_eq_getElem hq]
  rw [flat_get _ q _ s h1 hs]
  split
  · rfl
  · rw [flat_get l q l[q] s (List.getElem?_eq_getElem hq) hs]
theorem Own.setIt {base : Nat} {w : World} {l : List It} {g n cap i : Nat} {x x' : It} (h : Own base w (.slice (some ⟨g, 0, none⟩) n cap) l) (hi : l[i]? = some x) (ha : x'.a = x.a) :
    Own base (setO w g (i * 6) x') (.slice (some ⟨g, 0, none⟩) n cap) (l.set i x') := by
  have hil := (List.getElem?_eq_some_iff.1 hi).1
  rcases h.2 with ⟨e, _⟩ | ⟨g', cap', cur, e, hb, hh, h1, h2, h3, h4⟩
  · cases e
  · obtain ⟨rfl, rfl, rfl⟩ : g = g' ∧ n = l.length ∧ cap = cap' := by simpa using e
    have hls : (l.set i x').length = l.length := List.length_set ..
    refine ⟨by rw [flat_length], .inr ⟨g, cap, _, by rw [hls], hb, setO_row hh (i * 6) x', by rw [hls]; exact h1, h2, ?_, ?_⟩⟩
    · simp only [Array.size_setIfInBounds]; exact h3
    rw [hls]
    refine List.ext_getElem? fun j => ?_
    by_cases hj : j < l.length * 6
    · obtain ⟨q, s, hs, rfl⟩ : ∃ q s, s < 6 ∧ j = q * 6 + s := ⟨j / 6, j % 6, by omega, by omega⟩
      have hq : q < l.length := by omega
      rw [flat_set_get q s hq hs, List.getElem?_take, if_pos hj, Array.getElem?_toList]
      have hc : cur[q * 6 + s]? = (flat l)[q * 6 + s]? := by rw [← h4, List.getElem?_take, if_pos hj, Array.getElem?_toList]
      have hsz : q * 6 + s < cur.size := by rw [h3]; omega
      by_cases hqi : q = i
      · subst hqi
        rw [if_pos rfl]
        have hx0 : cur[q * 6 + 0]? = some (.int .i64 x.a) := by
          have := flat_get l q x 0 hi (by omega)
          rw [← h4, List.getElem?_take, if_pos (by omega), Array.getElem?_toList] at this
          exact this
        have h0 : s = 0 ∨ s = 1 ∨ s = 2 ∨ s = 3 ∨ s = 4 ∨ s = 5 := by omega
        have hcap : l.length * 6 ≤ cap * 6 := Nat.mul_le_mul_right 6 h1
        rcases h0 with rfl | rfl | rfl | rfl | rfl | rfl
        · simp [It.cells, ha]
          simpa using hx0
        all_goals simp [Array.getElem?_setIfInBounds, It.cells]
        all_goals omega
      · rw [if_neg hqi, ← hc]
        have : ∀ t, 1 ≤ t → t < 6 → ¬ (i * 6 + t = q * 6 + s) := by intro t ht1 ht2; omega
        simp [this 1 (by omega) (by omega), this 2 (by omega) (by omega), this 3 (by omega) (by omega), this 4 (by omega) (by omega), this 5 (by omega) (by omega)]
    · rw [List.getElem?_eq_none (by simp; omega), List.getElem?_eq_none (by rw [flat_length, List.length_set]; omega)]

theorem absI_vals (l : List It) : absI l = vals (fun x => x.o) (keyed l) := by simp [absI, vals, keyed]
theorem get_abs (l : List It) (k : Int) : get (absI l) k = (get (keyed l) k).map (·.o) := by rw [absI_vals, get_vals]
theorem put_abs {l : List It} {k : Int} {i : Nat} {x x' : It} (h : fnd l k = i) (hi : l[i]? = some x) (hg : get (keyed l) k = some x) (ha : x'.a = k) : absI (l.set i x') = put (absI l) k x'.o := by
  have hx : ix (keyed l) k = some (i, x) := by
    cases hh : ix (keyed l) k with
    | none => simp [Go.Proofs.Ytobniolmielikaa.get, hh] at hg
    | some q =>
      obtain ⟨j, y⟩ := q
      have h1 : fnd l k = j := by simp [fnd, hh]
      have hji : j = i := by omega
      subst hji
      have h2 := ix_get hh
      simp only [keyed, List.getElem?_map, hi, Option.map_some, Option.some.injEq, Prod.mk.injEq] at h2
      rw [h2.2]
  have h3 : ix (absI l) k = some (i, x.o) := by rw [absI_vals, ix_vals, hx]; rfl
  have e : put (absI l) k x'.o = (absI l).set i (k, x'.o) := by simp [put, h3]
  rw [e]
  simp [absI, List.map_set, ha]
end Go.Proofs.Ytobniolmielikaa
