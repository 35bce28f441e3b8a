/- The program's Counts: how often each form of event is met; no condition. -/
import Derived.Test.YtngdchahahabpaaCost9
namespace Go.Proofs.Ytngdchahahabpaa
open Go.RowKit

/-- Where an event is counted. -/
def slot (e : Ev) : Nat := if 1 ≤ e.op ∧ e.op ≤ 7 then e.op.toNat else 0
/-- How many events are counted at j. -/
def cn (l : List Ev) (j : Nat) : Nat := (l.filter fun e => slot e == j).length
def cnf (l : List Ev) (j : Nat) : Int := cn l j
theorem slot_lt (e : Ev) : slot e < 8 := by unfold slot; split <;> omega
theorem cn_le (l : List Ev) (j : Nat) : cn l j ≤ l.length := List.length_filter_le _ _
theorem cn_append (l r : List Ev) (j : Nat) : cn (l ++ r) j = cn l j + cn r j := by simp [cn]
theorem cn_take (l : List Ev) {k : Nat} (h : k < l.length) (j : Nat) : cn (l.take (k + 1)) j = cn (l.take k) j + if slot l[k] = j then 1 else 0 := by
  rw [List.take_succ_eq_append_getElem h, cn_append]
  congr 1
  simp only [cn, List.filter_cons, List.filter_nil, beq_iff_eq]
  split <;> rfl

/-- Eight ints as a row. -/
def rowC (f : Nat → Int) : Array Value := #[.int .i64 (f 0), .int .i64 (f 1), .int .i64 (f 2), .int .i64 (f 3), .int .i64 (f 4), .int .i64 (f 5), .int .i64 (f 6), .int .i64 (f 7)]
theorem rowC_get (f : Nat → Int) {j : Nat} (h : j < 8) : (rowC f)[j]? = some (.int .i64 (f j)) := by
  match j, h with
  | 0, _ => rfl
  | 1, _ => rfl
  | 2, _ => rfl
  | 3, _ => rfl
  | 4, _ => rfl
  | 5, _ => rfl
  | 6, _ => rfl
  | 7, _ => rfl
  | n + 8, h => omega
theorem rowC_set (f : Nat → Int) {j : Nat} (h : j < 8) (x : Int) : (rowC f).setIfInBounds j (.int .i64 x) = rowC fun i => if i = j then x else f i := by
  match j, h with
  | 0, _ => rfl
  | 1, _ => rfl
  | 2, _ => rfl
  | 3, _ => rfl
  | 4, _ => rfl
  | 5, _ => rfl
  | 6, _ => rfl
  | 7, _ => rfl
  | n + 8, h => omega
theorem rowC_step (l : List Ev) {k : Nat} (h : k < l.length) : (fun i => if i = slot l[k] then cnf (l.take k) (slot l[k]) + 1 else cnf (l.take k) i) = cnf (l.take (k + 1)) := by
  funext i
  simp only [cnf]
  rw [cn_take l h]
  split
  · rename_i e
    subst e
    simp
  · rename_i e
    rw [if_neg (fun x => e x.symm)]
    simp

set_option maxHeartbeats 1000000 in
theorem counts_any (w : World) (v : Value) (l : List Ev) (h : Evs w v l) :
    Calls Try.prog 21 #[v] w fun e w' => e = .returned (.agg (rowC (cnf l))) ∧ Below w.heap.size w w' := by
  obtain ⟨A, c, rfl⟩ := h.shape
  have hl := h.len
  have H := Lib.hid h
  clear h
  go_enter Try.func21, Try.ntmps21
  go_wp2_with fail
  go_loopw [8] (fun i wr => ∃ k : Nat, k ≤ l.length ∧ i = .int .i64 k ∧ wr.heap[w.heap.size]? = some (.cells (rowC fun _ => 0) 44) ∧ wr.heap[w.heap.size + 1]? = some (.cells (rowC (cnf (l.take k))) 44) ∧ Below w.heap.size w wr) (fun i _ => l.length - (intOf i).toNat)
  case atStart => exact ⟨0, Nat.zero_le _, rfl, new20 _ _ _, new21 _ _ _, ((Below.refl _ _).alloc (Nat.le_refl _) _).alloc (by simp) _⟩
  case round =>
    obtain ⟨k, hk, rfl, hr0, hr1, hb⟩ := hrel
    have hbs := hb.size
    by_cases hlt : k < l.length
    · obtain ⟨b, o, rfl, c1, c2, c3⟩ := (H.out.fresh hb).cell hlt
      have hst := rowC_step l hlt
      have hle := cn_le (l.take k) (slot l[k])
      have hle2 : (l.take k).length ≤ k := by simp; omega
      generalize hev : l[k] = ev at c1 c2 c3 hst hle
      have hsl := slot_lt ev
      have hw : wrap64 (cnf (l.take k) (slot ev) + 1) = cnf (l.take k) (slot ev) + 1 := by unfold cnf; unfold wrap64; omega
      generalize cnf (l.take k) = f at hr1 hst hw
      obtain ⟨op, id, step⟩ := ev
      dsimp only at c1 c2 c3
      have HB := Lib.hid hb
      have R0 := Lib.hid hr0
      have hlt2 := heap_lt hr1
      have hc := cellAlloc (row_cells hr1 (slot ⟨op, id, step⟩) _ (rowC_get f hsl))
      have hfz := fun p => freeH (old1 hr1 p) (slot ⟨op, id, step⟩)
      have R1 := Lib.hid hr1
      have HST := Lib.hid hst
      clear hr0 hr1 hb hst hev hle hle2
      by_cases hop : 1 ≤ op ∧ op ≤ 7
      · obtain ⟨g1, g2⟩ := hop
        have es : slot ⟨op, id, step⟩ = op.toNat := by simp [slot, g1, g2]
        rw [es] at hc hfz hw hsl
        have ES := Lib.hid es
        clear es
        go_wp2_with fail
        go_roundw
        case rel =>
          refine ⟨k + 1, by omega, by go_num, old1 (rowSetNe R0.out (by omega) _) _, ?_, (HB.out.setCell (by simp) _).alloc (by simp; omega) _⟩
          have h1 := rowSet R1.out op.toNat (.int .i64 (f op.toNat + 1))
          rw [rowC_set f (by omega)] at h1
          rw [← HST.out, ES.out]
          exact old1 h1 _
        case measure => simp [intOf]; omega
      · have es : slot ⟨op, id, step⟩ = 0 := by simp only [slot, if_neg hop]
        rw [es] at hc hfz hw hsl
        have ES := Lib.hid es
        clear es
        have hg : op < 1 ∨ (1 ≤ op ∧ 7 < op) := by omega
        clear hop
        rcases hg with g | ⟨g1, g2⟩ <;>
        · go_wp2_with fail
          go_roundw
          case rel =>
            refine ⟨k + 1, by omega, by go_num, old1 (rowSetNe R0.out (by omega) _) _, ?_, (HB.out.setCell (by simp) _).alloc (by simp; omega) _⟩
            have h1 := rowSet R1.out 0 (.int .i64 (f 0 + 1))
            rw [rowC_set f (by omega)] at h1
            rw [← HST.out, ES.out]
            exact old1 h1 _
          case measure => simp [intOf]; omega
    · have he : k = l.length := by omega
      rw [he, List.take_length] at hr1
      have R0 := Lib.hid hr0
      have R1 := Lib.hid hr1
      have HB := Lib.hid hb
      have hlt0 := heap_lt hr0
      clear he hr0 hr1 hb
      have hc0 := cellsH R0.out
      have hc1 := cellsH R1.out
      have hf0 := freeH R0.out
      simp only [rowC] at hc0 hc1
      go_wp2_with fail
      have h5 := (rowSet (rowSet (rowSet (rowSet (rowSet (rowSet (rowSet (rowSet R0.out 0 (.int .i64 (cnf l 0))) 1 (.int .i64 (cnf l 1))) 2 (.int .i64 (cnf l 2))) 3 (.int .i64 (cnf l 3))) 4 (.int .i64 (cnf l 4))) 5 (.int .i64 (cnf l 5))) 6 (.int .i64 (cnf l 6))) 7 (.int .i64 (cnf l 7)))
      have c5 := cellsH h5
      clear hc0 hc1 hf0
      refine bodyPost_ret (v := .agg (rowC (cnf l))) (by simp [results, Try.results21, go_sem, c5, rowC]) rfl ⟨rfl, ?_⟩
      exact ((((((((HB.out.setCell (p := ⟨w.heap.size, 0, none⟩) (Nat.le_refl _) (.int .i64 (cnf l 0))).setCell (p := ⟨w.heap.size, 1, none⟩) (Nat.le_refl _) (.int .i64 (cnf l 1))).setCell (p := ⟨w.heap.size, 2, none⟩) (Nat.le_refl _) (.int .i64 (cnf l 2))).setCell (p := ⟨w.heap.size, 3, none⟩) (Nat.le_refl _) (.int .i64 (cnf l 3))).setCell (p := ⟨w.heap.size, 4, none⟩) (Nat.le_refl _) (.int .i64 (cnf l 4))).setCell (p := ⟨w.heap.size, 5, none⟩) (Nat.le_refl _) (.int .i64 (cnf l 5))).setCell (p := ⟨w.heap.size, 6, none⟩) (Nat.le_refl _) (.int .i64 (cnf l 6))).setCell (p := ⟨w.heap.size, 7, none⟩) (Nat.le_refl _) (.int .i64 (cnf l 7)))
end Go.Proofs.Ytngdchahahabpaa
