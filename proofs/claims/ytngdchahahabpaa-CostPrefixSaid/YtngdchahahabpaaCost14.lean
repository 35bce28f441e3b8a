/- The reference's Counts; no condition. -/
import Derived.Test.YtngdchahahabpaaCost13
namespace Go.Proofs.Ytngdchahahabpaa
open Go.RowKit

set_option maxHeartbeats 2000000 in
theorem rcounts_any (w : World) (v : Value) (l : List Ev) (h : Evs w v l) :
    Calls Try.prog 24 #[v] w fun e w' => e = .returned (.agg (rowC (cnf l))) ∧ Below w.heap.size w w' := by
  obtain ⟨A, c, rfl⟩ := h.shape
  have hl := h.len
  have H := Lib.hid h
  clear h
  go_enter Try.func24, Try.ntmps24
  go_wp2_with fail
  go_loopw [4] (fun i wr => ∃ k : Nat, k ≤ l.length ∧ i = .int .i64 k ∧ wr.heap[w.heap.size]? = some (.cells (rowC fun _ => 0) 44) ∧ wr.heap[w.heap.size + 1]? = some (.cells (rowC (cnf (l.take k))) 44) ∧ Below w.heap.size w wr) (fun i _ => l.length - (intOf i).toNat)
  case atStart => exact ⟨0, Nat.zero_le _, rfl, new20 _ _ _, new21 _ _ _, ((Below.refl _ _).alloc (Nat.le_refl _) _).alloc (by simp) _⟩
  case round =>
    obtain ⟨k, hk, rfl, hr0, hr1, hb⟩ := hrel
    have hbs := hb.size
    by_cases hlt : k < l.length
    · obtain ⟨b, o, rfl, c1, c2, c3⟩ := (H.out.fresh hb).cell hlt
      have hst := rowC_step l hlt
      have hle := cn_le (l.take k) (slot l[k])
      have hle2 : (l.take k).length ≤ k := by simp; omega
      generalize hev : l[k] = ev at c1 c2 c3 hst hle
      have hsl := slot_lt ev
      have hw : wrap64 (cnf (l.take k) (slot ev) + 1) = cnf (l.take k) (slot ev) + 1 := by unfold cnf; unfold wrap64; omega
      generalize cnf (l.take k) = f at hr1 hst hw
      obtain ⟨op, id, step⟩ := ev
      dsimp only at c1 c2 c3
      have HB := Lib.hid hb
      have R0 := Lib.hid hr0
      have hlt2 := heap_lt hr1
      have hc := row_cells hr1 (slot ⟨op, id, step⟩) _ (rowC_get f hsl)
      have hfz := freeH hr1 (slot ⟨op, id, step⟩)
      have R1 := Lib.hid hr1
      have HST := Lib.hid hst
      clear hr0 hr1 hb hst hev hle hle2
      by_cases hop : 1 ≤ op ∧ op ≤ 7
      · have HK := Lib.hid (show knw op = true by simp [knw, hop])
        obtain ⟨g1, g2⟩ := hop
        have es : slot ⟨op, id, step⟩ = op.toNat := by simp [slot, g1, g2]
        rw [es] at hc hfz hw hsl
        have ES := Lib.hid es
        clear es
        go_wp2_with fail
        refine (known_any _ _).mono ?_
        rintro e w1 ⟨rfl, rfl⟩
        rw [HK.out]
        go_wp2_with fail
        go_region
        go_wp2_with fail
        go_roundw
        case rel =>
          refine ⟨k + 1, by omega, by go_num, rowSetNe (w := w1.drew) R0.out (by omega) _, ?_, (HB.out.drew.setCell (by simp) _)⟩
          have h1 := rowSet (w := w1.drew) R1.out op.toNat (.int .i64 (f op.toNat + 1))
          rw [rowC_set f (by omega)] at h1
          rw [← HST.out, ES.out]
          exact h1
        case measure => simp [intOf]; omega
      · have HK := Lib.hid (show knw op = false by simp [knw]; omega)
        have es : slot ⟨op, id, step⟩ = 0 := by simp only [slot, if_neg hop]
        rw [es] at hc hfz hw hsl
        have ES := Lib.hid es
        clear es hop
        go_wp2_with fail
        refine (known_any _ _).mono ?_
        rintro e w1 ⟨rfl, rfl⟩
        rw [HK.out]
        go_wp2_with fail
        go_roundw
        case rel =>
          refine ⟨k + 1, by omega, by go_num, rowSetNe (w := w1) R0.out (by omega) _, ?_, (HB.out.setCell (by simp) _)⟩
          have h1 := rowSet (w := w1) R1.out 0 (.int .i64 (f 0 + 1))
          rw [rowC_set f (by omega)] at h1
          rw [← HST.out, ES.out]
          exact h1
        case measure => simp [intOf]; omega
    · have he : k = l.length := by omega
      rw [he, List.take_length] at hr1
      have R0 := Lib.hid hr0
      have R1 := Lib.hid hr1
      have HB := Lib.hid hb
      have hlt0 := heap_lt hr0
      clear he hr0 hr1 hb
      have hc0 := cellsH R0.out
      have hc1 := cellsH R1.out
      have hf0 := freeH R0.out
      simp only [rowC] at hc0 hc1
      go_wp2_with fail
      have h5 := (rowSet (rowSet (rowSet (rowSet (rowSet (rowSet (rowSet (rowSet R0.out 0 (.int .i64 (cnf l 0))) 1 (.int .i64 (cnf l 1))) 2 (.int .i64 (cnf l 2))) 3 (.int .i64 (cnf l 3))) 4 (.int .i64 (cnf l 4))) 5 (.int .i64 (cnf l 5))) 6 (.int .i64 (cnf l 6))) 7 (.int .i64 (cnf l 7)))
      have c5 := cellsH h5
      clear hc0 hc1 hf0
      refine bodyPost_ret (v := .agg (rowC (cnf l))) (by simp [results, Try.results24, go_sem, c5, rowC]) rfl ⟨rfl, ?_⟩
      exact ((((((((HB.out.setCell (p := ⟨w.heap.size, 0, none⟩) (Nat.le_refl _) (.int .i64 (cnf l 0))).setCell (p := ⟨w.heap.size, 1, none⟩) (Nat.le_refl _) (.int .i64 (cnf l 1))).setCell (p := ⟨w.heap.size, 2, none⟩) (Nat.le_refl _) (.int .i64 (cnf l 2))).setCell (p := ⟨w.heap.size, 3, none⟩) (Nat.le_refl _) (.int .i64 (cnf l 3))).setCell (p := ⟨w.heap.size, 4, none⟩) (Nat.le_refl _) (.int .i64 (cnf l 4))).setCell (p := ⟨w.heap.size, 5, none⟩) (Nat.le_refl _) (.int .i64 (cnf l 5))).setCell (p := ⟨w.heap.size, 6, none⟩) (Nat.le_refl _) (.int .i64 (cnf l 6))).setCell (p := ⟨w.heap.size, 7, none⟩) (Nat.le_refl _) (.int .i64 (cnf l 7)))
end Go.Proofs.Ytngdchahahabpaa
