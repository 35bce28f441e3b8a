/- The walk of the law CostCounts; no condition but that the argument is a slice of events. -/
import Derived.Test.YtngdchahahabpaaCost14
import Derived.Test.YtngdchahahabpaaCostW1
import Derived.ChangeKeysEq
import Derived.Laws.StructEq
namespace Go.Proofs.Ytngdchahahabpaa
open Go.RowKit

theorem rowC_same (f : Nat → Int) (W : World) (hf : ∀ j, (Lit.int .i64 (f j)).wf = true) : (Op.equalIn 10000 44 (.agg (rowC f)) (.agg (rowC f))).run Try.prog W = .ok true W := by
  have h1 := run_equalIn_array (P := Try.prog) (w := W) 9999 (t := 44) (e := 3) (n := 8) (i := Try.t3) (rowC f) (rowC f) Try.underlying44 (by kernel_rfl)
  have hc : Try.prog.cellsOf 3 = 1 := by kernel_rfl
  have hl : (List.range 8).mapM (fun i => Try.prog.keyLits 1 3 (((rowC f).toList.drop (i * Try.prog.cellsOf 3)).take (Try.prog.cellsOf 3))) = some [[.int .i64 (f 0)], [.int .i64 (f 1)], [.int .i64 (f 2)], [.int .i64 (f 3)], [.int .i64 (f 4)], [.int .i64 (f 5)], [.int .i64 (f 6)], [.int .i64 (f 7)]] := by
    rw [hc]
    have e8 : List.range 8 = [0, 1, 2, 3, 4, 5, 6, 7] := rfl
    simp [e8, rowC, Program.keyLits, Try.underlying3, hf]
  obtain ⟨r, h2, h3⟩ := run_eqItems_plain (P := Try.prog) W 9998 (e := 3) (by kernel_rfl) (rowC f) (rowC f) (List.range 8) _ _ hl hl
  rw [h1, h2, h3.2 rfl]
theorem guard44 : Try.prog.eqGuardType Try.prog.depth 44 = false := by kernel_rfl

set_option maxHeartbeats 1000000 in
theorem costCounts_law (w : World) (v : Value) (l : List Ev) (h : Evs w v l) : Calls Try.prog 9 #[v] w fun e w' => e = .returned (.bool true) ∧ Below w.heap.size w w' := by
  obtain ⟨A, c, rfl⟩ := h.shape
  have H := Lib.hid h
  clear h
  go_enter Try.func9, Try.ntmps9
  go_wp2_with fail
  · refine (example_any _).mono ?_
    rintro e w1 ⟨rfl, hb⟩
    have HB := Lib.hid hb
    clear hb
    go_wp2_with fail
    go_ret
    exact ⟨rfl, HB.out⟩
  · refine (once_any _ _ l H.out).mono ?_
    rintro e w1 ⟨rfl, hb⟩
    rw [oncL_eq]
    have HB := Lib.hid hb
    clear hb
    go_wp2_with fail
    refine (ronce_any _ _ l (H.out.fresh HB.out)).mono ?_
    rintro e w2 ⟨rfl, rfl⟩
    have hself : (ronL l == ronL l) = true := by simp
    generalize ronL l = R at hself
    go_wp2_with fail
    refine (counts_any _ _ l (H.out.fresh HB.out)).mono ?_
    rintro e w3 ⟨rfl, hb⟩
    have HB3 := Lib.hid (below_then HB.out HB.out.size hb)
    clear hb HB
    have hlen := H.out.len
    have hsame := fun W => rowC_same (cnf l) W (fun j => wf_of _ (by unfold cnf; omega) (by have := cn_le l j; unfold cnf; omega))
    clear hlen
    generalize hC : rowC (cnf l) = C at hsame
    have HC := Lib.hid hC
    have hgd := guard44
    clear hC
    go_wp2_with fail
    refine (rcounts_any _ _ l (H.out.fresh HB3.out)).mono ?_
    rintro e w4 ⟨rfl, hb⟩
    rw [HC.out]
    have HB4 := Lib.hid (below_then HB3.out HB3.out.size hb)
    clear hb HB3
    go_wp2_with fail
    refine (open_any _ _ l (H.out.fresh HB4.out)).mono ?_
    rintro e w5 ⟨u5, rfl, hu5, hb⟩
    rw [opn_ropn] at hu5
    obtain ⟨A5, c5, rfl⟩ := hu5.shape
    have HU5 := Lib.hid hu5
    have HB5 := Lib.hid (below_then HB4.out HB4.out.size hb)
    clear hb HB4 hu5
    go_wp2_with fail
    refine (ropen_any _ _ l (H.out.fresh HB5.out)).mono ?_
    rintro e w6 ⟨u6, rfl, hu6, hb⟩
    obtain ⟨A6, c6, rfl⟩ := hu6.shape
    have HU6 := Lib.hid hu6
    have HU56 := Lib.hid (HU5.out.fresh hb)
    have HB6 := Lib.hid (below_then HB5.out HB5.out.size hb)
    clear hb HB5 hu6
    go_wp2_with fail
    refine (same_any _ _ _ _ _ (ropn l) HU56.out HU6.out).mono ?_
    rintro e w7 ⟨rfl, n7, rfl⟩
    go_wp2_with fail
    refine (example_any _).mono ?_
    rintro e w8 ⟨rfl, hb⟩
    have HB8 := Lib.hid (below_then (below_drewN HB6.out n7) (below_drewN HB6.out n7).size hb)
    clear hb
    go_wp2_with fail
    go_ret
    exact ⟨rfl, HB8.out⟩
end Go.Proofs.Ytngdchahahabpaa
