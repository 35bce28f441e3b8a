/- The example of the cost laws answers true; no condition. -/
import Derived.Test.YtngdchahahabpaaCost7
namespace Go.Proofs.Ytngdchahahabpaa
open Go.RowKit

/-- The example's events. -/
def exL : List Ev := [⟨1, 0, 0⟩, ⟨1, 1, 0⟩, ⟨2, 0, 2⟩, ⟨2, 1, 3⟩, ⟨3, 1, 5⟩]
theorem exL_age : agM exL = [(0, 2), (1, 3)] := by kernel_rfl
theorem exL_opn : opn exL = [0] := by
  have h : trues (onL exL) = [0] := by kernel_rfl
  rw [opn, h, srt, List.mergeSort_singleton]
theorem exL_chk : chk [] 0 exL = 0 := by kernel_rfl
theorem exL_bnd : bnd 1 0 = 32 := by kernel_rfl

theorem exL_evs {w : World} {g : Nat} (h : w.heap[g]? = some (.cells #[.int .i64 1, .int .i64 0, .int .i64 0, .int .i64 1, .int .i64 1, .int .i64 0, .int .i64 2, .int .i64 0, .int .i64 2, .int .i64 2, .int .i64 1, .int .i64 3, .int .i64 3, .int .i64 1, .int .i64 5] 51)) :
    Evs w (.slice (some ⟨g, 0, none⟩) 5 5) exL := by
  refine ⟨_, 5, rfl, by decide, by decide, fun _ => ⟨_, rfl, heap_lt h, ?_⟩, by decide, by decide⟩
  have hc := cellsH h
  intro i e he
  match i, he with
  | 0, he => simp [exL] at he; subst he; exact ⟨hc 0, hc 1, hc 2⟩
  | 1, he => simp [exL] at he; subst he; exact ⟨hc 3, hc 4, hc 5⟩
  | 2, he => simp [exL] at he; subst he; exact ⟨hc 6, hc 7, hc 8⟩
  | 3, he => simp [exL] at he; subst he; exact ⟨hc 9, hc 10, hc 11⟩
  | 4, he => simp [exL] at he; subst he; exact ⟨hc 12, hc 13, hc 14⟩
  | n + 5, he => simp [exL] at he

set_option maxHeartbeats 1000000 in
theorem example_any (w : World) : Calls Try.prog 14 #[] w fun e w' => e = .returned (.bool true) ∧ Below w.heap.size w w' := by
  go_enter Try.func14, Try.ntmps14
  go_wp2_with fail
  refine (open_any _ _ exL (exL_evs (new0 w _))).mono ?_
  rintro e w1 ⟨u, rfl, hu, hb1⟩
  rw [exL_opn] at hu
  have E1 := Lib.hid ((exL_evs (new0 w _)).fresh hb1)
  have hs1 := hb1.size
  obtain ⟨A, cap, rfl, _, _, _, hA, _, _⟩ := hu
  obtain ⟨ad, rfl, had, hadl, hac⟩ := hA (by simp)
  have hc0 : w1.cell? ad = some (.int .i64 0) := by
    have := hac 0 0 rfl
    have e0 : ad.add 0 = ad := by unfold Addr.add; simp
    rwa [e0] at this
  have B1 := Lib.hid (((Below.refl _ w).alloc (Nat.le_refl _) _).trans (hb1.mono (by simp)))
  have HC := Lib.hid hc0
  clear hA hac hb1 hc0
  go_wp2_with fail
  refine (age_any _ _ exL E1.out).mono ?_
  rintro e w2 ⟨b, rfl, hb, hm, hb2⟩
  rw [exL_age] at hm
  have E2 := Lib.hid (E1.out.fresh hb2)
  have hs2 := hb2.size
  have HC2 := Lib.hid (cellBelow HC.out hb2 hadl)
  have HM := Lib.hid hm
  have B2 := Lib.hid (B1.out.trans (hb2.mono (by simp at hs1; omega)))
  clear hm hb2
  go_wp2_with fail
  refine (check_any _ _ exL E2.out).mono ?_
  rintro e w3 ⟨rfl, hb3⟩
  rw [exL_chk]
  have hs3 := hb3.size
  have hc3 := cellBelow HC2.out hb3 (by omega)
  have hm3 := HM.out.below hb3 HM.out.lt
  have B3 := Lib.hid (B2.out.trans (hb3.mono (by simp at hs1; omega)))
  have l0 := run_lookup_map (P := Try.prog) (t := 36) (k := 3) (e := 3) Try.underlying36 Try.underlying3 (zero3 _) hm3 0 false
  have l1 := run_lookup_map (P := Try.prog) (t := 36) (k := 3) (e := 3) Try.underlying36 Try.underlying3 (zero3 _) hm3 1 false
  have ll := fun ty => run_len_map (P := Try.prog) (t := 36) (k := 3) (e := 3) Try.underlying36 hm3 ty
  have g0 : (get (vals vi [(0, 2), (1, 3)]) 0).getD (.int .i64 0) = .int .i64 2 := by kernel_rfl
  have g1 : (get (vals vi [(0, 2), (1, 3)]) 1).getD (.int .i64 0) = .int .i64 3 := by kernel_rfl
  rw [g0] at l0
  rw [g1] at l1
  have g2 : (vals vi [(0, 2), (1, 3)]).length = 2 := by kernel_rfl
  rw [g2] at ll
  clear hm3 hb3 g0 g1 g2
  obtain ⟨g, o, sp⟩ := ad
  go_wp2_with fail
  refine (bound_any 1 0 _ (by decide) (by decide)).mono ?_
  rintro e w4 ⟨rfl, rfl⟩
  rw [exL_bnd]
  go_wp2_with fail
  go_ret
  exact ⟨rfl, B3.out⟩
end Go.Proofs.Ytngdchahahabpaa
