/- The walks of the laws CostCheck and CostBound; no condition but that the arguments are values. -/
import Derived.Test.YtngdchahahabpaaCost8
namespace Go.Proofs.Ytngdchahahabpaa
open Go.RowKit

theorem costCheck_law (w : World) (v : Value) (l : List Ev) (h : Evs w v l) : Calls Try.prog 5 #[v] w fun e w' => e = .returned (.bool true) ∧ Below w.heap.size w w' := by
  obtain ⟨A, c, rfl⟩ := h.shape
  have H := Lib.hid h
  clear h
  go_enter Try.func5, Try.ntmps5
  go_wp2_with fail
  · refine (example_any _).mono ?_
    rintro e w1 ⟨rfl, hb⟩
    have HB := Lib.hid hb
    clear hb
    go_wp2_with fail
    go_ret
    exact ⟨rfl, HB.out⟩
  · refine (check_any _ _ l H.out).mono ?_
    rintro e w1 ⟨rfl, hb⟩
    have HB := Lib.hid hb
    clear hb
    go_wp2_with fail
    refine (rcheck_any _ _ l (H.out.fresh HB.out)).mono ?_
    rintro e w2 ⟨rfl, hb⟩
    have HB2 := Lib.hid (below_then HB.out HB.out.size hb)
    clear hb
    have hself : (chk [] 0 l == chk [] 0 l) = true := by simp
    go_wp2_with fail
    refine (example_any _).mono ?_
    rintro e w3 ⟨rfl, hb⟩
    have HB3 := Lib.hid (below_then HB2.out HB2.out.size hb)
    clear hb
    go_wp2_with fail
    go_ret
    exact ⟨rfl, HB3.out⟩

theorem nxt_mono (n : Int) (h : n < 9223372036854775807) : nxt n ≤ nxt (n + 1) := by
  have h1 := nxt_pos (n + 1)
  have hm : maxI = 9223372036854775807 := rfl
  unfold nxt at *
  split
  · omega
  · split <;> split <;> (try split) <;> omega
theorem prd_mono {a b c d : Nat} (h1 : a ≤ c) (h2 : b ≤ d) : prd a b ≤ prd c d := by
  have h3 := Nat.mul_le_mul h1 h2
  unfold prd
  split <;> split <;> omega
theorem bnd_mono1 (n m : Int) (h : n < 9223372036854775807) : bnd n m ≤ bnd (n + 1) m := prd_mono (Nat.le_refl _) (prd_mono (nxt_mono n h) (Nat.le_refl _))
theorem bnd_mono2 (n m : Int) (h : m < 9223372036854775807) : bnd n m ≤ bnd n (m + 1) := prd_mono (Nat.le_refl _) (prd_mono (Nat.le_refl _) (nxt_mono m h))
theorem bnd_ge (n m : Int) : 16 ≤ bnd n m := by
  have h1 := nxt_pos n
  have h2 := nxt_pos m
  have h3 := Nat.mul_le_mul h1 h2
  have hm : maxI = 9223372036854775807 := rfl
  have h4 : 1 ≤ prd (nxt n) (nxt m) := by unfold prd; split <;> omega
  unfold bnd
  generalize prd (nxt n) (nxt m) = p at h4
  unfold prd
  split <;> omega

theorem wf_of (n : Int) (h1 : -9223372036854775808 ≤ n) (h2 : n ≤ 9223372036854775807) : (Lit.int .i64 n).wf = true := by
  have a : IntKind.i64.min = -9223372036854775808 := by kernel_rfl
  have b : IntKind.i64.max = 9223372036854775807 := by kernel_rfl
  simp only [Lit.wf, Bool.and_eq_true, decide_eq_true_eq, a, b]
  omega
/-- What the law's calls answer, the numbers' names hidden. -/
structure BoundAt (n m K K1 K2 : Int) : Prop where
  c0 : ∀ w, Calls Try.prog 19 #[.int .i64 n, .int .i64 m] w fun e w' => e = .returned (.int .i64 K) ∧ w' = w
  r0 : ∀ w, Calls Try.prog 20 #[.int .i64 n, .int .i64 m] w fun e w' => e = .returned (.int .i64 K) ∧ w' = w
  c1 : n ≠ 9223372036854775807 → ∀ w, Calls Try.prog 19 #[.int .i64 (wrap64 (n + 1)), .int .i64 m] w fun e w' => e = .returned (.int .i64 K1) ∧ w' = w
  c2 : m ≠ 9223372036854775807 → ∀ w, Calls Try.prog 19 #[.int .i64 n, .int .i64 (wrap64 (m + 1))] w fun e w' => e = .returned (.int .i64 K2) ∧ w' = w
  k1 : n ≠ 9223372036854775807 → K ≤ K1
  k2 : m ≠ 9223372036854775807 → K ≤ K2
  ge : 16 ≤ K
theorem bound_at (n m : Int) (hn : (Lit.int .i64 n).wf = true) (hm : (Lit.int .i64 m).wf = true) : ∃ K K1 K2, BoundAt n m K K1 K2 := by
  have hnr := wf64 hn
  have hmr := wf64 hm
  refine ⟨bnd n m, bnd (n + 1) m, bnd n (m + 1), ⟨fun w => bound_any n m w hn hm, fun w => rbound_any n m w hn hm, fun h w => ?_, fun h w => ?_, fun h => ?_, fun h => ?_, ?_⟩⟩
  · have e1 : wrap64 (n + 1) = n + 1 := by unfold wrap64; omega
    rw [e1]
    exact bound_any (n + 1) m w (wf_of _ (by omega) (by omega)) hm
  · have e1 : wrap64 (m + 1) = m + 1 := by unfold wrap64; omega
    rw [e1]
    exact bound_any n (m + 1) w hn (wf_of _ (by omega) (by omega))
  · exact_mod_cast bnd_mono1 n m (by omega)
  · exact_mod_cast bnd_mono2 n m (by omega)
  · exact_mod_cast bnd_ge n m

set_option maxHeartbeats 1000000 in
theorem costBound_law (w : World) (n m : Int) (hn : (Lit.int .i64 n).wf = true) (hm : (Lit.int .i64 m).wf = true) :
    Calls Try.prog 7 #[.int .i64 n, .int .i64 m] w fun e w' => e = .returned (.bool true) ∧ Below w.heap.size w w' := by
  obtain ⟨K, K1, K2, hk⟩ := bound_at n m hn hm
  clear hn hm
  have HK := Lib.hid hk
  have kge := hk.ge
  clear hk
  by_cases hN : n = 9223372036854775807
  · have hN' : (n == 9223372036854775807) = true := by simpa using hN
    clear hN
    by_cases hM : m = 9223372036854775807
    · have hM' : (m == 9223372036854775807) = true := by simpa using hM
      clear hM
      go_enter Try.func7, Try.ntmps7
      go_wp2_with fail
      refine (HK.out.c0 _).mono ?_
      rintro e w1 ⟨rfl, rfl⟩
      go_wp2_with fail
      refine (HK.out.r0 _).mono ?_
      rintro e w1 ⟨rfl, rfl⟩
      go_wp2_with fail
      refine (example_any _).mono ?_
      rintro e w3 ⟨rfl, hb⟩
      go_wp2_with fail
      go_ret
      exact ⟨rfl, hb⟩
    · have hM' : (m == 9223372036854775807) = false := by simpa using hM
      have k2 := HK.out.k2 hM
      have C2 := Lib.hid (HK.out.c2 hM)
      clear hM
      go_enter Try.func7, Try.ntmps7
      go_wp2_with fail
      refine (HK.out.c0 _).mono ?_
      rintro e w1 ⟨rfl, rfl⟩
      go_wp2_with fail
      refine (HK.out.r0 _).mono ?_
      rintro e w1 ⟨rfl, rfl⟩
      go_wp2_with fail
      refine (C2.out _).mono ?_
      rintro e w1 ⟨rfl, rfl⟩
      go_wp2_with fail
      refine (example_any _).mono ?_
      rintro e w3 ⟨rfl, hb⟩
      go_wp2_with fail
      go_ret
      exact ⟨rfl, hb⟩
  · have hN' : (n == 9223372036854775807) = false := by simpa using hN
    have k1 := HK.out.k1 hN
    have C1 := Lib.hid (HK.out.c1 hN)
    clear hN
    by_cases hM : m = 9223372036854775807
    · have hM' : (m == 9223372036854775807) = true := by simpa using hM
      clear hM
      go_enter Try.func7, Try.ntmps7
      go_wp2_with fail
      refine (HK.out.c0 _).mono ?_
      rintro e w1 ⟨rfl, rfl⟩
      go_wp2_with fail
      refine (C1.out _).mono ?_
      rintro e w1 ⟨rfl, rfl⟩
      go_wp2_with fail
      refine (HK.out.r0 _).mono ?_
      rintro e w1 ⟨rfl, rfl⟩
      go_wp2_with fail
      refine (example_any _).mono ?_
      rintro e w3 ⟨rfl, hb⟩
      go_wp2_with fail
      go_ret
      exact ⟨rfl, hb⟩
    · have hM' : (m == 9223372036854775807) = false := by simpa using hM
      have k2 := HK.out.k2 hM
      have C2 := Lib.hid (HK.out.c2 hM)
      clear hM
      go_enter Try.func7, Try.ntmps7
      go_wp2_with fail
      refine (HK.out.c0 _).mono ?_
      rintro e w1 ⟨rfl, rfl⟩
      go_wp2_with fail
      refine (C1.out _).mono ?_
      rintro e w1 ⟨rfl, rfl⟩
      go_wp2_with fail
      refine (HK.out.r0 _).mono ?_
      rintro e w1 ⟨rfl, rfl⟩
      go_wp2_with fail
      refine (C2.out _).mono ?_
      rintro e w1 ⟨rfl, rfl⟩
      go_wp2_with fail
      refine (example_any _).mono ?_
      rintro e w3 ⟨rfl, hb⟩
      go_wp2_with fail
      go_ret
      exact ⟨rfl, hb⟩
end Go.Proofs.Ytngdchahahabpaa
