/- The bound of the steps: the program's and the reference's; no condition. -/
import Derived.Test.YtngdchahahabpaaCost3
namespace Go.Proofs.Ytngdchahahabpaa
open Go.RowKit

/-- The greatest int. -/
def maxI : Nat := 9223372036854775807
/-- n + 1, at least 1, at most the greatest int. -/
def nxt (n : Int) : Nat := if n < 0 then 1 else if n = 9223372036854775807 then maxI else n.toNat + 1
/-- A product, at most the greatest int. -/
def prd (a b : Nat) : Nat := if maxI < a * b then maxI else a * b

theorem wf64 {n : Int} (h : (Lit.int .i64 n).wf = true) : -9223372036854775808 ≤ n ∧ n ≤ 9223372036854775807 := by
  simp [Lit.wf, IntKind.min, IntKind.max, IntKind.signed, IntKind.bits] at h
  omega
theorem next_any (n : Int) (w : World) (hw : (Lit.int .i64 n).wf = true) : Calls Try.prog 35 #[.int .i64 n] w fun e w' => e = .returned (.int .i64 (nxt n)) ∧ w' = w := by
  have hb := wf64 hw
  by_cases h0 : n < 0
  · have HM := Lib.hid (show (nxt n : Int) = 1 by simp [nxt, h0])
    clear hb hw
    go_enter Try.func35, Try.ntmps35
    go_wp2
    go_ret
    rw [HM.out]
    exact ⟨rfl, rfl⟩
  · by_cases h1 : n = 9223372036854775807
    · have HM := Lib.hid (show (nxt n : Int) = n by simp [nxt, h1, maxI])
      have h2 : (n == 9223372036854775807) = true := by simpa using h1
      have h3 : 0 ≤ n := by omega
      clear hb hw h0 h1
      go_enter Try.func35, Try.ntmps35
      go_wp2
      go_ret
      rw [HM.out]
      exact ⟨rfl, rfl⟩
    · have HM := Lib.hid (show (nxt n : Int) = n + 1 by simp [nxt, h0, h1]; omega)
      have h2 : (n == 9223372036854775807) = false := by simpa using h1
      have h3 : 0 ≤ n := by omega
      have h4 : n + 1 ≤ 9223372036854775807 := by omega
      clear hb hw h0 h1
      go_enter Try.func35, Try.ntmps35
      go_wp2
      go_ret
      rw [HM.out]
      exact ⟨rfl, rfl⟩
theorem nxt_pos (n : Int) : 1 ≤ nxt n := by
  unfold nxt maxI
  split
  · exact Nat.le_refl _
  · split <;> omega
theorem nxt_le (n : Int) (h : n ≤ 9223372036854775807) : nxt n ≤ maxI := by
  unfold nxt maxI
  split
  · omega
  · split <;> omega
theorem prd_le (a b : Nat) : prd a b ≤ maxI := by
  unfold prd
  split <;> omega

theorem product_any (a b : Nat) (w : World) (ha : a ≤ maxI) (hb : b ≤ maxI) : Calls Try.prog 34 #[.int .i64 a, .int .i64 b] w fun e w' => e = .returned (.int .i64 (prd a b)) ∧ w' = w := by
  have h1 : a ≤ 9223372036854775807 := ha
  have h2 : b ≤ 9223372036854775807 := hb
  have m0 := Try.bits_Mul64 a b (by omega) (by omega) w
  have hp : prd a b = if 9223372036854775807 < a * b then 9223372036854775807 else a * b := rfl
  clear ha hb
  generalize a * b = p at m0 hp
  generalize hhi : p / 18446744073709551616 = hi at m0
  generalize hlo : p % 18446744073709551616 = lo at m0
  have M := Lib.hid m0
  clear m0
  by_cases h0 : hi = 0
  · subst h0
    by_cases hl : lo ≤ 9223372036854775807
    · have HP := Lib.hid (show prd a b = lo by rw [hp]; split <;> omega)
      clear hp hhi hlo
      go_enter Try.func34, Try.ntmps34
      go_wp2_with fail
      refine M.out.mono ?_
      rintro e w' ⟨rfl, rfl⟩
      go_wp2_with fail
      go_ret
      rw [HP.out]
      exact ⟨rfl, rfl⟩
    · have HP := Lib.hid (show prd a b = 9223372036854775807 by rw [hp]; split <;> omega)
      have hl' : 9223372036854775807 < lo := by omega
      clear hp hhi hlo hl
      go_enter Try.func34, Try.ntmps34
      go_wp2_with fail
      refine M.out.mono ?_
      rintro e w' ⟨rfl, rfl⟩
      go_wp2_with fail
      go_ret
      rw [HP.out]
      exact ⟨rfl, rfl⟩
  · have HP := Lib.hid (show prd a b = 9223372036854775807 by rw [hp]; split <;> omega)
    have h0' : (0 : Int) < hi := by omega
    have h0b : (((hi : Nat) : Int) == 0) = false := by simpa using h0
    clear hp hhi hlo h0
    go_enter Try.func34, Try.ntmps34
    go_wp2_with fail
    refine M.out.mono ?_
    rintro e w' ⟨rfl, rfl⟩
    go_wp2_with fail
    go_ret
    rw [HP.out]
    exact ⟨rfl, rfl⟩

/-- The bound. -/
def bnd (size steps : Int) : Nat := prd 16 (prd (nxt size) (nxt steps))

theorem bound_any (n m : Int) (w : World) (hn : (Lit.int .i64 n).wf = true) (hm : (Lit.int .i64 m).wf = true) : Calls Try.prog 19 #[.int .i64 n, .int .i64 m] w fun e w' => e = .returned (.int .i64 (bnd n m)) ∧ w' = w := by
  have N := fun w => next_any n w hn
  have M := fun w => next_any m w hm
  have l1 := nxt_le n (wf64 hn).2
  have l2 := nxt_le m (wf64 hm).2
  have P1 := fun w => product_any (nxt n) (nxt m) w l1 l2
  have P2 := fun w => product_any 16 (prd (nxt n) (nxt m)) w (by decide) (prd_le _ _)
  have hb : bnd n m = prd 16 (prd (nxt n) (nxt m)) := rfl
  rw [hb]
  generalize prd 16 (prd (nxt n) (nxt m)) = z at *
  generalize prd (nxt n) (nxt m) = y at *
  generalize nxt n = a at *
  generalize nxt m = b at *
  have N' := Lib.hid N
  have M' := Lib.hid M
  have P1' := Lib.hid P1
  have P2' := Lib.hid P2
  clear N M P1 P2 hb l1 l2 hn hm
  go_enter Try.func19, Try.ntmps19
  go_wp2_with fail
  refine (N'.out _).mono ?_
  rintro e w1 ⟨rfl, rfl⟩
  go_wp2_with fail
  refine (M'.out _).mono ?_
  rintro e w2 ⟨rfl, rfl⟩
  go_wp2_with fail
  refine (P1'.out _).mono ?_
  rintro e w3 ⟨rfl, rfl⟩
  go_wp2_with fail
  refine (P2'.out _).mono ?_
  rintro e w4 ⟨rfl, rfl⟩
  go_wp2_with fail
  go_ret
  exact ⟨rfl, rfl⟩
end Go.Proofs.Ytngdchahahabpaa
