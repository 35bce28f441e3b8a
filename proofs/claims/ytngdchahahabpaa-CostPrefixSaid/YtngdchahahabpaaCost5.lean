/- The reference's bound is the program's; no condition. -/
import Derived.Test.YtngdchahahabpaaCost4
namespace Go.Proofs.Ytngdchahahabpaa
open Go.RowKit

theorem nxt_pl {n : Int} {a : Int} (ha : a = max n 0) (h : a < 9223372036854775807) : (nxt n : Int) = a + 1 := by
  unfold nxt
  by_cases h0 : n < 0
  · rw [if_pos h0]
    omega
  · rw [if_neg h0, if_neg (by omega)]
    omega
theorem nxt_ge {n : Int} {a : Int} (ha : a = max n 0) (_hn : n ≤ 9223372036854775807) (h : 576460752303423487 ≤ a) : 576460752303423488 ≤ nxt n := by
  unfold nxt maxI
  rw [if_neg (by omega)]
  split <;> omega
theorem bnd_big1 {n m : Int} (h : 576460752303423488 ≤ nxt n) : bnd n m = 9223372036854775807 := by
  have hm := nxt_pos m
  unfold bnd
  generalize nxt n = A at *
  generalize nxt m = B at *
  have h1 : A ≤ A * B := Nat.le_mul_of_pos_right A hm
  unfold prd maxI
  split <;> split <;> omega
theorem bnd_big2 {n m : Int} (h : 576460752303423488 ≤ nxt m) : bnd n m = 9223372036854775807 := by
  have hm := nxt_pos n
  unfold bnd
  generalize nxt n = A at *
  generalize nxt m = B at *
  have h1 : B ≤ A * B := Nat.le_mul_of_pos_left B hm
  unfold prd maxI
  split <;> split <;> omega
theorem bnd_eq {n m : Int} (p : Nat) (h : nxt n * nxt m = p) : bnd n m = if 9223372036854775807 < 16 * p then 9223372036854775807 else 16 * p := by
  unfold bnd prd maxI
  rw [h]
  by_cases h1 : 9223372036854775807 < p
  · rw [if_pos h1, if_pos (by omega), if_pos (by omega)]
  · rw [if_neg h1]

set_option maxHeartbeats 400000 in
theorem rbound_any (n m : Int) (w : World) (hn : (Lit.int .i64 n).wf = true) (hm : (Lit.int .i64 m).wf = true) :
    Calls Try.prog 20 #[.int .i64 n, .int .i64 m] w fun e w' => e = .returned (.int .i64 (bnd n m)) ∧ w' = w := by
  have n1 := (wf64 hn).2
  have m1 := (wf64 hm).2
  by_cases g1 : 576460752303423487 ≤ max n 0
  · have HV := Lib.hid (bnd_big1 (m := m) (nxt_ge rfl n1 g1))
    clear n1 m1 hn hm
    go_enter Try.func20, Try.ntmps20
    go_wp2
    go_ret
    rw [HV.out]
    exact ⟨rfl, rfl⟩
  · by_cases g2 : 576460752303423487 ≤ max m 0
    · have HV := Lib.hid (bnd_big2 (n := n) (nxt_ge rfl m1 g2))
      have g1' : max n 0 < 576460752303423487 := by omega
      clear n1 m1 hn hm g1
      go_enter Try.func20, Try.ntmps20
      go_wp2
      go_ret
      rw [HV.out]
      exact ⟨rfl, rfl⟩
    · have e1 := nxt_pl (n := n) rfl (by omega)
      have e2 := nxt_pl (n := m) rfl (by omega)
      have g1' : max n 0 < 576460752303423487 := by omega
      have g2' : max m 0 < 576460752303423487 := by omega
      have g3 : 0 ≤ max n 0 := by omega
      have g4 : 0 ≤ max m 0 := by omega
      have hV := bnd_eq (n := n) (m := m) _ rfl
      have hp : ((nxt n * nxt m : Nat) : Int) = (max n 0 + 1) * (max m 0 + 1) := by rw [Int.natCast_mul, e1, e2]
      clear n1 m1 hn hm g1 g2 e1 e2
      generalize nxt n * nxt m = p at hV hp
      have HV := Lib.hid hV
      have HP := Lib.hid hp
      clear hV hp
      go_enter Try.func20, Try.ntmps20
      go_wp2
      · have h : 9223372036854775807 / (max m 0 + 1) < 16 * (max n 0 + 1) := by assumption
        have h1 := (Int.ediv_lt_iff_lt_mul (by omega)).1 h
        have h2 : 16 * (max n 0 + 1) * (max m 0 + 1) = 16 * (p : Int) := by rw [HP.out, Int.mul_assoc]
        have e : bnd n m = 9223372036854775807 := by rw [HV.out, if_pos (by omega)]
        clear h
        go_ret
        rw [e]
        exact ⟨rfl, rfl⟩
      · have h : 16 * (max n 0 + 1) ≤ 9223372036854775807 / (max m 0 + 1) := by assumption
        have h1 := (Int.le_ediv_iff_mul_le (by omega)).1 h
        have h2 : 16 * (max n 0 + 1) * (max m 0 + 1) = 16 * (p : Int) := by rw [HP.out, Int.mul_assoc]
        have e : bnd n m = 16 * p := by rw [HV.out, if_neg (by omega)]
        have e2 : wrap64 (16 * (max n 0 + 1) * (max m 0 + 1)) = ((bnd n m : Nat) : Int) := by rw [h2, e]; unfold wrap64; omega
        clear h
        go_ret
        rw [← e2]
        exact ⟨rfl, rfl⟩
end Go.Proofs.Ytngdchahahabpaa
