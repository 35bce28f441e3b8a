/- The walk of the law BaseOrder; no condition. -/
import Derived.Test.YtmehknlijcbphaaDoorLArith
namespace Go.Proofs.YtmehknlijcbphaaDoor
open Go.RowKit

abbrev nEq : ByteArray := ⟨#[105, 110, 116, 69, 113]⟩
abbrev nLt : ByteArray := ⟨#[105, 110, 116, 76, 116]⟩
abbrev nLe : ByteArray := ⟨#[105, 110, 116, 76, 101]⟩
abbrev nSub : ByteArray := ⟨#[105, 110, 116, 83, 117, 98]⟩
abbrev nNeg : ByteArray := ⟨#[105, 110, 116, 78, 101, 103]⟩
abbrev nChr : ByteArray := ⟨#[99, 104, 114]⟩
abbrev nOrd : ByteArray := ⟨#[111, 114, 100]⟩
abbrev tf (b : Bool) : ByteArray := if b = true then sTrue else sFalse
theorem ar_eq (a b : Int) : arith nEq.toList a b = (⟨3, tf (a == b), 0, none⟩, true) := by
  have e : nEq.toList = [105, 110, 116, 69, 113] := by decide +kernel
  rw [e]
  simp [arith, tf]
theorem ar_lt (a b : Int) : arith nLt.toList a b = (⟨3, tf (decide (a < b)), 0, none⟩, true) := by
  have e : nLt.toList = [105, 110, 116, 76, 116] := by decide +kernel
  rw [e]
  simp [arith, tf]
theorem ar_le (a b : Int) : arith nLe.toList a b = (⟨3, tf (decide (a ≤ b)), 0, none⟩, true) := by
  have e : nLe.toList = [105, 110, 116, 76, 101] := by decide +kernel
  rw [e]
  simp [arith, tf]
theorem ar_sub (a b : Int) : arith nSub.toList a b = (⟨1, .empty, wrap64 (a - b), none⟩, true) := by
  have e : nSub.toList = [105, 110, 116, 83, 117, 98] := by decide +kernel
  rw [e]
  simp [arith]
theorem ar_neg (a b : Int) : arith nNeg.toList a b = (⟨1, .empty, wrap64 (-a), none⟩, true) := by
  have e : nNeg.toList = [105, 110, 116, 78, 101, 103] := by decide +kernel
  rw [e]
  simp [arith]
theorem ar_chr (a b : Int) (h : 0 ≤ a ∧ a ≤ 255) : arith nChr.toList a b = (⟨2, .empty, a, none⟩, true) := by
  have e : nChr.toList = [99, 104, 114] := by decide +kernel
  rw [e]
  simp [arith, h]
theorem ar_chr_bad (a b : Int) (h : ¬ (0 ≤ a ∧ a ≤ 255)) : arith nChr.toList a b = (⟨5, .empty, 0, some (⟨#[70, 97, 105, 108, 117, 114, 101]⟩, a)⟩, true) := by
  have e : nChr.toList = [99, 104, 114] := by decide +kernel
  rw [e]
  simp [arith, h]
theorem ar_ord (a b : Int) (h : 0 ≤ a ∧ a ≤ 255) : arith nOrd.toList a b = (⟨1, .empty, a, none⟩, true) := by
  have e : nOrd.toList = [111, 114, 100] := by decide +kernel
  rw [e]
  simp [arith, h]
theorem wrap_mod {x y : Int} (k : Int) (h : x = y + k * 18446744073709551616) : wrap64 x = wrap64 y := by
  unfold wrap64
  omega
theorem sub_neg (a b : Int) : wrap64 (a + wrap64 (-b)) = wrap64 (a - b) := by
  obtain ⟨k, e⟩ := wrap_off (-b)
  exact wrap_mod k (by omega)
theorem tf_is (b : Bool) : ((tf b).toList == [84, 114, 117, 101]) = b := by cases b <;> decide +kernel

set_option maxRecDepth 10000 in
set_option maxHeartbeats 4000000 in
theorem baseOrder_law (a b : Int) (w : World) (ha : -9223372036854775808 ≤ a ∧ a ≤ 9223372036854775807) (_ : -9223372036854775808 ≤ b ∧ b ≤ 9223372036854775807) (hW : Tabd w) :
    Calls Tryd.prog 5 #[.int .i64 a, .int .i64 b] w fun e w' => e = .returned (.bool true) ∧ Below w.heap.size w w' := by
  have HT := Lib.hid hW
  have D : ∃ e l le g, (a == b) = e ∧ decide (a < b) = l ∧ decide (a ≤ b) = le ∧ decide (b < a) = g ∧ ((e = true ∧ l = false ∧ le = true ∧ g = false) ∨ (e = false ∧ l = true ∧ le = true ∧ g = false) ∨ (e = false ∧ l = false ∧ le = false ∧ g = true)) := by
    refine ⟨_, _, _, _, rfl, rfl, rfl, rfl, ?_⟩
    rcases Int.lt_trichotomy a b with h | h | h
    · right; left; simp; omega
    · left; simp; omega
    · right; right; simp; omega
  obtain ⟨e0, l0, le0, g0, he0, hl0, hle0, hg0, hcase⟩ := D
  have CE := Lib.hid (he0 ▸ ar_eq a b)
  have CL := Lib.hid (hl0 ▸ ar_lt a b)
  have CLE := Lib.hid (hle0 ▸ ar_le a b)
  have CG := Lib.hid (hg0 ▸ ar_lt b a)
  have HE := Lib.hid he0
  have CASE := Lib.hid hcase
  have TE := Lib.hid (tf_is e0)
  have TL := Lib.hid (tf_is l0)
  have TLE := Lib.hid (tf_is le0)
  have TG := Lib.hid (tf_is g0)
  have HR := Lib.hid ha
  generalize tf e0 = sE at *
  generalize tf l0 = sL at *
  generalize tf le0 = sLe at *
  generalize tf g0 = sG at *
  clear ha hW he0 hl0 hle0 hg0 hcase
  go_enter Tryd.func5, Tryd.ntmps5
  go_wp2_with fail
  refine (ar_known CE.out _).mono ?_
  rintro e w1 ⟨rfl, hb1⟩
  have X1 := Lib.hid (new0 w1 (.cells #[.int .i64 3, .string sE, .int .i64 0, .slice none 0 0, .bool false, .slice none 0 0] 35))
  have B1 := Lib.hid (below_boxed hb1 (Nat.le_refl _) (.cells #[.int .i64 3, .string sE, .int .i64 0, .slice none 0 0, .bool false, .slice none 0 0] 35))
  clear hb1
  go_upto_region 2 with (fail)
  generalize w1.alloc (.cells #[.int .i64 3, .string sE, .int .i64 0, .slice none 0 0, .bool false, .slice none 0 0] 35) = W1 at *
  generalize w1.heap.size = g1 at *
  go_wp2_with fail
  refine (ar_known CL.out _).mono ?_
  rintro e w2 ⟨rfl, hb2⟩
  have X2 := Lib.hid (new0 w2 (.cells #[.int .i64 3, .string sL, .int .i64 0, .slice none 0 0, .bool false, .slice none 0 0] 35))
  have hbb := below_boxed hb2 (Nat.le_refl _) (.cells #[.int .i64 3, .string sL, .int .i64 0, .slice none 0 0, .bool false, .slice none 0 0] 35)
  have X1 := Lib.hid (rowB hbb X1.out (heap_lt X1.out))
  have B2 := Lib.hid (below_then B1.out B1.out.size hbb)
  clear hb2 hbb
  go_upto_region 3 with (fail)
  generalize w2.alloc (.cells #[.int .i64 3, .string sL, .int .i64 0, .slice none 0 0, .bool false, .slice none 0 0] 35) = W2 at *
  generalize w2.heap.size = g2 at *
  go_wp2_with fail
  refine (ar_known CLE.out _).mono ?_
  rintro e w3 ⟨rfl, hb3⟩
  have X3 := Lib.hid (new0 w3 (.cells #[.int .i64 3, .string sLe, .int .i64 0, .slice none 0 0, .bool false, .slice none 0 0] 35))
  have hbb := below_boxed hb3 (Nat.le_refl _) (.cells #[.int .i64 3, .string sLe, .int .i64 0, .slice none 0 0, .bool false, .slice none 0 0] 35)
  have X1 := Lib.hid (rowB hbb X1.out (heap_lt X1.out))
  have X2 := Lib.hid (rowB hbb X2.out (heap_lt X2.out))
  have B3 := Lib.hid (below_then B2.out B2.out.size hbb)
  clear hb3 hbb
  go_upto_region 4 with (fail)
  generalize w3.alloc (.cells #[.int .i64 3, .string sLe, .int .i64 0, .slice none 0 0, .bool false, .slice none 0 0] 35) = W3 at *
  generalize w3.heap.size = g3 at *
  go_wp2_with fail
  refine (ar_known CG.out _).mono ?_
  rintro e w4 ⟨rfl, hb4⟩
  have X4 := Lib.hid (new0 w4 (.cells #[.int .i64 3, .string sG, .int .i64 0, .slice none 0 0, .bool false, .slice none 0 0] 35))
  have hbb := below_boxed hb4 (Nat.le_refl _) (.cells #[.int .i64 3, .string sG, .int .i64 0, .slice none 0 0, .bool false, .slice none 0 0] 35)
  have X1 := Lib.hid (rowB hbb X1.out (heap_lt X1.out))
  have X2 := Lib.hid (rowB hbb X2.out (heap_lt X2.out))
  have X3 := Lib.hid (rowB hbb X3.out (heap_lt X3.out))
  have B4 := Lib.hid (below_then B3.out B3.out.size hbb)
  clear hb4 hbb
  go_upto_region 5 with (fail)
  generalize w4.alloc (.cells #[.int .i64 3, .string sG, .int .i64 0, .slice none 0 0, .bool false, .slice none 0 0] 35) = W4 at *
  generalize w4.heap.size = g4 at *
  go_wp2_with fail
  refine (ar_known (ar_sub a b) _).mono ?_
  rintro e w5 ⟨rfl, hb5⟩
  have X5 := Lib.hid (new0 w5 (.cells #[.int .i64 1, .string .empty, .int .i64 (wrap64 (a - b)), .slice none 0 0, .bool false, .slice none 0 0] 35))
  have hbb := below_boxed hb5 (Nat.le_refl _) (.cells #[.int .i64 1, .string .empty, .int .i64 (wrap64 (a - b)), .slice none 0 0, .bool false, .slice none 0 0] 35)
  have X1 := Lib.hid (rowB hbb X1.out (heap_lt X1.out))
  have X2 := Lib.hid (rowB hbb X2.out (heap_lt X2.out))
  have X3 := Lib.hid (rowB hbb X3.out (heap_lt X3.out))
  have X4 := Lib.hid (rowB hbb X4.out (heap_lt X4.out))
  have B5 := Lib.hid (below_then B4.out B4.out.size hbb)
  clear hb5 hbb
  go_upto_region 6 with (fail)
  generalize w5.alloc (.cells #[.int .i64 1, .string .empty, .int .i64 (wrap64 (a - b)), .slice none 0 0, .bool false, .slice none 0 0] 35) = W5 at *
  generalize w5.heap.size = g5 at *
  go_wp2_with fail
  refine (ar_known (ar_neg b a) _).mono ?_
  rintro e w6 ⟨rfl, hb6⟩
  have X6 := Lib.hid (new0 w6 (.cells #[.int .i64 1, .string .empty, .int .i64 (wrap64 (-b)), .slice none 0 0, .bool false, .slice none 0 0] 35))
  have hbb := below_boxed hb6 (Nat.le_refl _) (.cells #[.int .i64 1, .string .empty, .int .i64 (wrap64 (-b)), .slice none 0 0, .bool false, .slice none 0 0] 35)
  have X1 := Lib.hid (rowB hbb X1.out (heap_lt X1.out))
  have X2 := Lib.hid (rowB hbb X2.out (heap_lt X2.out))
  have X3 := Lib.hid (rowB hbb X3.out (heap_lt X3.out))
  have X4 := Lib.hid (rowB hbb X4.out (heap_lt X4.out))
  have X5 := Lib.hid (rowB hbb X5.out (heap_lt X5.out))
  have B6 := Lib.hid (below_then B5.out B5.out.size hbb)
  clear hb6 hbb
  go_upto_region 7 with (fail)
  generalize w6.alloc (.cells #[.int .i64 1, .string .empty, .int .i64 (wrap64 (-b)), .slice none 0 0, .bool false, .slice none 0 0] 35) = W6 at *
  generalize w6.heap.size = g6 at *
  have c6 := cellsH X6.out
  go_wp2_with fail
  clear c6
  refine (ar_known (ar_add a (wrap64 (-b))) _).mono ?_
  rintro e w7 ⟨rfl, hb7⟩
  rw [sub_neg a b] at *
  have X7 := Lib.hid (new0 w7 (.cells #[.int .i64 1, .string .empty, .int .i64 (wrap64 (a - b)), .slice none 0 0, .bool false, .slice none 0 0] 35))
  have hbb := below_boxed hb7 (Nat.le_refl _) (.cells #[.int .i64 1, .string .empty, .int .i64 (wrap64 (a - b)), .slice none 0 0, .bool false, .slice none 0 0] 35)
  have X1 := Lib.hid (rowB hbb X1.out (heap_lt X1.out))
  have X2 := Lib.hid (rowB hbb X2.out (heap_lt X2.out))
  have X3 := Lib.hid (rowB hbb X3.out (heap_lt X3.out))
  have X4 := Lib.hid (rowB hbb X4.out (heap_lt X4.out))
  have X5 := Lib.hid (rowB hbb X5.out (heap_lt X5.out))
  have B7 := Lib.hid (below_then B6.out B6.out.size hbb)
  clear hb7 hbb
  go_upto_region 8 with (fail)
  generalize w7.alloc (.cells #[.int .i64 1, .string .empty, .int .i64 (wrap64 (a - b)), .slice none 0 0, .bool false, .slice none 0 0] 35) = W7 at *
  generalize w7.heap.size = g7 at *
  clear X6
  generalize wrap64 (a - b) = dd at *
  have c1 := cellsH X1.out
  have c2 := cellsH X2.out
  have c3 := cellsH X3.out
  have c4 := cellsH X4.out
  have c5 := cellsH X5.out
  have c7 := cellsH X7.out
  have he := HE.out
  have te := TE.out
  have tl := TL.out
  have tle := TLE.out
  have tg := TG.out
  have cc := CASE.out
  rcases cc with ⟨rfl, rfl, rfl, rfl⟩ | ⟨rfl, rfl, rfl, rfl⟩ | ⟨rfl, rfl, rfl, rfl⟩
  all_goals
    go_upto_region 10 with (fail)
    clear c1 c2 c3 c4 c5 c7 X1 X2 X3 X4 X5 X7 te tl tle tg he
    by_cases hc : 0 ≤ a ∧ a ≤ 255
    · have HC := Lib.hid hc
      have d1 : decide (a < 0) = false := by simp; omega
      have d2 : decide (a > 255) = false := by simp; omega
      clear hc
      go_wp2_with fail
      refine (ar_known (ar_chr a b HC.out) _).mono ?_
      rintro e w8 ⟨rfl, hb8⟩
      have X8 := Lib.hid (new0 w8 (.cells #[.int .i64 2, .string .empty, .int .i64 a, .slice none 0 0, .bool false, .slice none 0 0] 35))
      have B8 := Lib.hid (below_then B7.out B7.out.size (below_boxed hb8 (Nat.le_refl _) (.cells #[.int .i64 2, .string .empty, .int .i64 a, .slice none 0 0, .bool false, .slice none 0 0] 35)))
      clear hb8
      go_upto_region 11 with (fail)
      generalize w8.alloc (.cells #[.int .i64 2, .string .empty, .int .i64 a, .slice none 0 0, .bool false, .slice none 0 0] 35) = W8 at *
      generalize w8.heap.size = g8 at *
      have c8 := cellsH X8.out
      go_wp2_with fail
      clear c8
      refine (ar_known (ar_ord a b HC.out) _).mono ?_
      rintro e w9 ⟨rfl, hb9⟩
      have hbb := below_boxed hb9 (Nat.le_refl _) (.cells #[.int .i64 1, .string .empty, .int .i64 a, .slice none 0 0, .bool false, .slice none 0 0] 35)
      have X8 := Lib.hid (rowB hbb X8.out (heap_lt X8.out))
      have X9 := Lib.hid (new0 w9 (.cells #[.int .i64 1, .string .empty, .int .i64 a, .slice none 0 0, .bool false, .slice none 0 0] 35))
      have B9 := Lib.hid (below_then B8.out B8.out.size hbb)
      clear hb9 hbb
      go_upto_region 14 with (fail)
      generalize w9.alloc (.cells #[.int .i64 1, .string .empty, .int .i64 a, .slice none 0 0, .bool false, .slice none 0 0] 35) = W9 at *
      generalize w9.heap.size = g9 at *
      have c8 := cellsH X8.out
      have c9 := cellsH X9.out
      go_wp2_with fail
      refine (awake_any _ (tabd_below _ _ B9.out HT.out)).mono ?_
      rintro e w10 ⟨rfl, hb10⟩
      have B10 := below_then B9.out B9.out.size hb10
      clear hb10
      go_wp2_with fail
      go_ret
      exact ⟨rfl, B10⟩
    · have HC := Lib.hid (ar_chr_bad a b hc)
      have dd1 : (decide (a < 0) = true) ∨ (decide (a < 0) = false ∧ decide (a > 255) = true) := by
        by_cases h0 : a < 0
        · left; simp [h0]
        · right; simp [h0]; omega
      clear hc
      go_wp2_with fail
      refine (arith_any _ _ _ _).mono ?_
      rintro e w8 ⟨v8, rfl, hv8, hb8⟩
      rw [show (arith (ByteArray.toList ⟨#[99, 104, 114]⟩) a b) = _ from HC.out] at hv8 ⊢
      obtain ⟨A8, k8, q8, rfl⟩ := hv8.open
      clear hv8
      have X8 := Lib.hid (new0 w8 (.cells #[.int .i64 5, .string .empty, .int .i64 0, .slice none 0 0, .bool false, .slice A8 k8 q8] 35))
      have B8 := Lib.hid (below_then B7.out B7.out.size (below_boxed hb8 (Nat.le_refl _) (.cells #[.int .i64 5, .string .empty, .int .i64 0, .slice none 0 0, .bool false, .slice A8 k8 q8] 35)))
      clear hb8
      go_upto_region 11 with (fail)
      generalize w8.alloc (.cells #[.int .i64 5, .string .empty, .int .i64 0, .slice none 0 0, .bool false, .slice A8 k8 q8] 35) = W8 at *
      generalize w8.heap.size = g8 at *
      have c8 := cellsH X8.out
      rcases dd1 with d1 | ⟨d1, d2⟩
      all_goals
        go_wp2_with fail
        refine (awake_any _ (tabd_below _ _ B8.out HT.out)).mono ?_
        rintro e w9 ⟨rfl, hb9⟩
        have B9 := below_then B8.out B8.out.size hb9
        clear hb9
        go_wp2_with fail
        go_ret
        exact ⟨rfl, B9⟩
end Go.Proofs.YtmehknlijcbphaaDoor
