/- The walk of the law BaseArith; no condition. -/
import Derived.Test.YtmehknlijcbphaaDoorAw
import Derived.Test.YtmehknlijcbphaaDoorAr3
import Derived.Test.YtmehknlijcbphaaDoorSv
namespace Go.Proofs.YtmehknlijcbphaaDoor
open Go.RowKit

theorem ValAt.open {ok : Nat → Prop} {w : World} {v : Value} {x : Val} (h : ValAt ok w v x) : ∃ A k c, v = .agg #[.int .i64 x.op, .string x.name, .int .i64 x.n, .slice none 0 0, .bool false, .slice A k c] := by
  obtain ⟨l, rfl, h⟩ := h
  cases hx : x.exc with
  | none => rw [hx] at h; exact ⟨_, _, _, by rw [show l = _ from h]⟩
  | some p =>
    rw [hx] at h
    obtain ⟨g, rfl, _⟩ := h
    exact ⟨_, _, _, rfl⟩
abbrev valV (x : Val) (A : Option Addr) (k c : Nat) : Array Value := #[.int .i64 x.op, .string x.name, .int .i64 x.n, .slice none 0 0, .bool false, .slice A k c]
theorem below_boxed {B : Nat} {w0 w1 : World} (h : Below B w0 w1) (hB : B ≤ w0.heap.size) (o : Obj) : Below B w0 (w1.alloc o) := h.alloc (Nat.le_trans hB h.size) o
theorem val_boxed {ok : Nat → Prop} {w1 : World} {v : Value} {x : Val} (h : ValAt ok w1 v x) (o : Obj) : ValAt ok (w1.alloc o) v x := h.fresh ((Below.refl _ _).alloc (Nat.le_refl _) o)
/-- A result without an exception. -/
theorem ar_known {s : ByteArray} {a b op n : Int} {nm : ByteArray} {ok : Bool} (h : arith s.toList a b = (⟨op, nm, n, none⟩, ok)) (w : World) : Calls Tryd.prog 16 #[.string s, .int .i64 a, .int .i64 b] w fun e w' => e = .returned (.tuple #[.agg (valC op nm n (.slice none 0 0)), .bool ok]) ∧ Below w.heap.size w w' := by
  refine (arith_any s a b w).mono ?_
  rintro e w' ⟨v, rfl, hv, hb⟩
  rw [h] at hv ⊢
  obtain ⟨l, rfl, hl⟩ := hv
  have : l = .slice none 0 0 := hl
  subst this
  exact ⟨rfl, hb⟩
abbrev nQuot : ByteArray := ⟨#[105, 110, 116, 81, 117, 111, 116]⟩
abbrev nRem : ByteArray := ⟨#[105, 110, 116, 82, 101, 109]⟩
abbrev nMul : ByteArray := ⟨#[105, 110, 116, 77, 117, 108]⟩
abbrev nAdd : ByteArray := ⟨#[105, 110, 116, 65, 100, 100]⟩
theorem ar_quot (a b : Int) (hb : (b == 0) = false) : arith nQuot.toList a b = (⟨1, .empty, wrap64 (a.tdiv b), none⟩, true) := by
  have e : nQuot.toList = [105, 110, 116, 81, 117, 111, 116] := by decide +kernel
  rw [e]
  simp [arith, hb]
theorem ar_rem (a b : Int) (hb : (b == 0) = false) : arith nRem.toList a b = (⟨1, .empty, a.tmod b, none⟩, true) := by
  have e : nRem.toList = [105, 110, 116, 82, 101, 109] := by decide +kernel
  rw [e]
  simp [arith, hb]
theorem ar_mul (a b : Int) : arith nMul.toList a b = (⟨1, .empty, wrap64 (a * b), none⟩, true) := by
  have e : nMul.toList = [105, 110, 116, 77, 117, 108] := by decide +kernel
  rw [e]
  simp [arith]
theorem ar_add (a b : Int) : arith nAdd.toList a b = (⟨1, .empty, wrap64 (a + b), none⟩, true) := by
  have e : nAdd.toList = [105, 110, 116, 65, 100, 100] := by decide +kernel
  rw [e]
  simp [arith]
theorem back_wrap {a b : Int} (ha : -9223372036854775808 ≤ a ∧ a ≤ 9223372036854775807) : wrap64 (wrap64 (wrap64 (a.tdiv b) * b) + a.tmod b) = a := by
  obtain ⟨k1, e1⟩ := wrap_off (a.tdiv b)
  rw [e1]
  obtain ⟨k2, e2⟩ := wrap_off ((a.tdiv b + k1 * 18446744073709551616) * b)
  rw [e2]
  have h1 : a.tmod b = a - b * a.tdiv b := by have := Int.mul_tdiv_add_tmod a b; omega
  have h2 : (a.tdiv b + k1 * 18446744073709551616) * b + k2 * 18446744073709551616 + a.tmod b = a + (k1 * b + k2) * 18446744073709551616 := by
    rw [h1, Int.add_mul, Int.add_mul, Int.mul_comm b]
    have : k1 * 18446744073709551616 * b = k1 * b * 18446744073709551616 := by rw [Int.mul_assoc, Int.mul_comm _ b, ← Int.mul_assoc]
    omega
  rw [h2]
  obtain ⟨k3, e3⟩ := wrap_off (a + (k1 * b + k2) * 18446744073709551616)
  have h4 : -9223372036854775808 ≤ wrap64 (a + (k1 * b + k2) * 18446744073709551616) ∧ wrap64 (a + (k1 * b + k2) * 18446744073709551616) ≤ 9223372036854775807 := by unfold wrap64; omega
  rw [e3] at h4 ⊢
  omega

set_option maxRecDepth 10000 in
set_option maxHeartbeats 4000000 in
theorem baseArith_law (s : ByteArray) (a b : Int) (w : World) (ha : -9223372036854775808 ≤ a ∧ a ≤ 9223372036854775807) (_ : -9223372036854775808 ≤ b ∧ b ≤ 9223372036854775807) (hW : Tabd w) :
    Calls Tryd.prog 4 #[.string s, .int .i64 a, .int .i64 b] w fun e w' => e = .returned (.bool true) ∧ Below w.heap.size w w' := by
  have HA := Lib.hid ha
  have HT := Lib.hid hW
  clear ha hW
  go_enter Tryd.func4, Tryd.ntmps4
  go_wp2_with fail
  refine (arith_any _ _ _ _).mono ?_
  rintro e w1 ⟨v1, rfl, hv1, hb1⟩
  generalize hx1 : (arith s.toList a b).1 = x1 at hv1 ⊢
  generalize ho1 : (arith s.toList a b).2 = o1 at ⊢
  obtain ⟨A1, k1, d1, rfl⟩ := hv1.open
  have V1 := Lib.hid (val_boxed hv1 (.cells (valV x1 A1 k1 d1) 35))
  have X1 := Lib.hid (new0 w1 (.cells (valV x1 A1 k1 d1) 35))
  have B1 := Lib.hid (below_boxed hb1 (Nat.le_refl _) (.cells (valV x1 A1 k1 d1) 35))
  clear hv1 hb1
  unfold valV at V1 X1 B1
  go_upto_region 2 with (fail)
  generalize w1.alloc (.cells #[.int .i64 x1.op, .string x1.name, .int .i64 x1.n, .slice none 0 0, .bool false, .slice A1 k1 d1] 35) = W1 at *
  generalize w1.heap.size = g1 at *
  go_wp2_with fail
  refine (rarith_any _ _ _ _ HA.out).mono ?_
  rintro e w2 ⟨v2, rfl, hv2, hb2⟩
  rw [hx1] at hv2
  rw [ho1]
  obtain ⟨A2, k2, d2, rfl⟩ := hv2.open
  have V1 := Lib.hid ((V1.out.fresh hb2).fresh ((Below.refl _ _).alloc (Nat.le_refl _) (.cells (valV x1 A2 k2 d2) 35)))
  have V2 := Lib.hid (val_boxed hv2 (.cells (valV x1 A2 k2 d2) 35))
  have X2 := Lib.hid (new0 w2 (.cells (valV x1 A2 k2 d2) 35))
  have hbb := below_boxed hb2 (Nat.le_refl _) (.cells (valV x1 A2 k2 d2) 35)
  have X1 := Lib.hid (rowB hbb X1.out (heap_lt X1.out))
  have B2 := Lib.hid (below_then B1.out B1.out.size hbb)
  clear hv2 hb2 hbb
  unfold valV at V1 V2 X1 X2 B2
  go_upto_region 3 with (fail)
  generalize w2.alloc (.cells #[.int .i64 x1.op, .string x1.name, .int .i64 x1.n, .slice none 0 0, .bool false, .slice A2 k2 d2] 35) = W2 at *
  generalize w2.heap.size = g2 at *
  have c1 := cellsH X1.out
  have c2 := cellsH X2.out
  have n0 : (o1 != o1) = false := by cases o1 <;> rfl
  go_wp2_with fail
  refine (sameValue_any _ _ _ _ _ x1 V1.out V2.out).mono ?_
  rintro e w3 ⟨rfl, hb3⟩
  have B3 := Lib.hid (below_then B2.out B2.out.size hb3)
  clear hb3 c1 c2 V1 V2 X1 X2
  by_cases hb0 : (b == 0) = true
  · go_wp2_with fail
    refine (awake_any _ (tabd_below _ _ B3.out HT.out)).mono ?_
    rintro e w4 ⟨rfl, hb4⟩
    have B4 := below_then B3.out B3.out.size hb4
    clear hb4
    go_wp2_with fail
    go_ret
    exact ⟨rfl, B4⟩
  rw [Bool.not_eq_true] at hb0
  go_wp2_with fail
  refine (ar_known (ar_quot a b hb0) _).mono ?_
  rintro e w4 ⟨rfl, hb4⟩
  have X4 := Lib.hid (new0 w4 (.cells (valC 1 .empty (wrap64 (a.tdiv b)) (.slice none 0 0)) 35))
  have B4 := Lib.hid (below_then B3.out B3.out.size (below_boxed hb4 (Nat.le_refl _) (.cells (valC 1 .empty (wrap64 (a.tdiv b)) (.slice none 0 0)) 35)))
  clear hb4
  unfold valC at X4 B4
  go_upto_region 8 with (fail)
  generalize w4.alloc (.cells #[.int .i64 1, .string .empty, .int .i64 (wrap64 (a.tdiv b)), .slice none 0 0, .bool false, .slice none 0 0] 35) = W4 at *
  generalize w4.heap.size = g4 at *
  go_wp2_with fail
  refine (ar_known (ar_rem a b hb0) _).mono ?_
  rintro e w5 ⟨rfl, hb5⟩
  have X5 := Lib.hid (new0 w5 (.cells (valC 1 .empty (a.tmod b) (.slice none 0 0)) 35))
  have hbb := below_boxed hb5 (Nat.le_refl _) (.cells (valC 1 .empty (a.tmod b) (.slice none 0 0)) 35)
  have X4 := Lib.hid (rowB hbb X4.out (heap_lt X4.out))
  have B5 := Lib.hid (below_then B4.out B4.out.size hbb)
  clear hb5 hbb
  unfold valC at X4 X5 B5
  go_upto_region 9 with (fail)
  generalize w5.alloc (.cells #[.int .i64 1, .string .empty, .int .i64 (a.tmod b), .slice none 0 0, .bool false, .slice none 0 0] 35) = W5 at *
  generalize w5.heap.size = g5 at *
  have c4 := cellsH X4.out
  go_wp2_with fail
  clear c4
  refine (ar_known (ar_mul _ b) _).mono ?_
  rintro e w6 ⟨rfl, hb6⟩
  have X6 := Lib.hid (new0 w6 (.cells (valC 1 .empty (wrap64 (wrap64 (a.tdiv b) * b)) (.slice none 0 0)) 35))
  have hbb := below_boxed hb6 (Nat.le_refl _) (.cells (valC 1 .empty (wrap64 (wrap64 (a.tdiv b) * b)) (.slice none 0 0)) 35)
  have X5 := Lib.hid (rowB hbb X5.out (heap_lt X5.out))
  have B6 := Lib.hid (below_then B5.out B5.out.size hbb)
  clear hb6 hbb
  unfold valC at X6 X5 B6
  go_upto_region 10 with (fail)
  generalize w6.alloc (.cells #[.int .i64 1, .string .empty, .int .i64 (wrap64 (wrap64 (a.tdiv b) * b)), .slice none 0 0, .bool false, .slice none 0 0] 35) = W6 at *
  generalize w6.heap.size = g6 at *
  have c5 := cellsH X5.out
  have c6 := cellsH X6.out
  go_wp2_with fail
  clear c5 c6
  refine (ar_known (ar_add _ _) _).mono ?_
  rintro e w7 ⟨rfl, hb7⟩
  have HB := Lib.hid (back_wrap (b := b) HA.out)
  rw [HB.out] at *
  have X7 := Lib.hid (new0 w7 (.cells (valC 1 .empty a (.slice none 0 0)) 35))
  have B7 := Lib.hid (below_then B6.out B6.out.size (below_boxed hb7 (Nat.le_refl _) (.cells (valC 1 .empty a (.slice none 0 0)) 35)))
  clear hb7
  unfold valC at X7 B7
  go_upto_region 11 with (fail)
  generalize w7.alloc (.cells #[.int .i64 1, .string .empty, .int .i64 a, .slice none 0 0, .bool false, .slice none 0 0] 35) = W7 at *
  generalize w7.heap.size = g7 at *
  have c7 := cellsH X7.out
  go_wp2_with fail
  refine (awake_any _ (tabd_below _ _ B7.out HT.out)).mono ?_
  rintro e w8 ⟨rfl, hb8⟩
  have B8 := below_then B7.out B7.out.size hb8
  clear hb8
  go_wp2_with fail
  go_ret
  exact ⟨rfl, B8⟩
end Go.Proofs.YtmehknlijcbphaaDoor
