/- The base's Arith; no condition. -/
import Derived.Test.YtmehknlijcbphaaDoorAr1
namespace Go.Proofs.YtmehknlijcbphaaDoor
open Go.RowKit

/-- What Arith answers. -/
def arith (l : List UInt8) (a b : Int) : Val × Bool :=
  if (l == [105, 110, 116, 65, 100, 100]) = true then (⟨1, .empty, wrap64 (a + b), none⟩, true) else
  if (l == [105, 110, 116, 83, 117, 98]) = true then (⟨1, .empty, wrap64 (a - b), none⟩, true) else
  if (l == [105, 110, 116, 77, 117, 108]) = true then (⟨1, .empty, wrap64 (a * b), none⟩, true) else
  if (l == [105, 110, 116, 78, 101, 103]) = true then (⟨1, .empty, wrap64 (-a), none⟩, true) else
  if (l == [105, 110, 116, 69, 113]) = true then (⟨3, if (a == b) = true then sTrue else sFalse, 0, none⟩, true) else
  if (l == [105, 110, 116, 76, 116]) = true then (⟨3, if decide (a < b) = true then sTrue else sFalse, 0, none⟩, true) else
  if (l == [105, 110, 116, 76, 101]) = true then (⟨3, if decide (a ≤ b) = true then sTrue else sFalse, 0, none⟩, true) else
  if (l == [105, 110, 116, 81, 117, 111, 116]) = true then (if (b == 0) = true then (⟨5, .empty, 0, some (⟨#[68, 105, 118, 66, 121, 90, 101, 114, 111]⟩, 0)⟩, true) else (⟨1, .empty, wrap64 (a.tdiv b), none⟩, true)) else
  if (l == [105, 110, 116, 82, 101, 109]) = true then (if (b == 0) = true then (⟨5, .empty, 0, some (⟨#[68, 105, 118, 66, 121, 90, 101, 114, 111]⟩, 0)⟩, true) else (⟨1, .empty, a.tmod b, none⟩, true)) else
  if (l == [111, 114, 100]) = true then (if (0 ≤ a ∧ a ≤ 255) then (⟨1, .empty, a, none⟩, true) else (val0, false)) else
  if (l == [99, 104, 114]) = true then (if (0 ≤ a ∧ a ≤ 255) then (⟨2, .empty, a, none⟩, true) else (⟨5, .empty, 0, some (⟨#[70, 97, 105, 108, 117, 114, 101]⟩, a)⟩, true)) else
  (val0, false)
/-- How Arith ends. -/
def ArEnd (w : World) (s : ByteArray) (a b : Int) (e : Ending) (w' : World) : Prop :=
  ∃ v, e = .returned (.tuple #[v, .bool (arith s.toList a b).2]) ∧ ValAt (w.heap.size ≤ ·) w' v (arith s.toList a b).1 ∧ Below w.heap.size w w'
theorem arEnd {w w' : World} {s : ByteArray} {a b : Int} {x : Val} {ok : Bool} {v : Value} (h : arith s.toList a b = (x, ok)) (hv : ValAt (w.heap.size ≤ ·) w' v x) (hb : Below w.heap.size w w') : ArEnd w s a b (.returned (.tuple #[v, .bool ok])) w' := by
  unfold ArEnd
  rw [h]
  exact ⟨v, rfl, hv, hb⟩
theorem val_box {w w' : World} {op n : Int} {nm : ByteArray} : ValAt (w.heap.size ≤ ·) w' (.agg (valC op nm n (.slice none 0 0))) ⟨op, nm, n, none⟩ := ⟨_, rfl, rfl⟩
set_option maxRecDepth 10000 in
set_option maxHeartbeats 8000000 in
theorem arith_any (s : ByteArray) (a b : Int) (w : World) : Calls Tryd.prog 16 #[.string s, .int .i64 a, .int .i64 b] w (ArEnd w s a b) := by
  by_cases h0 : (s.toList == [105, 110, 116, 65, 100, 100]) = true
  · have e0 := h0
    have HA := Lib.hid (show arith s.toList a b = (⟨1, .empty, wrap64 (a + b), none⟩, true) by simp [arith, h0])
    go_enter Tryd.func16, Tryd.ntmps16
    go_wp2_with fail
    refine (integer_any _ _).mono ?_
    rintro e w1 ⟨rfl, hb1⟩
    have HBX := Lib.hid (rowB hb1 (new0 w (.cells #[.int .i64 0, .string ⟨#[]⟩, .int .i64 0, .slice none 0 0, .bool false, .slice none 0 0] 35)) (by simp))
    have HBW := Lib.hid (below_then ((Below.refl w.heap.size w).alloc (Nat.le_refl _) (.cells #[.int .i64 0, .string ⟨#[]⟩, .int .i64 0, .slice none 0 0, .bool false, .slice none 0 0] 35)) (by simp) hb1)
    have zz := hb1.size
    simp only [World.size_alloc] at zz
    clear hb1
    have cx := cellsH HBX.out
    have fx := freeH HBX.out
    go_wp2_with fail
    clear cx fx
    have c := cellsH (set6_row HBX.out (.int .i64 1) (.string .empty) (.int .i64 (wrap64 (a + b))) (.slice none 0 0) (.bool false) (.slice none 0 0))
    unfold set6 at c
    have hbe := set6_below HBW.out (Nat.le_refl _) (.int .i64 1) (.string .empty) (.int .i64 (wrap64 (a + b))) (.slice none 0 0) (.bool false) (.slice none 0 0)
    unfold set6 at hbe
    refine bodyPost_ret (v := .tuple #[.agg #[.int .i64 1, .string .empty, .int .i64 (wrap64 (a + b)), .slice none 0 0, .bool false, .slice none 0 0], .bool true]) (by simp [results, Tryd.results16, go_sem, c]; try rfl) rfl ?_
    exact arEnd HA.out val_box hbe
  rw [Bool.not_eq_true] at h0
  by_cases h1 : (s.toList == [105, 110, 116, 83, 117, 98]) = true
  · have e1 := h1
    have HA := Lib.hid (show arith s.toList a b = (⟨1, .empty, wrap64 (a - b), none⟩, true) by simp [arith, h0, h1])
    go_enter Tryd.func16, Tryd.ntmps16
    go_wp2_with fail
    refine (integer_any _ _).mono ?_
    rintro e w1 ⟨rfl, hb1⟩
    have HBX := Lib.hid (rowB hb1 (new0 w (.cells #[.int .i64 0, .string ⟨#[]⟩, .int .i64 0, .slice none 0 0, .bool false, .slice none 0 0] 35)) (by simp))
    have HBW := Lib.hid (below_then ((Below.refl w.heap.size w).alloc (Nat.le_refl _) (.cells #[.int .i64 0, .string ⟨#[]⟩, .int .i64 0, .slice none 0 0, .bool false, .slice none 0 0] 35)) (by simp) hb1)
    have zz := hb1.size
    simp only [World.size_alloc] at zz
    clear hb1
    have cx := cellsH HBX.out
    have fx := freeH HBX.out
    go_wp2_with fail
    clear cx fx
    have c := cellsH (set6_row HBX.out (.int .i64 1) (.string .empty) (.int .i64 (wrap64 (a - b))) (.slice none 0 0) (.bool false) (.slice none 0 0))
    unfold set6 at c
    have hbe := set6_below HBW.out (Nat.le_refl _) (.int .i64 1) (.string .empty) (.int .i64 (wrap64 (a - b))) (.slice none 0 0) (.bool false) (.slice none 0 0)
    unfold set6 at hbe
    refine bodyPost_ret (v := .tuple #[.agg #[.int .i64 1, .string .empty, .int .i64 (wrap64 (a - b)), .slice none 0 0, .bool false, .slice none 0 0], .bool true]) (by simp [results, Tryd.results16, go_sem, c]; try rfl) rfl ?_
    exact arEnd HA.out val_box hbe
  rw [Bool.not_eq_true] at h1
  by_cases h2 : (s.toList == [105, 110, 116, 77, 117, 108]) = true
  · have e2 := h2
    have HA := Lib.hid (show arith s.toList a b = (⟨1, .empty, wrap64 (a * b), none⟩, true) by simp [arith, h0, h1, h2])
    go_enter Tryd.func16, Tryd.ntmps16
    go_wp2_with fail
    refine (integer_any _ _).mono ?_
    rintro e w1 ⟨rfl, hb1⟩
    have HBX := Lib.hid (rowB hb1 (new0 w (.cells #[.int .i64 0, .string ⟨#[]⟩, .int .i64 0, .slice none 0 0, .bool false, .slice none 0 0] 35)) (by simp))
    have HBW := Lib.hid (below_then ((Below.refl w.heap.size w).alloc (Nat.le_refl _) (.cells #[.int .i64 0, .string ⟨#[]⟩, .int .i64 0, .slice none 0 0, .bool false, .slice none 0 0] 35)) (by simp) hb1)
    have zz := hb1.size
    simp only [World.size_alloc] at zz
    clear hb1
    have cx := cellsH HBX.out
    have fx := freeH HBX.out
    go_wp2_with fail
    clear cx fx
    have c := cellsH (set6_row HBX.out (.int .i64 1) (.string .empty) (.int .i64 (wrap64 (a * b))) (.slice none 0 0) (.bool false) (.slice none 0 0))
    unfold set6 at c
    have hbe := set6_below HBW.out (Nat.le_refl _) (.int .i64 1) (.string .empty) (.int .i64 (wrap64 (a * b))) (.slice none 0 0) (.bool false) (.slice none 0 0)
    unfold set6 at hbe
    refine bodyPost_ret (v := .tuple #[.agg #[.int .i64 1, .string .empty, .int .i64 (wrap64 (a * b)), .slice none 0 0, .bool false, .slice none 0 0], .bool true]) (by simp [results, Tryd.results16, go_sem, c]; try rfl) rfl ?_
    exact arEnd HA.out val_box hbe
  rw [Bool.not_eq_true] at h2
  by_cases h3 : (s.toList == [105, 110, 116, 78, 101, 103]) = true
  · have e3 := h3
    have HA := Lib.hid (show arith s.toList a b = (⟨1, .empty, wrap64 (-a), none⟩, true) by simp [arith, h0, h1, h2, h3])
    go_enter Tryd.func16, Tryd.ntmps16
    go_wp2_with fail
    refine (integer_any _ _).mono ?_
    rintro e w1 ⟨rfl, hb1⟩
    have HBX := Lib.hid (rowB hb1 (new0 w (.cells #[.int .i64 0, .string ⟨#[]⟩, .int .i64 0, .slice none 0 0, .bool false, .slice none 0 0] 35)) (by simp))
    have HBW := Lib.hid (below_then ((Below.refl w.heap.size w).alloc (Nat.le_refl _) (.cells #[.int .i64 0, .string ⟨#[]⟩, .int .i64 0, .slice none 0 0, .bool false, .slice none 0 0] 35)) (by simp) hb1)
    have zz := hb1.size
    simp only [World.size_alloc] at zz
    clear hb1
    have cx := cellsH HBX.out
    have fx := freeH HBX.out
    go_wp2_with fail
    clear cx fx
    have c := cellsH (set6_row HBX.out (.int .i64 1) (.string .empty) (.int .i64 (wrap64 (-a))) (.slice none 0 0) (.bool false) (.slice none 0 0))
    unfold set6 at c
    have hbe := set6_below HBW.out (Nat.le_refl _) (.int .i64 1) (.string .empty) (.int .i64 (wrap64 (-a))) (.slice none 0 0) (.bool false) (.slice none 0 0)
    unfold set6 at hbe
    refine bodyPost_ret (v := .tuple #[.agg #[.int .i64 1, .string .empty, .int .i64 (wrap64 (-a)), .slice none 0 0, .bool false, .slice none 0 0], .bool true]) (by simp [results, Tryd.results16, go_sem, c]; try rfl) rfl ?_
    exact arEnd HA.out val_box hbe
  rw [Bool.not_eq_true] at h3
  by_cases h4 : (s.toList == [105, 110, 116, 69, 113]) = true
  · have e4 := h4
    have HA := Lib.hid (show arith s.toList a b = (⟨3, if (a == b) = true then sTrue else sFalse, 0, none⟩, true) by simp [arith, h0, h1, h2, h3, h4])
    go_enter Tryd.func16, Tryd.ntmps16
    go_wp2_with fail
    refine (truth_any _ _).mono ?_
    rintro e w1 ⟨rfl, hb1⟩
    generalize (if (a == b) = true then sTrue else sFalse) = q at *
    have HBX := Lib.hid (rowB hb1 (new0 w (.cells #[.int .i64 0, .string ⟨#[]⟩, .int .i64 0, .slice none 0 0, .bool false, .slice none 0 0] 35)) (by simp))
    have HBW := Lib.hid (below_then ((Below.refl w.heap.size w).alloc (Nat.le_refl _) (.cells #[.int .i64 0, .string ⟨#[]⟩, .int .i64 0, .slice none 0 0, .bool false, .slice none 0 0] 35)) (by simp) hb1)
    have zz := hb1.size
    simp only [World.size_alloc] at zz
    clear hb1
    have cx := cellsH HBX.out
    have fx := freeH HBX.out
    go_wp2_with fail
    clear cx fx
    have c := cellsH (set6_row HBX.out (.int .i64 3) (.string q) (.int .i64 0) (.slice none 0 0) (.bool false) (.slice none 0 0))
    unfold set6 at c
    have hbe := set6_below HBW.out (Nat.le_refl _) (.int .i64 3) (.string q) (.int .i64 0) (.slice none 0 0) (.bool false) (.slice none 0 0)
    unfold set6 at hbe
    refine bodyPost_ret (v := .tuple #[.agg #[.int .i64 3, .string q, .int .i64 0, .slice none 0 0, .bool false, .slice none 0 0], .bool true]) (by simp [results, Tryd.results16, go_sem, c]; try rfl) rfl ?_
    exact arEnd HA.out val_box hbe
  rw [Bool.not_eq_true] at h4
  by_cases h5 : (s.toList == [105, 110, 116, 76, 116]) = true
  · have e5 := h5
    have HA := Lib.hid (show arith s.toList a b = (⟨3, if decide (a < b) = true then sTrue else sFalse, 0, none⟩, true) by simp [arith, h0, h1, h2, h3, h4, h5])
    go_enter Tryd.func16, Tryd.ntmps16
    go_wp2_with fail
    refine (truth_any _ _).mono ?_
    rintro e w1 ⟨rfl, hb1⟩
    generalize (if decide (a < b) = true then sTrue else sFalse) = q at *
    have HBX := Lib.hid (rowB hb1 (new0 w (.cells #[.int .i64 0, .string ⟨#[]⟩, .int .i64 0, .slice none 0 0, .bool false, .slice none 0 0] 35)) (by simp))
    have HBW := Lib.hid (below_then ((Below.refl w.heap.size w).alloc (Nat.le_refl _) (.cells #[.int .i64 0, .string ⟨#[]⟩, .int .i64 0, .slice none 0 0, .bool false, .slice none 0 0] 35)) (by simp) hb1)
    have zz := hb1.size
    simp only [World.size_alloc] at zz
    clear hb1
    have cx := cellsH HBX.out
    have fx := freeH HBX.out
    go_wp2_with fail
    clear cx fx
    have c := cellsH (set6_row HBX.out (.int .i64 3) (.string q) (.int .i64 0) (.slice none 0 0) (.bool false) (.slice none 0 0))
    unfold set6 at c
    have hbe := set6_below HBW.out (Nat.le_refl _) (.int .i64 3) (.string q) (.int .i64 0) (.slice none 0 0) (.bool false) (.slice none 0 0)
    unfold set6 at hbe
    refine bodyPost_ret (v := .tuple #[.agg #[.int .i64 3, .string q, .int .i64 0, .slice none 0 0, .bool false, .slice none 0 0], .bool true]) (by simp [results, Tryd.results16, go_sem, c]; try rfl) rfl ?_
    exact arEnd HA.out val_box hbe
  rw [Bool.not_eq_true] at h5
  by_cases h6 : (s.toList == [105, 110, 116, 76, 101]) = true
  · have e6 := h6
    have HA := Lib.hid (show arith s.toList a b = (⟨3, if decide (a ≤ b) = true then sTrue else sFalse, 0, none⟩, true) by simp [arith, h0, h1, h2, h3, h4, h5, h6])
    go_enter Tryd.func16, Tryd.ntmps16
    go_wp2_with fail
    refine (truth_any _ _).mono ?_
    rintro e w1 ⟨rfl, hb1⟩
    generalize (if decide (a ≤ b) = true then sTrue else sFalse) = q at *
    have HBX := Lib.hid (rowB hb1 (new0 w (.cells #[.int .i64 0, .string ⟨#[]⟩, .int .i64 0, .slice none 0 0, .bool false, .slice none 0 0] 35)) (by simp))
    have HBW := Lib.hid (below_then ((Below.refl w.heap.size w).alloc (Nat.le_refl _) (.cells #[.int .i64 0, .string ⟨#[]⟩, .int .i64 0, .slice none 0 0, .bool false, .slice none 0 0] 35)) (by simp) hb1)
    have zz := hb1.size
    simp only [World.size_alloc] at zz
    clear hb1
    have cx := cellsH HBX.out
    have fx := freeH HBX.out
    go_wp2_with fail
    clear cx fx
    have c := cellsH (set6_row HBX.out (.int .i64 3) (.string q) (.int .i64 0) (.slice none 0 0) (.bool false) (.slice none 0 0))
    unfold set6 at c
    have hbe := set6_below HBW.out (Nat.le_refl _) (.int .i64 3) (.string q) (.int .i64 0) (.slice none 0 0) (.bool false) (.slice none 0 0)
    unfold set6 at hbe
    refine bodyPost_ret (v := .tuple #[.agg #[.int .i64 3, .string q, .int .i64 0, .slice none 0 0, .bool false, .slice none 0 0], .bool true]) (by simp [results, Tryd.results16, go_sem, c]; try rfl) rfl ?_
    exact arEnd HA.out val_box hbe
  rw [Bool.not_eq_true] at h6
  by_cases h7 : (s.toList == [105, 110, 116, 81, 117, 111, 116]) = true
  · have e7 := h7
    by_cases hz : (b == 0) = true
    · have HA := Lib.hid (show arith s.toList a b = (⟨5, .empty, 0, some (⟨#[68, 105, 118, 66, 121, 90, 101, 114, 111]⟩, 0)⟩, true) by simp [arith, h0, h1, h2, h3, h4, h5, h6, h7, hz])
      go_enter Tryd.func16, Tryd.ntmps16
      go_wp2_with fail
      refine (bad_any _ _ _).mono ?_
      rintro e w1 ⟨v, rfl, ⟨l, hl, hx⟩, hb1⟩
      dsimp only at hl hx
      obtain ⟨g, rfl, hg1, hg2, hg3⟩ := hx
      subst hl
      have HX := Lib.hid (And.intro hg1 (And.intro hg2 hg3))
      have HBX := Lib.hid (rowB hb1 (new0 w (.cells #[.int .i64 0, .string ⟨#[]⟩, .int .i64 0, .slice none 0 0, .bool false, .slice none 0 0] 35)) (by simp))
      have HBW := Lib.hid (below_then ((Below.refl w.heap.size w).alloc (Nat.le_refl _) (.cells #[.int .i64 0, .string ⟨#[]⟩, .int .i64 0, .slice none 0 0, .bool false, .slice none 0 0] 35)) (by simp) hb1)
      have zz := hb1.size
      simp only [World.size_alloc] at zz
      clear hg1 hg2 hg3
      clear hb1
      have cx := cellsH HBX.out
      have fx := freeH HBX.out
      go_wp2_with fail
      clear cx fx
      have c := cellsH (set6_row HBX.out (.int .i64 5) (.string .empty) (.int .i64 0) (.slice none 0 0) (.bool false) (.slice (some ⟨g, 0, none⟩) 1 1))
      unfold set6 at c
      have hbe := set6_below HBW.out (Nat.le_refl _) (.int .i64 5) (.string .empty) (.int .i64 0) (.slice none 0 0) (.bool false) (.slice (some ⟨g, 0, none⟩) 1 1)
      unfold set6 at hbe
      refine bodyPost_ret (v := .tuple #[.agg #[.int .i64 5, .string .empty, .int .i64 0, .slice none 0 0, .bool false, .slice (some ⟨g, 0, none⟩) 1 1], .bool true]) (by simp [results, Tryd.results16, go_sem, c]; try rfl) rfl ?_
      refine arEnd HA.out ⟨_, rfl, ?_⟩ hbe
      obtain ⟨h1, h2, h3⟩ := HX.out
      refine ⟨g, rfl, by simp at h1; omega, by simpa [World.setCell] using h2, ?_⟩
      simp only [World.setCell, Array.getElem?_modify]
      have hne : w.heap.size ≠ g := by simp at h1; omega
      simp [hne, h3]
    · have hz2 : (b == 0) = false := by simpa using hz
      have HA := Lib.hid (show arith s.toList a b = (⟨1, .empty, wrap64 (a.tdiv b), none⟩, true) by simp [arith, h0, h1, h2, h3, h4, h5, h6, h7, hz2])
      have hz3 : ¬ b = 0 := by simpa using hz2
      clear hz
      go_enter Tryd.func16, Tryd.ntmps16
      go_wp2_with fail
      refine (integer_any _ _).mono ?_
      rintro e w1 ⟨rfl, hb1⟩
      have HBX := Lib.hid (rowB hb1 (new0 w (.cells #[.int .i64 0, .string ⟨#[]⟩, .int .i64 0, .slice none 0 0, .bool false, .slice none 0 0] 35)) (by simp))
      have HBW := Lib.hid (below_then ((Below.refl w.heap.size w).alloc (Nat.le_refl _) (.cells #[.int .i64 0, .string ⟨#[]⟩, .int .i64 0, .slice none 0 0, .bool false, .slice none 0 0] 35)) (by simp) hb1)
      have zz := hb1.size
      simp only [World.size_alloc] at zz
      clear hb1
      have cx := cellsH HBX.out
      have fx := freeH HBX.out
      go_wp2_with fail
      clear cx fx
      have c := cellsH (set6_row HBX.out (.int .i64 1) (.string .empty) (.int .i64 (wrap64 (a.tdiv b))) (.slice none 0 0) (.bool false) (.slice none 0 0))
      unfold set6 at c
      have hbe := set6_below HBW.out (Nat.le_refl _) (.int .i64 1) (.string .empty) (.int .i64 (wrap64 (a.tdiv b))) (.slice none 0 0) (.bool false) (.slice none 0 0)
      unfold set6 at hbe
      refine bodyPost_ret (v := .tuple #[.agg #[.int .i64 1, .string .empty, .int .i64 (wrap64 (a.tdiv b)), .slice none 0 0, .bool false, .slice none 0 0], .bool true]) (by simp [results, Tryd.results16, go_sem, c]; try rfl) rfl ?_
      exact arEnd HA.out val_box hbe
  rw [Bool.not_eq_true] at h7
  by_cases h8 : (s.toList == [105, 110, 116, 82, 101, 109]) = true
  · have e8 := h8
    by_cases hz : (b == 0) = true
    · have HA := Lib.hid (show arith s.toList a b = (⟨5, .empty, 0, some (⟨#[68, 105, 118, 66, 121, 90, 101, 114, 111]⟩, 0)⟩, true) by simp [arith, h0, h1, h2, h3, h4, h5, h6, h7, h8, hz])
      go_enter Tryd.func16, Tryd.ntmps16
      go_wp2_with fail
      refine (bad_any _ _ _).mono ?_
      rintro e w1 ⟨v, rfl, ⟨l, hl, hx⟩, hb1⟩
      dsimp only at hl hx
      obtain ⟨g, rfl, hg1, hg2, hg3⟩ := hx
      subst hl
      have HX := Lib.hid (And.intro hg1 (And.intro hg2 hg3))
      have HBX := Lib.hid (rowB hb1 (new0 w (.cells #[.int .i64 0, .string ⟨#[]⟩, .int .i64 0, .slice none 0 0, .bool false, .slice none 0 0] 35)) (by simp))
      have HBW := Lib.hid (below_then ((Below.refl w.heap.size w).alloc (Nat.le_refl _) (.cells #[.int .i64 0, .string ⟨#[]⟩, .int .i64 0, .slice none 0 0, .bool false, .slice none 0 0] 35)) (by simp) hb1)
      have zz := hb1.size
      simp only [World.size_alloc] at zz
      clear hg1 hg2 hg3
      clear hb1
      have cx := cellsH HBX.out
      have fx := freeH HBX.out
      go_wp2_with fail
      clear cx fx
      have c := cellsH (set6_row HBX.out (.int .i64 5) (.string .empty) (.int .i64 0) (.slice none 0 0) (.bool false) (.slice (some ⟨g, 0, none⟩) 1 1))
      unfold set6 at c
      have hbe := set6_below HBW.out (Nat.le_refl _) (.int .i64 5) (.string .empty) (.int .i64 0) (.slice none 0 0) (.bool false) (.slice (some ⟨g, 0, none⟩) 1 1)
      unfold set6 at hbe
      refine bodyPost_ret (v := .tuple #[.agg #[.int .i64 5, .string .empty, .int .i64 0, .slice none 0 0, .bool false, .slice (some ⟨g, 0, none⟩) 1 1], .bool true]) (by simp [results, Tryd.results16, go_sem, c]; try rfl) rfl ?_
      refine arEnd HA.out ⟨_, rfl, ?_⟩ hbe
      obtain ⟨h1, h2, h3⟩ := HX.out
      refine ⟨g, rfl, by simp at h1; omega, by simpa [World.setCell] using h2, ?_⟩
      simp only [World.setCell, Array.getElem?_modify]
      have hne : w.heap.size ≠ g := by simp at h1; omega
      simp [hne, h3]
    · have hz2 : (b == 0) = false := by simpa using hz
      have HA := Lib.hid (show arith s.toList a b = (⟨1, .empty, a.tmod b, none⟩, true) by simp [arith, h0, h1, h2, h3, h4, h5, h6, h7, h8, hz2])
      have hz3 : ¬ b = 0 := by simpa using hz2
      clear hz
      go_enter Tryd.func16, Tryd.ntmps16
      go_wp2_with fail
      refine (integer_any _ _).mono ?_
      rintro e w1 ⟨rfl, hb1⟩
      have HBX := Lib.hid (rowB hb1 (new0 w (.cells #[.int .i64 0, .string ⟨#[]⟩, .int .i64 0, .slice none 0 0, .bool false, .slice none 0 0] 35)) (by simp))
      have HBW := Lib.hid (below_then ((Below.refl w.heap.size w).alloc (Nat.le_refl _) (.cells #[.int .i64 0, .string ⟨#[]⟩, .int .i64 0, .slice none 0 0, .bool false, .slice none 0 0] 35)) (by simp) hb1)
      have zz := hb1.size
      simp only [World.size_alloc] at zz
      clear hb1
      have cx := cellsH HBX.out
      have fx := freeH HBX.out
      go_wp2_with fail
      clear cx fx
      have c := cellsH (set6_row HBX.out (.int .i64 1) (.string .empty) (.int .i64 (a.tmod b)) (.slice none 0 0) (.bool false) (.slice none 0 0))
      unfold set6 at c
      have hbe := set6_below HBW.out (Nat.le_refl _) (.int .i64 1) (.string .empty) (.int .i64 (a.tmod b)) (.slice none 0 0) (.bool false) (.slice none 0 0)
      unfold set6 at hbe
      refine bodyPost_ret (v := .tuple #[.agg #[.int .i64 1, .string .empty, .int .i64 (a.tmod b), .slice none 0 0, .bool false, .slice none 0 0], .bool true]) (by simp [results, Tryd.results16, go_sem, c]; try rfl) rfl ?_
      exact arEnd HA.out val_box hbe
  rw [Bool.not_eq_true] at h8
  by_cases h9 : (s.toList == [111, 114, 100]) = true
  · have e9 := h9
    by_cases hin : 0 ≤ a ∧ a ≤ 255
    · have HA := Lib.hid (show arith s.toList a b = (⟨1, .empty, a, none⟩, true) by simp [arith, h0, h1, h2, h3, h4, h5, h6, h7, h8, h9, hin.1, hin.2])
      obtain ⟨i1, i2⟩ := hin
      have i1d : decide (a ≥ 0) = true := by simpa using i1
      have i2d : decide (a ≤ 255) = true := by simpa using i2
      go_enter Tryd.func16, Tryd.ntmps16
      go_wp2_with fail
      refine (integer_any _ _).mono ?_
      rintro e w1 ⟨rfl, hb1⟩
      have HBX := Lib.hid (rowB hb1 (new0 w (.cells #[.int .i64 0, .string ⟨#[]⟩, .int .i64 0, .slice none 0 0, .bool false, .slice none 0 0] 35)) (by simp))
      have HBW := Lib.hid (below_then ((Below.refl w.heap.size w).alloc (Nat.le_refl _) (.cells #[.int .i64 0, .string ⟨#[]⟩, .int .i64 0, .slice none 0 0, .bool false, .slice none 0 0] 35)) (by simp) hb1)
      have zz := hb1.size
      simp only [World.size_alloc] at zz
      clear hb1
      have cx := cellsH HBX.out
      have fx := freeH HBX.out
      go_wp2_with fail
      clear cx fx
      have c := cellsH (set6_row HBX.out (.int .i64 1) (.string .empty) (.int .i64 (a)) (.slice none 0 0) (.bool false) (.slice none 0 0))
      unfold set6 at c
      have hbe := set6_below HBW.out (Nat.le_refl _) (.int .i64 1) (.string .empty) (.int .i64 (a)) (.slice none 0 0) (.bool false) (.slice none 0 0)
      unfold set6 at hbe
      refine bodyPost_ret (v := .tuple #[.agg #[.int .i64 1, .string .empty, .int .i64 (a), .slice none 0 0, .bool false, .slice none 0 0], .bool true]) (by simp [results, Tryd.results16, go_sem, c]; try rfl) rfl ?_
      exact arEnd HA.out val_box hbe
    · have HA := Lib.hid (show arith s.toList a b = (val0, false) by simp [arith, h0, h1, h2, h3, h4, h5, h6, h7, h8, h9, hin])
      go_enter Tryd.func16, Tryd.ntmps16
      by_cases ineg : a < 0
      · have i1d : decide (a ≥ 0) = false := by simp; omega
        have i1e : (0 ≤ a) = False := by simp; omega
        clear hin
        go_wp2_with fail
        have c := cellsH (new0 w (.cells #[.int .i64 0, .string ⟨#[]⟩, .int .i64 0, .slice none 0 0, .bool false, .slice none 0 0] 35))
        refine bodyPost_ret (v := .tuple #[.agg #[.int .i64 0, .string ⟨#[]⟩, .int .i64 0, .slice none 0 0, .bool false, .slice none 0 0], .bool false]) (by simp [results, Tryd.results16, go_sem, c]; try rfl) rfl ?_
        exact arEnd HA.out val_box ((Below.refl _ _).alloc (Nat.le_refl _) _)
      · have i1 : 0 ≤ a := by omega
        have i2 : ¬ a ≤ 255 := by omega
        have i2d : decide (a ≤ 255) = false := by simp; omega
        clear hin
        go_wp2_with fail
        have c := cellsH (new0 w (.cells #[.int .i64 0, .string ⟨#[]⟩, .int .i64 0, .slice none 0 0, .bool false, .slice none 0 0] 35))
        refine bodyPost_ret (v := .tuple #[.agg #[.int .i64 0, .string ⟨#[]⟩, .int .i64 0, .slice none 0 0, .bool false, .slice none 0 0], .bool false]) (by simp [results, Tryd.results16, go_sem, c]; try rfl) rfl ?_
        exact arEnd HA.out val_box ((Below.refl _ _).alloc (Nat.le_refl _) _)
  rw [Bool.not_eq_true] at h9
  by_cases h10 : (s.toList == [99, 104, 114]) = true
  · have e10 := h10
    by_cases hin : 0 ≤ a ∧ a ≤ 255
    · have HA := Lib.hid (show arith s.toList a b = (⟨2, .empty, a, none⟩, true) by simp [arith, h0, h1, h2, h3, h4, h5, h6, h7, h8, h9, h10, hin.1, hin.2])
      obtain ⟨i1, i2⟩ := hin
      have i1d : decide (a ≥ 0) = true := by simpa using i1
      have i2d : decide (a ≤ 255) = true := by simpa using i2
      go_enter Tryd.func16, Tryd.ntmps16
      go_wp2_with fail
      have c := cellsH (new0 w (.cells #[.int .i64 2, .string ⟨#[]⟩, .int .i64 a, .slice none 0 0, .bool false, .slice none 0 0] 35))
      refine bodyPost_ret (v := .tuple #[.agg #[.int .i64 2, .string ⟨#[]⟩, .int .i64 a, .slice none 0 0, .bool false, .slice none 0 0], .bool true]) (by simp [results, Tryd.results16, go_sem, c]; try rfl) rfl ?_
      exact arEnd HA.out val_box ((Below.refl _ _).alloc (Nat.le_refl _) _)
    · have HA := Lib.hid (show arith s.toList a b = (⟨5, .empty, 0, some (⟨#[70, 97, 105, 108, 117, 114, 101]⟩, a)⟩, true) by simp [arith, h0, h1, h2, h3, h4, h5, h6, h7, h8, h9, h10, hin])
      go_enter Tryd.func16, Tryd.ntmps16
      by_cases ineg : a < 0
      · have i1d : decide (a ≥ 0) = false := by simp; omega
        have i1e : (0 ≤ a) = False := by simp; omega
        clear hin
        go_wp2_with fail
        refine (bad_any _ _ _).mono ?_
        rintro e w1 ⟨v, rfl, ⟨l, hl, hx⟩, hb1⟩
        dsimp only at hl hx
        obtain ⟨g, rfl, hg1, hg2, hg3⟩ := hx
        subst hl
        have HX := Lib.hid (And.intro hg1 (And.intro hg2 hg3))
        have HBX := Lib.hid (rowB hb1 (new0 w (.cells #[.int .i64 0, .string ⟨#[]⟩, .int .i64 0, .slice none 0 0, .bool false, .slice none 0 0] 35)) (by simp))
        have HBW := Lib.hid (below_then ((Below.refl w.heap.size w).alloc (Nat.le_refl _) (.cells #[.int .i64 0, .string ⟨#[]⟩, .int .i64 0, .slice none 0 0, .bool false, .slice none 0 0] 35)) (by simp) hb1)
        have zz := hb1.size
        simp only [World.size_alloc] at zz
        clear hg1 hg2 hg3
        clear hb1
        have cx := cellsH HBX.out
        have fx := freeH HBX.out
        go_wp2_with fail
        clear cx fx
        have c := cellsH (set6_row HBX.out (.int .i64 5) (.string .empty) (.int .i64 0) (.slice none 0 0) (.bool false) (.slice (some ⟨g, 0, none⟩) 1 1))
        unfold set6 at c
        have hbe := set6_below HBW.out (Nat.le_refl _) (.int .i64 5) (.string .empty) (.int .i64 0) (.slice none 0 0) (.bool false) (.slice (some ⟨g, 0, none⟩) 1 1)
        unfold set6 at hbe
        refine bodyPost_ret (v := .tuple #[.agg #[.int .i64 5, .string .empty, .int .i64 0, .slice none 0 0, .bool false, .slice (some ⟨g, 0, none⟩) 1 1], .bool true]) (by simp [results, Tryd.results16, go_sem, c]; try rfl) rfl ?_
        refine arEnd HA.out ⟨_, rfl, ?_⟩ hbe
        obtain ⟨h1, h2, h3⟩ := HX.out
        refine ⟨g, rfl, by simp at h1; omega, by simpa [World.setCell] using h2, ?_⟩
        simp only [World.setCell, Array.getElem?_modify]
        have hne : w.heap.size ≠ g := by simp at h1; omega
        simp [hne, h3]
      · have i1 : 0 ≤ a := by omega
        have i2 : ¬ a ≤ 255 := by omega
        have i2d : decide (a ≤ 255) = false := by simp; omega
        clear hin
        go_wp2_with fail
        refine (bad_any _ _ _).mono ?_
        rintro e w1 ⟨v, rfl, ⟨l, hl, hx⟩, hb1⟩
        dsimp only at hl hx
        obtain ⟨g, rfl, hg1, hg2, hg3⟩ := hx
        subst hl
        have HX := Lib.hid (And.intro hg1 (And.intro hg2 hg3))
        have HBX := Lib.hid (rowB hb1 (new0 w (.cells #[.int .i64 0, .string ⟨#[]⟩, .int .i64 0, .slice none 0 0, .bool false, .slice none 0 0] 35)) (by simp))
        have HBW := Lib.hid (below_then ((Below.refl w.heap.size w).alloc (Nat.le_refl _) (.cells #[.int .i64 0, .string ⟨#[]⟩, .int .i64 0, .slice none 0 0, .bool false, .slice none 0 0] 35)) (by simp) hb1)
        have zz := hb1.size
        simp only [World.size_alloc] at zz
        clear hg1 hg2 hg3
        clear hb1
        have cx := cellsH HBX.out
        have fx := freeH HBX.out
        go_wp2_with fail
        clear cx fx
        have c := cellsH (set6_row HBX.out (.int .i64 5) (.string .empty) (.int .i64 0) (.slice none 0 0) (.bool false) (.slice (some ⟨g, 0, none⟩) 1 1))
        unfold set6 at c
        have hbe := set6_below HBW.out (Nat.le_refl _) (.int .i64 5) (.string .empty) (.int .i64 0) (.slice none 0 0) (.bool false) (.slice (some ⟨g, 0, none⟩) 1 1)
        unfold set6 at hbe
        refine bodyPost_ret (v := .tuple #[.agg #[.int .i64 5, .string .empty, .int .i64 0, .slice none 0 0, .bool false, .slice (some ⟨g, 0, none⟩) 1 1], .bool true]) (by simp [results, Tryd.results16, go_sem, c]; try rfl) rfl ?_
        refine arEnd HA.out ⟨_, rfl, ?_⟩ hbe
        obtain ⟨h1, h2, h3⟩ := HX.out
        refine ⟨g, rfl, by simp at h1; omega, by simpa [World.setCell] using h2, ?_⟩
        simp only [World.setCell, Array.getElem?_modify]
        have hne : w.heap.size ≠ g := by simp at h1; omega
        simp [hne, h3]
  rw [Bool.not_eq_true] at h10
  have HA := Lib.hid (show arith s.toList a b = (val0, false) by simp [arith, h0, h1, h2, h3, h4, h5, h6, h7, h8, h9, h10])
  go_enter Tryd.func16, Tryd.ntmps16
  go_wp2_with fail
  have c := cellsH (new0 w (.cells #[.int .i64 0, .string ⟨#[]⟩, .int .i64 0, .slice none 0 0, .bool false, .slice none 0 0] 35))
  refine bodyPost_ret (v := .tuple #[.agg #[.int .i64 0, .string ⟨#[]⟩, .int .i64 0, .slice none 0 0, .bool false, .slice none 0 0], .bool false]) (by simp [results, Tryd.results16, go_sem, c]; try rfl) rfl ?_
  exact arEnd HA.out val_box ((Below.refl _ _).alloc (Nat.le_refl _) _)
end Go.Proofs.YtmehknlijcbphaaDoor
