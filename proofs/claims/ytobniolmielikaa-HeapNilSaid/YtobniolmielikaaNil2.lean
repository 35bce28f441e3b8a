/- The walk of the law HeapNil; no condition but that the arguments are values. -/
import Derived.Test.YtobniolmielikaaNil1
namespace Go.Proofs.Ytobniolmielikaa
open Go.RowKit

set_option maxHeartbeats 1000000 in
theorem heapNil_law (w : World) (x : Int) (a b c d e' : Value) (null : Bool) :
    Calls Try.prog 8 #[.int .i64 x, .agg #[a, b, c, d, e'], .bool null] w fun e w' => e = .returned (.bool true) ∧ Below w.heap.size w w' := by
  have B0 := Lib.hid (((Below.refl w.heap.size w).alloc (Nat.le_refl _) (.cells #[a, b, c, d, e'] 25)).alloc (by simp) (.cells #[.map none, .map none, .int .i64 0, .int .i64 0, .int .i64 0] 54))
  have R0 := Lib.hid (new20 w (.cells #[a, b, c, d, e'] 25) (.cells #[.map none, .map none, .int .i64 0, .int .i64 0, .int .i64 0] 54))
  have N := Lib.hid (show NilAt (.pointer none) ((w.alloc (.cells #[a, b, c, d, e'] 25)).alloc (.cells #[.map none, .map none, .int .i64 0, .int .i64 0, .int .i64 0] 54)) from .inl rfl)
  have N' := Lib.hid (show NilAt (.pointer (some ⟨w.heap.size + 1, 0, none⟩)) ((w.alloc (.cells #[a, b, c, d, e'] 25)).alloc (.cells #[.map none, .map none, .int .i64 0, .int .i64 0, .int .i64 0] 54)) from .inr ⟨_, rfl, new21 _ _ _⟩)
  cases null with
  | true =>
    have N0 := N
    clear N N'
    go_enter Try.func8, Try.ntmps8
    go_wp2_with fail
    refine (alloc_nil _ _ _ _ _ _ _ N0.out).mono ?_
    rintro e w1 ⟨rfl, hb1⟩
    have N1 := Lib.hid (N0.out.fresh hb1)
    have B1 := Lib.hid (below_then B0.out B0.out.size hb1)
    have R1 := Lib.hid (rowB hb1 R0.out (heap_lt R0.out))
    clear hb1
    go_wp2_with fail
    refine (get_nil' _ x _ N1.out).mono ?_
    rintro e w2 ⟨rfl, hb2⟩
    have N2 := Lib.hid ((N1.out.fresh hb2).alloc (.cells #[.int .i64 0, .int .i64 0, .int .i64 0, .slice none 0 0, .slice none 0 0] 25))
    have B2 := Lib.hid ((below_then B1.out B1.out.size hb2).alloc (by have := B1.out.size; have := hb2.size; omega) (.cells #[.int .i64 0, .int .i64 0, .int .i64 0, .slice none 0 0, .slice none 0 0] 25))
    have r2 := old1 (rowB hb2 R1.out (heap_lt R1.out)) (.cells #[.int .i64 0, .int .i64 0, .int .i64 0, .slice none 0 0, .slice none 0 0] 25)
    have hc2 := cellsH r2
    clear hb2 r2
    go_wp2_with fail
    refine (set_nil _ _ _ _ _ _ x _ N2.out).mono ?_
    rintro e w3 ⟨rfl, hb3⟩
    have N3 := Lib.hid (N2.out.fresh hb3)
    have B3 := Lib.hid (below_then B2.out B2.out.size hb3)
    clear hb3 hc2
    go_wp2_with fail
    refine (replace_nil _ _ _ _ N3.out).mono ?_
    rintro e w4 ⟨rfl, rfl⟩
    go_wp2_with fail
    refine (count_nil _ _ N3.out).mono ?_
    rintro e w4 ⟨rfl, rfl⟩
    go_wp2_with fail
    refine (limits_nil _ _ N3.out).mono ?_
    rintro e w4 ⟨rfl, rfl⟩
    go_wp2_with fail
    refine (room_nil _ _ N3.out).mono ?_
    rintro e w4 ⟨rfl, rfl⟩
    go_wp2_with fail
    refine (addrs_nil _ _ N3.out).mono ?_
    rintro e w4 ⟨rfl, rfl⟩
    go_wp2_with fail
    refine (remembered_nil _ _ N3.out).mono ?_
    rintro e w4 ⟨rfl, rfl⟩
    go_wp2_with fail
    refine (old_nil _ x _ N3.out).mono ?_
    rintro e w4 ⟨rfl, rfl⟩
    go_wp2_with fail
    refine (clone_nil _ _ N3.out).mono ?_
    rintro e w4 ⟨rfl, rfl⟩
    go_wp2_with fail
    refine (example_any _).mono ?_
    rintro e w5 ⟨rfl, hb5⟩
    have B5 := Lib.hid (below_then B3.out B3.out.size hb5)
    clear hb5
    go_wp2_with fail
    go_ret
    exact ⟨rfl, B5.out⟩
  | false =>
    have N0 := N'
    clear N N'
    go_enter Try.func8, Try.ntmps8
    go_wp2_with fail
    refine (alloc_nil _ _ _ _ _ _ _ N0.out).mono ?_
    rintro e w1 ⟨rfl, hb1⟩
    have N1 := Lib.hid (N0.out.fresh hb1)
    have B1 := Lib.hid (below_then B0.out B0.out.size hb1)
    have R1 := Lib.hid (rowB hb1 R0.out (heap_lt R0.out))
    clear hb1
    go_wp2_with fail
    refine (get_nil' _ x _ N1.out).mono ?_
    rintro e w2 ⟨rfl, hb2⟩
    have N2 := Lib.hid ((N1.out.fresh hb2).alloc (.cells #[.int .i64 0, .int .i64 0, .int .i64 0, .slice none 0 0, .slice none 0 0] 25))
    have B2 := Lib.hid ((below_then B1.out B1.out.size hb2).alloc (by have := B1.out.size; have := hb2.size; omega) (.cells #[.int .i64 0, .int .i64 0, .int .i64 0, .slice none 0 0, .slice none 0 0] 25))
    have r2 := old1 (rowB hb2 R1.out (heap_lt R1.out)) (.cells #[.int .i64 0, .int .i64 0, .int .i64 0, .slice none 0 0, .slice none 0 0] 25)
    have hc2 := cellsH r2
    clear hb2 r2
    go_wp2_with fail
    refine (set_nil _ _ _ _ _ _ x _ N2.out).mono ?_
    rintro e w3 ⟨rfl, hb3⟩
    have N3 := Lib.hid (N2.out.fresh hb3)
    have B3 := Lib.hid (below_then B2.out B2.out.size hb3)
    clear hb3 hc2
    go_wp2_with fail
    refine (replace_nil _ _ _ _ N3.out).mono ?_
    rintro e w4 ⟨rfl, rfl⟩
    go_wp2_with fail
    refine (count_nil _ _ N3.out).mono ?_
    rintro e w4 ⟨rfl, rfl⟩
    go_wp2_with fail
    refine (limits_nil _ _ N3.out).mono ?_
    rintro e w4 ⟨rfl, rfl⟩
    go_wp2_with fail
    refine (room_nil _ _ N3.out).mono ?_
    rintro e w4 ⟨rfl, rfl⟩
    go_wp2_with fail
    refine (addrs_nil _ _ N3.out).mono ?_
    rintro e w4 ⟨rfl, rfl⟩
    go_wp2_with fail
    refine (remembered_nil _ _ N3.out).mono ?_
    rintro e w4 ⟨rfl, rfl⟩
    go_wp2_with fail
    refine (old_nil _ x _ N3.out).mono ?_
    rintro e w4 ⟨rfl, rfl⟩
    go_wp2_with fail
    refine (clone_nil _ _ N3.out).mono ?_
    rintro e w4 ⟨rfl, rfl⟩
    go_wp2_with fail
    refine (example_any _).mono ?_
    rintro e w5 ⟨rfl, hb5⟩
    have B5 := Lib.hid (below_then B3.out B3.out.size hb5)
    clear hb5
    go_wp2_with fail
    go_ret
    exact ⟨rfl, B5.out⟩
end Go.Proofs.Ytobniolmielikaa
