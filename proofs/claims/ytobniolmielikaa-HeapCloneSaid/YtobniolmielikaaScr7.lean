/- The law's helper apply, a Replace; no condition. -/
import Derived.Test.YtobniolmielikaaScr6
namespace Go.Proofs.Ytobniolmielikaa
open Go.RowKit

set_option maxHeartbeats 4000000 in
theorem apply_repl (B k : Nat) (w : World) (h y a r : Nat) (NV AV : Value) (H : HM) (R : RM) (p : Opn) (t : Two B w h y a r NV AV H R) (hr : Rel k H R.abs) (hk : k ≤ 100) (hop : OpOk B w p) (hB : B ≤ w.heap.size) (hkd : p.kind = 3) (hok : okOp p = true) :
    Calls Try.prog 57 #[.pointer (some ⟨h, 0, none⟩), .pointer (some ⟨r, 0, none⟩), .agg p.arr] w fun e w' => Applied B k e w' ∧ Below B w w' := by
  obtain ⟨l1, l2, l3, l4⟩ := t.lt
  have b0 : Below w.heap.size w (w.alloc (.cells p.arr 85)) := (Below.refl _ _).alloc (Nat.le_refl _) _
  have T0 := Lib.hid (t.fresh b0)
  have B0 := Lib.hid (b0.mono hB)
  have OP0 := Lib.hid (hop.below (b0.mono hB))
  have x0 := new0 w (.cells p.arr 85)
  have X0 := Lib.hid x0
  have c0 := cellsH x0
  have HR := Lib.hid hr
  have s0 : R.s0 ≤ 65536 := by have := hr.n2; have := hr.nur; simp only [RM.abs] at this; omega
  have s1 : R.s1 ≤ 65536 := by have := hr.e2; have := hr.eld; simp only [RM.abs] at this; omega
  have n0 : 0 ≤ R.next ∧ R.next < 9223372036854775807 := by have := hr.next; have := hr.lo; have := hr.hi; simp only [RM.abs] at *; omega
  have S0 := Lib.hid s0
  have S1 := Lib.hid s1
  have N0 := Lib.hid n0
  have z0 := B0.out.size
  clear t hop b0 x0 hr s0 s1 n0
  simp only [okOp, Bool.and_eq_true, decide_eq_true_eq] at hok
  obtain ⟨⟨⟨q1, q2⟩, q3⟩, q4⟩ := hok
  have Q3 := Lib.hid q3
  have Q4 := Lib.hid q4
  have m1d : ((absI p.l1).map (·.1)).Nodup := by simpa [absI, List.map_map, Function.comp_def] using q3
  have m2d : ((absI p.l2).map (·.1)).Nodup := by simpa [absI, List.map_map, Function.comp_def] using q4
  have M1D := Lib.hid m1d
  have M2D := Lib.hid m2d
  have i0 := (opCells9 (show w.alloc (.cells p.arr 85) |>.drew |>.heap[w.heap.size]? = _ from X0.out)).2.2.2.2.2.2.2
  clear q3 q4 m1d m2d
  go_enter Try.func57, Try.ntmps57
  go_upto_region 13 with (fail)
  rw [hkd] at *
  clear c0
  go_region_held3 (fun w' => w'.cell? ⟨w.heap.size, 7, none⟩ = some (.slice p.na p.l1.length p.nc) ∧ w'.cell? ⟨w.heap.size, 8, none⟩ = some (.slice p.oa p.l2.length p.oc))
    (first | with_reducible exact i0 | with_reducible exact i1 | with_reducible exact i2 | with_reducible exact i3 | with_reducible exact i4)
    (first
      | (go_at_call_of 95 (Value.slice p.na p.l1.length p.nc); have OP0d := Lib.hid (OP0.out.below (Below.refl B _).drew); refine (items_any (· < B) _ _ p.l1 OP0d.out.n Q3.out (fun x hx => OP0d.out.its x (List.mem_append_left _ hx)) (fun b hb => by show b < (w.alloc (.cells p.arr 85)).heap.size; have hb : b < B := hb; omega)).mono ?_; rintro e w1 ⟨b1, rfl, hm1, gb1, hb1⟩; have M1 := Lib.hid hm1; have G1 : (w.alloc (.cells p.arr 85)).heap.size ≤ b1 := gb1; have hb1 := undrew hb1; have T1 := Lib.hid (T0.out.fresh hb1); have B1 := Lib.hid (below_then B0.out (by omega) hb1); have OP1 := Lib.hid (OP0.out.below (hb1.mono (by omega))); have x1 := rowB hb1 X0.out (heap_lt X0.out); have X1 := Lib.hid x1; have i1 := (opCells9 x1).2.2.2.2.2.2.2; have z1 := B1.out.size; have z1b := hb1.size; clear hm1 hb1 x1 gb1)
      | (go_at_call 95; refine (items_any (· < B) _ _ p.l2 OP1.out.l Q4.out (fun x hx => OP1.out.its x (List.mem_append_right _ hx)) (fun b hb => by have hb : b < B := hb; omega)).mono ?_; rintro e w2 ⟨b2, rfl, hm2, gb2, hb2⟩; have M2 := Lib.hid hm2; have M12 := Lib.hid (M1.out.fresh hb2); have T2 := Lib.hid (T1.out.fresh hb2); have B2 := Lib.hid (below_then B1.out (by omega) hb2); have OP2 := Lib.hid (OP1.out.below (hb2.mono (by omega))); have x2 := rowB hb2 X1.out (heap_lt X1.out); have X2 := Lib.hid x2; have i2 := (opCells9 x2).2.2.2.2.2.2.2; have z2 := B2.out.size; have z2b := hb2.size; clear hm2 hb2 x2)
      | (go_at_call 31; refine (replaceO_any (· < B) _ h y a b1 b2 H _ _ T2.out.p M12.out M2.out (fun b hb => by have hb : b < B := hb; omega) (fun b hb e => by have hb : b < B := hb; have h1 := T2.out.bh; have h2 := T2.out.bY; have h3 := T2.out.ba; rcases e with e | e | e <;> omega) (by omega) (by omega) (by omega) (by omega)).mono ?_; rintro e w3 ⟨rfl, H', hh3, hrp, ht3⟩; have RP := Lib.hid hrp; have T3 := Lib.hid (T2.out.prog ht3 hh3); have B3 := Lib.hid (B2.out.trans (T2.out.pb ht3 (by omega))); have OP3 := Lib.hid (OP2.out.below (T2.out.pb ht3 (by omega))); have x3 := T2.out.keepP ht3 X2.out (by decide); have X3 := Lib.hid x3; have i3 := (opCells9 x3).2.2.2.2.2.2.2; have z3 := B3.out.size; clear hh3 hrp ht3 x3)
      | (go_at_call 82; refine (rput_any B (· < B) _ r NV AV _ _ R p.l1 p.l2 T3.out.q (by omega) S0.out S1.out N0.out.1 OP3.out.n OP3.out.l (by omega) OP3.out.its (fun b hb e => by have hb : b < B := hb; have h1 := T3.out.br; omega)).mono ?_; rintro e w4 ⟨rfl, NV', AV', R', hq, hrq, ht4⟩; have E1 := (rel_repl HR.out M1D.out M2D.out RP.out hrq).1; rw [← E1]; have R4 := Lib.hid (rel_repl HR.out M1D.out M2D.out RP.out hrq).2; have T4 := Lib.hid (T3.out.ref ht4 hq); have B4 := Lib.hid (B3.out.trans (T3.out.rb ht4 (by omega))); have x4 := T3.out.keepR ht4 X3.out (by decide) (by decide); have i4 := (opCells9 x4).2.2.2.2.2.2.2; clear hq hrq ht4 x4 E1))
  clear i0 i1 i2 i3 i4
  rename_i hHeld
  clear hHeld
  go_wp2_with fail
  go_ret3
  exact ⟨⟨h, y, a, r, _, _, _, _, rfl, T4.out, R4.out⟩, B4.out⟩

theorem apply_any (B k : Nat) (w : World) (h y a r : Nat) (NV AV : Value) (H : HM) (R : RM) (p : Opn) (t : Two B w h y a r NV AV H R) (hr : Rel k H R.abs) (hk : k ≤ 100) (hop : OpOk B w p) (hB : B ≤ w.heap.size) (hok : okOp p = true) :
    Calls Try.prog 57 #[.pointer (some ⟨h, 0, none⟩), .pointer (some ⟨r, 0, none⟩), .agg p.arr] w fun e w' => Applied B k e w' ∧ Below B w w' := by
  by_cases k0 : p.kind = 0
  · exact apply_alloc B k w h y a r NV AV H R p t hr hk hop hB k0
  by_cases k1 : p.kind = 1
  · exact apply_get B k w h y a r NV AV H R p t hr hk hop hB k1
  by_cases k2 : p.kind = 2
  · exact apply_set B k w h y a r NV AV H R p t hr hk hop hB k2
  by_cases k3 : p.kind = 3
  · exact apply_repl B k w h y a r NV AV H R p t hr hk hop hB k3 hok
  · exact apply_clone B k w h y a r NV AV H R p t hr hk hop hB ⟨k0, k1, k2, k3⟩
end Go.Proofs.Ytobniolmielikaa
