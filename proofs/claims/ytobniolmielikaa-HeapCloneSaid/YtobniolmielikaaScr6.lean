/- The law's helper apply; no condition. -/
import Derived.Test.YtobniolmielikaaScr5
namespace Go.Proofs.Ytobniolmielikaa
open Go.RowKit

/-- What is known behind an operation. -/
def Applied (B k : Nat) (e : Ending) (w' : World) : Prop := ∃ h' y' a' r' NV' AV' H' R', e = .returned (.tuple #[.pointer (some ⟨h', 0, none⟩), .pointer (some ⟨r', 0, none⟩), .bool true]) ∧ Two B w' h' y' a' r' NV' AV' H' R' ∧ Rel (k + 1) H' R'.abs

theorem opCells9 {w : World} {g : Nat} {p : Opn} (h : w.heap[g]? = some (.cells p.arr 85)) :
    w.cell? ⟨g, 0, none⟩ = some (.int .i64 p.kind) ∧ w.cell? ⟨g, 1, none⟩ = some (.int .i64 p.addr) ∧ w.cell? ⟨g, 2, none⟩ = some (.int .i64 p.o.op) ∧ w.cell? ⟨g, 3, none⟩ = some (.int .i64 p.o.n) ∧ w.cell? ⟨g, 4, none⟩ = some (.int .i64 p.o.ar) ∧
    w.cell? ⟨g, 5, none⟩ = some (.slice p.ra p.o.refs.length p.rc) ∧ w.cell? ⟨g, 6, none⟩ = some (.slice p.wa p.o.words.length p.wc) ∧ w.cell? ⟨g, 7, none⟩ = some (.slice p.na p.l1.length p.nc) ∧ w.cell? ⟨g, 8, none⟩ = some (.slice p.oa p.l2.length p.oc) :=
  ⟨row_cells h 0 _ rfl, row_cells h 1 _ rfl, row_cells h 2 _ rfl, row_cells h 3 _ rfl, row_cells h 4 _ rfl, row_cells h 5 _ rfl, row_cells h 6 _ rfl, row_cells h 7 _ rfl, row_cells h 8 _ rfl⟩

set_option maxHeartbeats 4000000 in
theorem apply_alloc (B k : Nat) (w : World) (h y a r : Nat) (NV AV : Value) (H : HM) (R : RM) (p : Opn) (t : Two B w h y a r NV AV H R) (hr : Rel k H R.abs) (hk : k ≤ 100) (hop : OpOk B w p) (hB : B ≤ w.heap.size) (hkd : p.kind = 0) :
    Calls Try.prog 57 #[.pointer (some ⟨h, 0, none⟩), .pointer (some ⟨r, 0, none⟩), .agg p.arr] w fun e w' => Applied B k e w' ∧ Below B w w' := by
  obtain ⟨l1, l2, l3, l4⟩ := t.lt
  have b0 : Below w.heap.size w (w.alloc (.cells p.arr 85)) := (Below.refl _ _).alloc (Nat.le_refl _) _
  have T0 := Lib.hid (t.fresh b0)
  have B0 := Lib.hid (b0.mono hB)
  have OP0 := Lib.hid (hop.below (b0.mono hB))
  have x0 := new0 w (.cells p.arr 85)
  have X0 := Lib.hid x0
  have c0 := cellsH x0
  have HR := Lib.hid hr
  have s0 : R.s0 ≤ 65536 := by have := hr.n2; have := hr.nur; simp only [RM.abs] at this; omega
  have s1 : R.s1 ≤ 65536 := by have := hr.e2; have := hr.eld; simp only [RM.abs] at this; omega
  have n0 : 0 ≤ R.next ∧ R.next < 9223372036854775807 := by have := hr.next; have := hr.lo; have := hr.hi; simp only [RM.abs] at *; omega
  have S0 := Lib.hid s0
  have S1 := Lib.hid s1
  have N0 := Lib.hid n0
  have z0 := B0.out.size
  clear t hop b0 x0 hr s0 s1 n0
  go_enter Try.func57, Try.ntmps57
  go_upto_region 3 with (fail)
  rw [hkd] at *
  go_wp2_with fail
  refine (alloc_any (· < B) _ h y a H _ p.o T0.out.p OP0.out.ob).mono ?_
  rintro e w1 ⟨rfl, hh1, ht1⟩
  have T1 := Lib.hid (T0.out.prog ht1 hh1)
  have B1 := Lib.hid (B0.out.trans (T0.out.pb ht1 (by omega)))
  have OP1 := Lib.hid (OP0.out.below (T0.out.pb ht1 (by omega)))
  have x1 := T0.out.keepP ht1 X0.out (by decide)
  have c1 := cellsH x1
  have X1 := Lib.hid x1
  have z1 := B1.out.size
  clear hh1 ht1 c0 x1
  go_wp2_with fail
  refine (ralloc_any B (· < B) _ r NV AV R _ p.o T1.out.q (by omega) S0.out N0.out OP1.out.ob).mono ?_
  rintro e w2 ⟨rfl, NV', R', hq, hab, ht2⟩
  obtain ⟨e1, e2, e3⟩ := rel_alloc HR.out hk p.o
  rw [← hab] at e3
  rw [← e1, ← e2]
  have T2 := Lib.hid (T1.out.ref ht2 hq)
  have B2 := Lib.hid (B1.out.trans (T1.out.rb ht2 (by omega)))
  have R2 := Lib.hid e3
  clear hq hab ht2 e1 e2 e3 c1
  go_wp2_with fail
  go_ret3
  exact ⟨⟨h, y, a, r, _, _, _, _, rfl, T2.out, R2.out⟩, B2.out⟩
set_option maxHeartbeats 4000000 in
theorem apply_get (B k : Nat) (w : World) (h y a r : Nat) (NV AV : Value) (H : HM) (R : RM) (p : Opn) (t : Two B w h y a r NV AV H R) (hr : Rel k H R.abs) (hk : k ≤ 100) (hop : OpOk B w p) (hB : B ≤ w.heap.size) (hkd : p.kind = 1) :
    Calls Try.prog 57 #[.pointer (some ⟨h, 0, none⟩), .pointer (some ⟨r, 0, none⟩), .agg p.arr] w fun e w' => Applied B k e w' ∧ Below B w w' := by
  obtain ⟨l1, l2, l3, l4⟩ := t.lt
  have b0 : Below w.heap.size w (w.alloc (.cells p.arr 85)) := (Below.refl _ _).alloc (Nat.le_refl _) _
  have T0 := Lib.hid (t.fresh b0)
  have B0 := Lib.hid (b0.mono hB)
  have OP0 := Lib.hid (hop.below (b0.mono hB))
  have x0 := new0 w (.cells p.arr 85)
  have X0 := Lib.hid x0
  have c0 := cellsH x0
  have HR := Lib.hid hr
  have s0 : R.s0 ≤ 65536 := by have := hr.n2; have := hr.nur; simp only [RM.abs] at this; omega
  have s1 : R.s1 ≤ 65536 := by have := hr.e2; have := hr.eld; simp only [RM.abs] at this; omega
  have n0 : 0 ≤ R.next ∧ R.next < 9223372036854775807 := by have := hr.next; have := hr.lo; have := hr.hi; simp only [RM.abs] at *; omega
  have S0 := Lib.hid s0
  have S1 := Lib.hid s1
  have N0 := Lib.hid n0
  have z0 := B0.out.size
  clear t hop b0 x0 hr s0 s1 n0
  go_enter Try.func57, Try.ntmps57
  go_upto_region 7 with (fail)
  rw [hkd] at *
  go_wp2_with fail
  refine (get_any _ h y a H p.addr T0.out.p).mono ?_
  rintro e w1 ⟨v1, rfl, hv1, hb1⟩
  obtain ⟨ra1, rc1, wa1, wc1, rfl⟩ := hv1.open
  have T1 := Lib.hid (T0.out.fresh hb1)
  have B1 := Lib.hid (below_then B0.out (by omega) hb1)
  have x1 := rowB hb1 X0.out (heap_lt X0.out)
  have X1 := Lib.hid x1
  have V1 := Lib.hid hv1
  have z1 := B1.out.size
  have c1 := cellsH (old1 x1 (.cells #[.int .i64 (H.get p.addr).1.op, .int .i64 (H.get p.addr).1.n, .int .i64 (H.get p.addr).1.ar, .slice ra1 (H.get p.addr).1.refs.length rc1, .slice wa1 (H.get p.addr).1.words.length wc1] 25))
  clear hb1 c0 x1 hv1
  go_wp2_with fail
  have bz : Below w1.heap.size w1 (w1.alloc (.cells #[.int .i64 (H.get p.addr).1.op, .int .i64 (H.get p.addr).1.n, .int .i64 (H.get p.addr).1.ar, .slice ra1 (H.get p.addr).1.refs.length rc1, .slice wa1 (H.get p.addr).1.words.length wc1] 25)) := (Below.refl _ _).alloc (Nat.le_refl _) _
  have T1z := Lib.hid (T1.out.fresh bz)
  have B1z := Lib.hid (below_then B1.out (by omega) bz)
  have V1z := Lib.hid (V1.out.fresh bz)
  have y1 := new0 w1 (.cells #[.int .i64 (H.get p.addr).1.op, .int .i64 (H.get p.addr).1.n, .int .i64 (H.get p.addr).1.ar, .slice ra1 (H.get p.addr).1.refs.length rc1, .slice wa1 (H.get p.addr).1.words.length wc1] 25)
  have Y1 := Lib.hid y1
  have z2 := bz.size
  clear bz y1 c1
  refine (rget_any B _ r NV AV R p.addr T1z.out.q).mono ?_
  rintro e w2 ⟨v2, rfl, hv2, hb2⟩
  have eg : R.get p.addr = H.get p.addr := by rw [rget_abs]; exact (rel_get HR.out p.addr).symm
  rw [eg] at hv2 ⊢
  obtain ⟨ra2, rc2, wa2, wc2, rfl⟩ := hv2.open
  have T2 := Lib.hid (T1z.out.fresh hb2)
  have B2 := Lib.hid (below_then B1z.out (by omega) hb2)
  have V12 := Lib.hid (V1z.out.fresh hb2)
  have y2 := rowB hb2 Y1.out (heap_lt Y1.out)
  have Y2 := Lib.hid y2
  have V2 := Lib.hid hv2
  have z3 := B2.out.size
  have c2 := fun q => cellsH (old1 y2 q)
  clear hb2 y2 hv2 eg
  go_wp2_with fail
  have bz : Below w2.heap.size w2 (w2.alloc (.cells #[.int .i64 (H.get p.addr).1.op, .int .i64 (H.get p.addr).1.n, .int .i64 (H.get p.addr).1.ar, .slice ra2 (H.get p.addr).1.refs.length rc2, .slice wa2 (H.get p.addr).1.words.length wc2] 25)) := (Below.refl _ _).alloc (Nat.le_refl _) _
  have T2z := Lib.hid (T2.out.fresh bz)
  have B2z := Lib.hid (below_then B2.out (by omega) bz)
  refine (sameObj_any _ _ _ _ _ (H.get p.addr).1 (V12.out.fresh bz).at (V2.out.fresh bz).at).mono ?_
  rintro e w3 ⟨rfl, hb3⟩
  have T3 := Lib.hid (T2z.out.fresh hb3)
  have B3 := Lib.hid (below_then B2z.out (by have := bz.size; omega) hb3)
  clear hb3 bz c2
  go_wp2_with fail
  go_ret3
  exact ⟨⟨h, y, a, r, _, _, _, _, rfl, T3.out, HR.out.up⟩, B3.out⟩
set_option maxHeartbeats 4000000 in
theorem apply_set (B k : Nat) (w : World) (h y a r : Nat) (NV AV : Value) (H : HM) (R : RM) (p : Opn) (t : Two B w h y a r NV AV H R) (hr : Rel k H R.abs) (hk : k ≤ 100) (hop : OpOk B w p) (hB : B ≤ w.heap.size) (hkd : p.kind = 2) :
    Calls Try.prog 57 #[.pointer (some ⟨h, 0, none⟩), .pointer (some ⟨r, 0, none⟩), .agg p.arr] w fun e w' => Applied B k e w' ∧ Below B w w' := by
  obtain ⟨l1, l2, l3, l4⟩ := t.lt
  have b0 : Below w.heap.size w (w.alloc (.cells p.arr 85)) := (Below.refl _ _).alloc (Nat.le_refl _) _
  have T0 := Lib.hid (t.fresh b0)
  have B0 := Lib.hid (b0.mono hB)
  have OP0 := Lib.hid (hop.below (b0.mono hB))
  have x0 := new0 w (.cells p.arr 85)
  have X0 := Lib.hid x0
  have c0 := cellsH x0
  have HR := Lib.hid hr
  have s0 : R.s0 ≤ 65536 := by have := hr.n2; have := hr.nur; simp only [RM.abs] at this; omega
  have s1 : R.s1 ≤ 65536 := by have := hr.e2; have := hr.eld; simp only [RM.abs] at this; omega
  have n0 : 0 ≤ R.next ∧ R.next < 9223372036854775807 := by have := hr.next; have := hr.lo; have := hr.hi; simp only [RM.abs] at *; omega
  have S0 := Lib.hid s0
  have S1 := Lib.hid s1
  have N0 := Lib.hid n0
  have z0 := B0.out.size
  clear t hop b0 x0 hr s0 s1 n0
  have i0 := (opCells9 (show w.alloc (.cells p.arr 85) |>.drew |>.heap[w.heap.size]? = _ from X0.out)).2
  go_enter Try.func57, Try.ntmps57
  go_upto_region 11 with (fail)
  rw [hkd] at *
  clear c0
  go_region_held3 (fun w' => w'.cell? ⟨w.heap.size, 1, none⟩ = some (.int .i64 p.addr) ∧ w'.cell? ⟨w.heap.size, 2, none⟩ = some (.int .i64 p.o.op) ∧ w'.cell? ⟨w.heap.size, 3, none⟩ = some (.int .i64 p.o.n) ∧ w'.cell? ⟨w.heap.size, 4, none⟩ = some (.int .i64 p.o.ar) ∧
      w'.cell? ⟨w.heap.size, 5, none⟩ = some (.slice p.ra p.o.refs.length p.rc) ∧ w'.cell? ⟨w.heap.size, 6, none⟩ = some (.slice p.wa p.o.words.length p.wc) ∧ w'.cell? ⟨w.heap.size, 7, none⟩ = some (.slice p.na p.l1.length p.nc) ∧ w'.cell? ⟨w.heap.size, 8, none⟩ = some (.slice p.oa p.l2.length p.oc))
    (first | with_reducible exact i0 | with_reducible exact i1 | with_reducible exact i2)
    (first
      | (go_at_call 17; refine (set_any (· < B) _ h y a H p.addr _ p.o T0.out.p.drew (OP0.out.below (Below.refl _ _).drew).ob).mono ?_; rintro e w1 ⟨rfl, hh1, ht1⟩; have T0d := Lib.hid (T0.out.fresh (Below.refl _ _).drew); have T1 := Lib.hid (T0d.out.prog ht1 hh1); have B1 := Lib.hid (B0.out.drew.trans (T0d.out.pb ht1 (show B ≤ (w.alloc (.cells p.arr 85)).heap.size by omega))); have OP1 := Lib.hid ((OP0.out.below (Below.refl B _).drew).below (T0d.out.pb ht1 (show B ≤ (w.alloc (.cells p.arr 85)).heap.size by omega))); have x1 := T0d.out.keepP ht1 X0.out (by decide); have X1 := Lib.hid x1; have i1 := (opCells9 x1).2; have z1 := B1.out.size; clear hh1 ht1 x1)
      | (go_at_call 92; refine (rset_any B (· < B) _ r NV AV R p.addr _ p.o T1.out.q OP1.out.ob).mono ?_; rintro e w2 ⟨rfl, R', hq, hab, ht2⟩; have E1 := (rel_set HR.out p.addr p.o).1; rw [← E1]; have R2 := Lib.hid (show Rel (k + 1) _ R'.abs from hab ▸ (rel_set HR.out p.addr p.o).2); have T2 := Lib.hid (T1.out.ref ht2 hq); have B2 := Lib.hid (B1.out.trans (T1.out.rb ht2 (by omega))); have x2 := T1.out.keepR ht2 X1.out (by decide) (by decide); have i2 := (opCells9 x2).2; clear hq hab ht2 x2 E1))
  clear i0 i1 i2
  rename_i hHeld
  clear hHeld
  go_wp2_with fail
  go_ret3
  exact ⟨⟨h, y, a, r, _, _, _, _, rfl, T2.out, R2.out⟩, B2.out⟩
set_option maxHeartbeats 4000000 in
theorem apply_clone (B k : Nat) (w : World) (h y a r : Nat) (NV AV : Value) (H : HM) (R : RM) (p : Opn) (t : Two B w h y a r NV AV H R) (hr : Rel k H R.abs) (hk : k ≤ 100) (hop : OpOk B w p) (hB : B ≤ w.heap.size) (hkd : p.kind ≠ 0 ∧ p.kind ≠ 1 ∧ p.kind ≠ 2 ∧ p.kind ≠ 3) :
    Calls Try.prog 57 #[.pointer (some ⟨h, 0, none⟩), .pointer (some ⟨r, 0, none⟩), .agg p.arr] w fun e w' => Applied B k e w' ∧ Below B w w' := by
  obtain ⟨l1, l2, l3, l4⟩ := t.lt
  have b0 : Below w.heap.size w (w.alloc (.cells p.arr 85)) := (Below.refl _ _).alloc (Nat.le_refl _) _
  have T0 := Lib.hid (t.fresh b0)
  have B0 := Lib.hid (b0.mono hB)
  have OP0 := Lib.hid (hop.below (b0.mono hB))
  have x0 := new0 w (.cells p.arr 85)
  have X0 := Lib.hid x0
  have c0 := cellsH x0
  have HR := Lib.hid hr
  have s0 : R.s0 ≤ 65536 := by have := hr.n2; have := hr.nur; simp only [RM.abs] at this; omega
  have s1 : R.s1 ≤ 65536 := by have := hr.e2; have := hr.eld; simp only [RM.abs] at this; omega
  have n0 : 0 ≤ R.next ∧ R.next < 9223372036854775807 := by have := hr.next; have := hr.lo; have := hr.hi; simp only [RM.abs] at *; omega
  have S0 := Lib.hid s0
  have S1 := Lib.hid s1
  have N0 := Lib.hid n0
  have z0 := B0.out.size
  clear t hop b0 x0 hr s0 s1 n0
  have k0 : (p.kind == 0) = false := by simpa using hkd.1
  have k1 : (p.kind == 1) = false := by simpa using hkd.2.1
  have k2 : (p.kind == 2) = false := by simpa using hkd.2.2.1
  have k3 : (p.kind == 3) = false := by simpa using hkd.2.2.2
  clear hkd
  go_enter Try.func57, Try.ntmps57
  go_wp2_with fail
  refine (clone39_any _ h y a H T0.out.p (HR.out.keysY hk) (HR.out.keysA hk)).mono ?_
  rintro e w1 ⟨h', y', a', ly, la, rfl, hp1, p1, p2, g1, g2, g3, hb1⟩
  have T1 := Lib.hid (T0.out.fresh hb1)
  have B1 := Lib.hid (below_then B0.out (by omega) hb1)
  have P1 := Lib.hid hp1
  have R1 := Lib.hid (rel_clone HR.out p1 p2)
  have z1 := B1.out.size
  clear hp1 p1 p2 hb1 c0
  go_wp2_with fail
  refine (rclone_any B _ r NV AV R T1.out.q (by omega)).mono ?_
  rintro e w2 ⟨r', NV', AV', R', rfl, hq, hab, g4, hb2⟩
  have B2 := Lib.hid (below_then B1.out (by omega) hb2)
  have P2 := Lib.hid (P1.out.fresh hb2)
  have Q2 := Lib.hid hq
  have R2 := Lib.hid (show Rel (k + 1) _ R'.abs from hab ▸ R1.out)
  clear hq hab hb2
  go_wp2_with fail
  go_ret3
  exact ⟨⟨h', y', a', r', _, _, _, _, rfl, ⟨P2.out, Q2.out, by omega, by omega, by omega, by omega⟩, R2.out⟩, B2.out⟩
end Go.Proofs.Ytobniolmielikaa
