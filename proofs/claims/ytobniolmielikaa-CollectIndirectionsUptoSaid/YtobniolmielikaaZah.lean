/- Texts of the collector's proof, joined: Scr7, Scr8, Shelf, Sort, Adr1, Adr3, Adr2. -/
import Derived.Test.YtobniolmielikaaZag
import Derived.Shelf.Sort.Plain
import Derived.Ground.Names2Prog
import Derived.Shelf.Slices.SearchI
import Derived.Shelf.Slices.In.SortNone
import Derived.Test.YtobniolmielikaaProg
import Derived.Test.YtobniolmielikaaZaa
import Derived.Sort.OwnSortedInts
import Derived.Test.YtobniolmielikaaZac
import Derived.Test.YtobniolmielikaaZaf
import Derived.Test.YtobniolmielikaaZae
/- The law's helper apply, a Replace; no condition. -/
namespace Go.Proofs.Ytobniolmielikaa
open Go.RowKit

set_option maxHeartbeats 4000000 in
theorem apply_repl (B k : Nat) (w : World) (h y a r : Nat) (NV AV : Value) (H : HM) (R : RM) (p : Opn) (t : Two B w h y a r NV AV H R) (hr : Rel k H R.abs) (hk : k ≤ 100) (hop : OpOk B w p) (hB : B ≤ w.heap.size) (hkd : p.kind = 3) (hok : okOp p = true) :
    Calls Try.prog 57 #[.pointer (some ⟨h, 0, none⟩), .pointer (some ⟨r, 0, none⟩), .agg p.arr] w fun e w' => Applied B k e w' ∧ Below B w w' := by
  obtain ⟨l1, l2, l3, l4⟩ := t.lt
  have b0 : Below w.heap.size w (w.alloc (.cells p.arr 85)) := (Below.refl _ _).alloc (Nat.le_refl _) _
  have T0 := Lib.hid (t.fresh b0)
  have B0 := Lib.hid (b0.mono hB)
  have OP0 := Lib.hid (hop.below (b0.mono hB))
  have x0 := new0 w (.cells p.arr 85)
  have X0 := Lib.hid x0
  have c0 := cellsH x0
  have HR := Lib.hid hr
  have s0 : R.s0 ≤ 65536 := by have := hr.n2; have := hr.nur; simp only [RM.abs] at this; omega
  have s1 : R.s1 ≤ 65536 := by have := hr.e2; have := hr.eld; simp only [RM.abs] at this; omega
  have n0 : 0 ≤ R.next ∧ R.next < 9223372036854775807 := by have := hr.next; have := hr.lo; have := hr.hi; simp only [RM.abs] at *; omega
  have S0 := Lib.hid s0
  have S1 := Lib.hid s1
  have N0 := Lib.hid n0
  have z0 := B0.out.size
  clear t hop b0 x0 hr s0 s1 n0
  simp only [okOp, Bool.and_eq_true, decide_eq_true_eq] at hok
  obtain ⟨⟨⟨q1, q2⟩, q3⟩, q4⟩ := hok
  have Q3 := Lib.hid q3
  have Q4 := Lib.hid q4
  have m1d : ((absI p.l1).map (·.1)).Nodup := by simpa [absI, List.map_map, Function.comp_def] using q3
  have m2d : ((absI p.l2).map (·.1)).Nodup := by simpa [absI, List.map_map, Function.comp_def] using q4
  have M1D := Lib.hid m1d
  have M2D := Lib.hid m2d
  have i0 := (opCells9 (show w.alloc (.cells p.arr 85) |>.drew |>.heap[w.heap.size]? = _ from X0.out)).2.2.2.2.2.2.2
  clear q3 q4 m1d m2d
  go_enter Try.func57, Try.ntmps57
  go_upto_region 13 with (fail)
  rw [hkd] at *
  clear c0
  go_region_held3 (fun w' => w'.cell? ⟨w.heap.size, 7, none⟩ = some (.slice p.na p.l1.length p.nc) ∧ w'.cell? ⟨w.heap.size, 8, none⟩ = some (.slice p.oa p.l2.length p.oc))
    (first | with_reducible exact i0 | with_reducible exact i1 | with_reducible exact i2 | with_reducible exact i3 | with_reducible exact i4)
    (first
      | (go_at_call_of 95 (Value.slice p.na p.l1.length p.nc); have OP0d := Lib.hid (OP0.out.below (Below.refl B _).drew); refine (items_any (· < B) _ _ p.l1 OP0d.out.n Q3.out (fun x hx => OP0d.out.its x (List.mem_append_left _ hx)) (fun b hb => by show b < (w.alloc (.cells p.arr 85)).heap.size; have hb : b < B := hb; omega)).mono ?_; rintro e w1 ⟨b1, rfl, hm1, gb1, hb1⟩; have M1 := Lib.hid hm1; have G1 : (w.alloc (.cells p.arr 85)).heap.size ≤ b1 := gb1; have hb1 := undrew hb1; have T1 := Lib.hid (T0.out.fresh hb1); have B1 := Lib.hid (below_then B0.out (by omega) hb1); have OP1 := Lib.hid (OP0.out.below (hb1.mono (by omega))); have x1 := rowB hb1 X0.out (heap_lt X0.out); have X1 := Lib.hid x1; have i1 := (opCells9 x1).2.2.2.2.2.2.2; have z1 := B1.out.size; have z1b := hb1.size; clear hm1 hb1 x1 gb1)
      | (go_at_call 95; refine (items_any (· < B) _ _ p.l2 OP1.out.l Q4.out (fun x hx => OP1.out.its x (List.mem_append_right _ hx)) (fun b hb => by have hb : b < B := hb; omega)).mono ?_; rintro e w2 ⟨b2, rfl, hm2, gb2, hb2⟩; have M2 := Lib.hid hm2; have M12 := Lib.hid (M1.out.fresh hb2); have T2 := Lib.hid (T1.out.fresh hb2); have B2 := Lib.hid (below_then B1.out (by omega) hb2); have OP2 := Lib.hid (OP1.out.below (hb2.mono (by omega))); have x2 := rowB hb2 X1.out (heap_lt X1.out); have X2 := Lib.hid x2; have i2 := (opCells9 x2).2.2.2.2.2.2.2; have z2 := B2.out.size; have z2b := hb2.size; clear hm2 hb2 x2)
      | (go_at_call 31; refine (replaceO_any (· < B) _ h y a b1 b2 H _ _ T2.out.p M12.out M2.out (fun b hb => by have hb : b < B := hb; omega) (fun b hb e => by have hb : b < B := hb; have h1 := T2.out.bh; have h2 := T2.out.bY; have h3 := T2.out.ba; rcases e with e | e | e <;> omega) (by omega) (by omega) (by omega) (by omega)).mono ?_; rintro e w3 ⟨rfl, H', hh3, hrp, ht3⟩; have RP := Lib.hid hrp; have T3 := Lib.hid (T2.out.prog ht3 hh3); have B3 := Lib.hid (B2.out.trans (T2.out.pb ht3 (by omega))); have OP3 := Lib.hid (OP2.out.below (T2.out.pb ht3 (by omega))); have x3 := T2.out.keepP ht3 X2.out (by decide); have X3 := Lib.hid x3; have i3 := (opCells9 x3).2.2.2.2.2.2.2; have z3 := B3.out.size; clear hh3 hrp ht3 x3)
      | (go_at_call 82; refine (rput_any B (· < B) _ r NV AV _ _ R p.l1 p.l2 T3.out.q (by omega) S0.out S1.out N0.out.1 OP3.out.n OP3.out.l (by omega) OP3.out.its (fun b hb e => by have hb : b < B := hb; have h1 := T3.out.br; omega)).mono ?_; rintro e w4 ⟨rfl, NV', AV', R', hq, hrq, ht4⟩; have E1 := (rel_repl HR.out M1D.out M2D.out RP.out hrq).1; rw [← E1]; have R4 := Lib.hid (rel_repl HR.out M1D.out M2D.out RP.out hrq).2; have T4 := Lib.hid (T3.out.ref ht4 hq); have B4 := Lib.hid (B3.out.trans (T3.out.rb ht4 (by omega))); have x4 := T3.out.keepR ht4 X3.out (by decide) (by decide); have i4 := (opCells9 x4).2.2.2.2.2.2.2; clear hq hrq ht4 x4 E1))
  clear i0 i1 i2 i3 i4
  rename_i hHeld
  clear hHeld
  go_wp2_with fail
  go_ret3
  exact ⟨⟨h, y, a, r, _, _, _, _, rfl, T4.out, R4.out⟩, B4.out⟩

theorem apply_any (B k : Nat) (w : World) (h y a r : Nat) (NV AV : Value) (H : HM) (R : RM) (p : Opn) (t : Two B w h y a r NV AV H R) (hr : Rel k H R.abs) (hk : k ≤ 100) (hop : OpOk B w p) (hB : B ≤ w.heap.size) (hok : okOp p = true) :
    Calls Try.prog 57 #[.pointer (some ⟨h, 0, none⟩), .pointer (some ⟨r, 0, none⟩), .agg p.arr] w fun e w' => Applied B k e w' ∧ Below B w w' := by
  by_cases k0 : p.kind = 0
  · exact apply_alloc B k w h y a r NV AV H R p t hr hk hop hB k0
  by_cases k1 : p.kind = 1
  · exact apply_get B k w h y a r NV AV H R p t hr hk hop hB k1
  by_cases k2 : p.kind = 2
  · exact apply_set B k w h y a r NV AV H R p t hr hk hop hB k2
  by_cases k3 : p.kind = 3
  · exact apply_repl B k w h y a r NV AV H R p t hr hk hop hB k3 hok
  · exact apply_clone B k w h y a r NV AV H R p t hr hk hop hB ⟨k0, k1, k2, k3⟩
end Go.Proofs.Ytobniolmielikaa

/- The law's helper run; no condition. -/
namespace Go.Proofs.Ytobniolmielikaa
open Go.RowKit

theorem OpOk.up {B B' : Nat} {w : World} {p : Opn} (h : OpOk B w p) (hb : B ≤ B') : OpOk B' w p :=
  ⟨h.ob.mono (fun _ _ h => Nat.lt_of_lt_of_le h hb), h.n.mono (fun _ _ h => Nat.lt_of_lt_of_le h hb), h.l.mono (fun _ _ h => Nat.lt_of_lt_of_le h hb), fun x hx => (h.its x hx).mono (fun _ _ h => Nat.lt_of_lt_of_le h hb)⟩
theorem Ops.up {B B' : Nat} {w : World} {v : Value} {l : List Opn} (h : Ops B w v l) (hb : B ≤ B') : Ops B' w v l := by
  obtain ⟨A, cap, rfl, h1, h2, h3, h4, h5⟩ := h
  refine ⟨A, cap, rfl, h1, h2, fun h0 => ?_, fun p hp => (h4 p hp).up hb, h5⟩
  obtain ⟨b, o, rfl, hl, hc⟩ := h3 h0
  exact ⟨b, o, rfl, by omega, hc⟩
theorem bndB_all {l : List Opn} (h : bndB l = true) : l.length ≤ 60 ∧ ∀ p ∈ l, okOp p = true := by
  simp only [bndB, Bool.and_eq_true, decide_eq_true_eq] at h
  exact ⟨h.1, List.all_eq_true.1 h.2⟩

/-- What run leaves. -/
def Ran (B : Nat) (n m : Int) (e : Ending) (w' : World) : Prop :=
  (newOk n m = false ∧ e = .returned (.tuple #[.pointer none, .pointer none, .bool true])) ∨
  ∃ h y a r NV AV H R, e = .returned (.tuple #[.pointer (some ⟨h, 0, none⟩), .pointer (some ⟨r, 0, none⟩), .bool true]) ∧ Two B w' h y a r NV AV H R ∧ Rel 60 H R.abs

theorem Rel.to60 {k : Nat} {H G : HM} (h : Rel k H G) (hk : k ≤ 60) : Rel 60 H G := { h with hi := by have := h.hi; omega }

set_option maxHeartbeats 4000000 in
theorem run_any (w : World) (n m : Int) (v : Value) (l : List Opn) (h : Ops w.heap.size w v l) (hb : bndB l = true) :
    Calls Try.prog 24 #[.agg #[.int .i64 n, .int .i64 m, v]] w fun e w' => Ran (w.heap.size + 1) n m e w' ∧ Below w.heap.size w w' := by
  obtain ⟨A, c, rfl⟩ := h.shape
  obtain ⟨hlen, hok⟩ := bndB_all hb
  have b0 : Below (w.heap.size + 1) (w.alloc (.cells #[.int .i64 n, .int .i64 m, .slice A l.length c] 41)) (w.alloc (.cells #[.int .i64 n, .int .i64 m, .slice A l.length c] 41)) := Below.refl _ _
  have bw : Below w.heap.size w (w.alloc (.cells #[.int .i64 n, .int .i64 m, .slice A l.length c] 41)) := (Below.refl _ _).alloc (Nat.le_refl _) _
  have x0 := new0 w (.cells #[.int .i64 n, .int .i64 m, .slice A l.length c] 41)
  have OPS := Lib.hid ((h.below bw).up (Nat.le_succ _))
  have HOK := Lib.hid hok
  have z0 : (w.alloc (.cells #[.int .i64 n, .int .i64 m, .slice A l.length c] 41)).heap.size = w.heap.size + 1 := by simp
  have BW := Lib.hid bw
  have X0 := Lib.hid x0
  have c0 := cellsH x0
  clear h hb hok b0 bw x0
  go_enter Try.func24, Try.ntmps24
  go_upto_region 1 with (fail)
  generalize w.alloc (.cells #[.int .i64 n, .int .i64 m, .slice A l.length c] 41) = w0 at *
  cases hn : newOk n m with
  | false =>
    have HN := Lib.hid hn
    clear hn
    go_wp2_with fail
    refine (new_no n m _ HN.out).mono ?_
    rintro e w1 ⟨rfl, rfl⟩
    go_wp2_with fail
    refine (rnew_no n m _ HN.out).mono ?_
    rintro e w2 ⟨rfl, rfl⟩
    go_wp2_with fail
    go_loopw [5, 7, 9] (fun u5 u7 u9 wr => u5 = .pointer none ∧ u7 = .pointer none ∧ u9 = .int .i64 0 ∧ wr.heap[w.heap.size]? = some (.cells #[.int .i64 n, .int .i64 m, .slice A l.length c] 41) ∧ Below w.heap.size w wr) (fun _ _ _ _ => 0)
    case atStart => exact ⟨rfl, rfl, rfl, X0.out, BW.out⟩
    case round =>
      obtain ⟨rfl, rfl, rfl, hx, hb⟩ := hrel
      have HB := Lib.hid hb
      have cx := cellsH hx
      clear hx hb c0
      by_cases hl : 0 < l.length
      · go_wp2_with fail
        go_ret3
        exact ⟨.inl ⟨HN.out, rfl⟩, HB.out⟩
      · go_wp2_with fail
        go_ret3
        exact ⟨.inl ⟨HN.out, rfl⟩, HB.out⟩
  | true =>
    have HN := Lib.hid hn
    clear hn
    go_wp2_with fail
    refine (new_yes n m _ HN.out).mono ?_
    rintro e w1 ⟨h, y, a, rfl, hp, g1, g2, g3, hb1⟩
    have P1 := Lib.hid hp
    have B1 := Lib.hid (hb1.mono (show w.heap.size + 1 ≤ w0.heap.size by omega))
    have x1 := rowB hb1 X0.out (heap_lt X0.out)
    have X1 := Lib.hid x1
    have c1 := cellsH x1
    have z1 := hb1.size
    clear hp hb1 x1 c0
    go_wp2_with fail
    refine (rnew_yes (w.heap.size + 1) n m _ HN.out).mono ?_
    rintro e w2 ⟨r, NV, AV, rfl, hq, g4, hb2⟩
    have T2 := Lib.hid (show Two (w.heap.size + 1) w2 h y a r NV AV ⟨n, m, 0, [], []⟩ ⟨n, m, 0, [], []⟩ from ⟨P1.out.fresh hb2, hq, by omega, by omega, by omega, by omega⟩)
    have B2 := Lib.hid (B1.out.trans (hb2.mono (show w.heap.size + 1 ≤ w1.heap.size by omega)))
    have x2 := rowB hb2 X1.out (heap_lt X1.out)
    have X2 := Lib.hid x2
    have z2 := hb2.size
    clear hq hb2 x2 c1
    go_wp2_with fail
    go_loopw [5, 7, 9] (fun u5 u7 u9 wr => ∃ (k h y a r : Nat) (NV AV : Value) (H : HM) (R : RM), k ≤ l.length ∧ u5 = .pointer (some ⟨h, 0, none⟩) ∧ u7 = .pointer (some ⟨r, 0, none⟩) ∧ u9 = .int .i64 k ∧ Two (w.heap.size + 1) wr h y a r NV AV H R ∧ Rel k H R.abs ∧ Below (w.heap.size + 1) w0 wr) (fun _ _ i _ => l.length - (intOf i).toNat)
    case atStart => exact ⟨0, h, y, a, r, NV, AV, _, _, Nat.zero_le _, rfl, rfl, rfl, T2.out, rel_new HN.out, B2.out⟩
    case round =>
      obtain ⟨k, h, y, a, r, NV, AV, H, R, hk, rfl, rfl, rfl, ht, hr, hb⟩ := hrel
      have hx := rowB hb X0.out (by omega)
      have HB := Lib.hid hb
      have HT := Lib.hid ht
      have HR := Lib.hid hr
      have cx := cellsH hx
      have hsz := hb.size
      clear hx ht hr
      by_cases hlt : k < l.length
      · obtain ⟨p, hp⟩ : ∃ p, l[k]? = some p := ⟨_, List.getElem?_eq_getElem hlt⟩
        obtain ⟨b, o, rfl, hat, hop⟩ := (OPS.out.below hb).at hp
        obtain ⟨d0, d1, d2, d3, d4, d5, d6, d7, d8⟩ := hat
        have hokp := HOK.out p (List.mem_of_getElem? hp)
        have HA := Lib.hid (apply_any (w.heap.size + 1) k wr h y a r NV AV H R p HT.out HR.out (by omega) hop (by omega) hokp)
        clear hp hop hokp hb
        go_wp2_with fail
        refine HA.out.mono ?_
        rintro e w3 ⟨⟨h', y', a', r', NV', AV', H', R', rfl, t3, r3⟩, hb3⟩
        have T3 := Lib.hid t3
        have R3 := Lib.hid r3
        have B3 := Lib.hid (HB.out.trans hb3)
        clear t3 r3 hb3 d0 d1 d2 d3 d4 d5 d6 d7 d8 cx
        go_wp2_with fail
        go_roundw
        case rel => exact ⟨k + 1, h', y', a', r', NV', AV', H', R', by omega, rfl, rfl, by go_num, T3.out, R3.out, B3.out⟩
        case measure => simp [intOf]; omega
      · clear hb
        go_wp2_with fail
        go_ret3
        exact ⟨.inr ⟨h, y, a, r, NV, AV, H, R, rfl, HT.out, HR.out.to60 (by omega)⟩, BW.out.trans (HB.out.mono (by omega))⟩
end Go.Proofs.Ytobniolmielikaa

/-
  DERIVED: no statement is proved here. THE SHELF's CONTRACTS AT THIS DUMP, IN PLAIN WORDS (tools/lay-plain.mjs out of 'YtobniolmielikaaShelf0.lean', which tools/lay-shelf.mjs wrote): THE SAME DECLARATIONS UNDER THE SAME NAMES: 'import', 'namespace', 'open', 'def', 'theorem' AND NOTHING ELSE: no command of the shelf's: FOR A HAND-IN. Each laying: the table of numbers ('.._ren') and one theorem, a field a fact of the dump's own or the kernel's comparison; each contract: ONE APPLICATION.
-/
namespace Go.Proofs
open Go.Shelf
def Try.lays189_ren : Go.Shelf.Ren := ⟨fun | 189 => 58 | 125 => 97 | 257 => 96 | 128 => 118 | 129 => 119 | 294 => 109 | 295 => 110 | 296 => 111 | 297 => 112 | 298 => 113 | 299 => 114 | 216 => 115 | 300 => 116 | 301 => 117 | 328 => 121 | 329 => 122 | 330 => 123 | 331 => 124 | 332 => 125 | 215 => 126 | 343 => 127 | n => n, fun | 28 => 23 | 3 => 3 | 46 => 128 | 0 => 0 | 51 => 150 | 53 => 152 | 4 => 4 | 183 => 143 | 182 => 142 | 131 => 136 | 5 => 5 | 9 => 9 | 218 => 154 | 222 => 158 | 228 => 160 | 229 => 56 | n => n, fun | n => n⟩
theorem Try.lays189 : Go.Proofs.Lays.n189 Try.prog Try.lays189_ren := {
  mixed := by kernel_rfl
  f125 := Try.func97.trans (congrArg some (by kernel_rfl))
  f128 := Try.func118.trans (congrArg some (by kernel_rfl))
  f129 := Try.func119.trans (congrArg some (by kernel_rfl))
  f189 := Try.func58.trans (congrArg some (by kernel_rfl))
  f215 := Try.func126.trans (congrArg some (by kernel_rfl))
  f216 := Try.func115.trans (congrArg some (by kernel_rfl))
  f257 := Try.func96.trans (congrArg some (by kernel_rfl))
  f294 := Try.func109.trans (congrArg some (by kernel_rfl))
  f295 := Try.func110.trans (congrArg some (by kernel_rfl))
  f296 := Try.func111.trans (congrArg some (by kernel_rfl))
  f297 := Try.func112.trans (congrArg some (by kernel_rfl))
  f298 := Try.func113.trans (congrArg some (by kernel_rfl))
  f299 := Try.func114.trans (congrArg some (by kernel_rfl))
  f300 := Try.func116.trans (congrArg some (by kernel_rfl))
  f301 := Try.func117.trans (congrArg some (by kernel_rfl))
  f328 := Try.func121.trans (congrArg some (by kernel_rfl))
  f329 := Try.func122.trans (congrArg some (by kernel_rfl))
  f330 := Try.func123.trans (congrArg some (by kernel_rfl))
  f331 := Try.func124.trans (congrArg some (by kernel_rfl))
  f332 := Try.func125.trans (congrArg some (by kernel_rfl))
  f343 := Try.func127.trans (congrArg some (by kernel_rfl))
  t0 := Try.underlying0
  a0 := Try.isAgg0
  z0 := Try.sizeOf0
  v0 := Try.zeroValue0
  t3 := Try.underlying3
  a3 := Try.isAgg3
  z3 := Try.sizeOf3
  v3 := Try.zeroValue3
  t4 := Try.underlying4
  a4 := Try.isAgg4
  z4 := Try.sizeOf4
  v4 := Try.zeroValue4
  t5 := Try.underlying5
  a5 := Try.isAgg5
  z5 := Try.sizeOf5
  v5 := Try.zeroValue5
  t9 := Try.underlying9
  a9 := Try.isAgg9
  z9 := Try.sizeOf9
  v9 := Try.zeroValue9
  t28 := Try.underlying23
  a28 := Try.isAgg23
  z28 := Try.sizeOf23
  v28 := Try.zeroValue23
  t46 := Try.underlying128
  a46 := Try.isAgg128
  z46 := Try.sizeOf128
  v46 := Try.zeroValue128
  t51 := Try.underlying150
  a51 := Try.isAgg150
  z51 := Try.sizeOf150
  v51 := Try.zeroValue150
  t53 := Try.underlying152
  a53 := Try.isAgg152
  z53 := Try.sizeOf152
  v53 := Try.zeroValue152
  t131 := Try.underlying136
  a131 := Try.isAgg136
  z131 := Try.sizeOf136
  v131 := Try.zeroValue136
  t182 := Try.underlying142
  a182 := Try.isAgg142
  z182 := Try.sizeOf142
  v182 := Try.zeroValue142
  t183 := Try.underlying143
  a183 := Try.isAgg143
  z183 := Try.sizeOf143
  v183 := Try.zeroValue143
  t218 := Try.underlying154
  a218 := Try.isAgg154
  z218 := Try.sizeOf154
  v218 := Try.zeroValue154
  t222 := Try.underlying158
  a222 := Try.isAgg158
  z222 := Try.sizeOf158
  v222 := Try.zeroValue158
  t228 := Try.underlying160
  a228 := Try.isAgg160
  z228 := Try.sizeOf160
  v228 := Try.zeroValue160
  t229 := Try.underlying56
  a229 := Try.isAgg56
  z229 := Try.sizeOf56
  v229 := Try.zeroValue56 }
open Go.Sort Go.RowKit in
theorem Try.slices_Sort_int (blk off cap : Nat) (zs : List Int) (w : World) (hH : Holds (Value.int .i64) w blk off zs.toArray) (hblk : blk < w.heap.size) (hsz : zs.length < 4611686018427387904) :
    Calls Try.prog 58 #[.slice (some ⟨blk, off, none⟩) zs.length cap] w fun e w' =>
      e = .returned (.tuple #[]) ∧ ∃ n os, w' = grow (putRow (Value.int .i64) (Sort.ahead w n) blk off (zs.mergeSort fun x y => decide (x ≤ y)).toArray) os := Any.slices_Sort_int Try.lays189 blk off cap zs w hH hblk hsz
def Try.laysNm231_ren : Go.Shelf.Ren := ⟨fun | 31 => 115 | 37 => 126 | n => n, fun | 3 => 3 | 4 => 4 | n => n, fun | n => n⟩
theorem Try.laysNm231 : Go.Proofs.Lays2.n31 Try.prog Try.laysNm231_ren := {
  mixed := by kernel_rfl
  f31 := Try.func115.trans (congrArg some (by kernel_rfl))
  f37 := Try.func126.trans (congrArg some (by kernel_rfl))
  t3 := Try.underlying3
  a3 := Try.isAgg3
  z3 := Try.sizeOf3
  v3 := Try.zeroValue3
  t4 := Try.underlying4
  a4 := Try.isAgg4
  z4 := Try.sizeOf4
  v4 := Try.zeroValue4 }
open Go.RowKit Go.Lib in
/-- cmp.Less[int]: "Less reports whether x is less than y.": 'x < y'; the world is as it was. (LAID: no walk: one application.) -/
theorem Try.cmp_Less_int2 (x y : Int) (w : World) :
    Calls Try.prog 115 #[.int .i64 x, .int .i64 y] w fun e w' => e = .returned (.bool (decide (x < y))) ∧ w' = w := Any.cmp_Less_int2 Try.laysNm231 x y w
open Go.RowKit Go.Sort in
/-- .. and plain. (LAID: no walk: one application.) -/
theorem Try.slices_Sort_int_none (p : Option Addr) (cap : Nat) (w : World) :
    Calls Try.prog 58 #[.slice p 0 cap] w fun e w' => e = .returned (.tuple #[]) ∧ w' = w := Any.slices_Sort_int_none Try.lays189 p cap w
end Go.Proofs

/- The sort of a slice of ints of the call's own: its contract in this seat's words; no condition. -/
namespace Go.Proofs.Ytobniolmielikaa
open Go.RowKit Go.Sort

/-- A list of ints, ascending. -/
def srt (xs : List Int) : List Int := xs.mergeSort fun x y => decide (x ≤ y)
theorem srt_length (xs : List Int) : (srt xs).length = xs.length := List.length_mergeSort _

theorem sort_any (base n : Nat) (v : Value) (xs : List Int) (w : World) (hown : w.ownsRow base 3 1 v n (xs.map (Value.int .i64))) (hn : n * 8 ≤ 140737488355328) :
    Calls Try.prog 58 #[v] w fun e w' => e = .returned (.tuple #[]) ∧ w'.ownsRow base 3 1 v n ((srt xs).map (Value.int .i64)) ∧ w.grownBy w' v.ownBlock := by
  have hl : xs.length = n := by have := hown.1; simpa using this
  subst hl
  rcases hown.2 with ⟨rfl, h0⟩ | ⟨g, cap, cur, rfl, hg, hb, h1, h2, h3, h4⟩
  · have hx : xs = [] := List.eq_nil_of_length_eq_zero h0
    subst hx
    refine (Try.slices_Sort_int_none none 0 w).mono ?_
    rintro e w' ⟨rfl, rfl⟩
    exact ⟨rfl, by simpa [srt] using hown, World.grownBy.refl _ _⟩
  · refine (Try.slices_Sort_int g 0 cap xs w (holds_of_blockI hb (by rw [Nat.mul_one] at h4; exact h4)) (heap_lt hb) (by omega)).mono ?_
    rintro e w' ⟨rfl, m, os, rfl⟩
    exact ⟨rfl, ownsRow_sortedI (srt_length xs) hg hb h1 h2 h3, grownBy_sortedI _⟩
end Go.Proofs.Ytobniolmielikaa

/- The contract of the heap's Addrs; no condition. -/
namespace Go.Proofs.Ytobniolmielikaa
open Go.RowKit

theorem ObjMap.toO {w : World} {b : Nat} {m : List (Int × Ob)} (h : ObjMap w b m) : ObjMapO (· < w.heap.size) w b m := by
  obtain ⟨l, h1, h2⟩ := h
  exact ⟨l, h1, h2.imp fun x y q => q.at.mono fun b hb _ => hb⟩
theorem wf_key {x : Int} (h : 0 ≤ x ∧ x < 9223372036854775807) : (Lit.int .i64 x).wf = true := by
  have a : IntKind.i64.min = -9223372036854775808 := by kernel_rfl
  have b : IntKind.i64.max = 9223372036854775807 := by kernel_rfl
  simp only [Lit.wf, Bool.and_eq_true, decide_eq_true_eq, a, b]
  omega
theorem own_keep {w w' : World} {base n : Nat} {e : TypeId} {v : Value} {xs : List Value} (h : w.ownsRow base e 1 v n xs) (hb : ∀ g, v.ownBlock = some g → w'.heap[g]? = w.heap[g]?) : w'.ownsRow base e 1 v n xs := by
  refine ⟨h.1, ?_⟩
  rcases h.2 with h0 | ⟨g, cap, cur, rfl, hg, hh, rest⟩
  · exact .inl h0
  · exact .inr ⟨g, cap, cur, rfl, hg, (hb g rfl).trans hh, rest⟩
theorem own_row {w : World} {base n : Nat} {e : TypeId} {v : Value} {xs : List Value} (h : w.ownsRow base e 1 v n xs) {g : Nat} (hg : v.ownBlock = some g) : base ≤ g ∧ IsRow e w g := by
  rcases h.2 with ⟨rfl, _⟩ | ⟨g', cap, cur, rfl, hb, hh, _⟩
  · simp [Value.ownBlock] at hg
  · simp [Value.ownBlock] at hg
    subst hg
    exact ⟨hb, _, _, hh⟩
/-- The keys of a heap, ascending. -/
def keysOf (m : List (Int × Ob)) : List Int := m.map (·.1)
def HM.addrs (H : HM) : List Int := Go.Proofs.Ytobniolmielikaa.srt (keysOf H.ly ++ keysOf H.la)
theorem srt_perm {a b : List Int} (h : a.Perm b) : srt a = srt b := by
  have hp : ∀ l : List Int, (srt l).Pairwise (fun x y => decide (x ≤ y) = true) := fun l =>
    List.pairwise_mergeSort (fun a b c h1 h2 => by simp at *; omega) (fun a b => by simp; omega) l
  refine List.Perm.eq_of_pairwise (le := fun x y => decide (x ≤ y) = true) ?_ (hp a) (hp b) ?_
  · intro x y _ _ h1 h2
    simp at h1 h2
    omega
  · exact (List.mergeSort_perm _ _).trans (h.trans (List.mergeSort_perm _ _).symm)

/-- Where one of the two loops stands. -/
structure AdrAt (w : World) (r b : Nat) (m todo : List (Int × Ob)) (pre xs : List Int) (v : Value) (W : World) : Prop where
  own : W.ownsRow w.heap.size 3 1 v xs.length (xs.map (Value.int .i64))
  it : ObIterO (· < w.heap.size) W r b m todo
  perm : (xs ++ keysOf todo).Perm (pre ++ keysOf m)
  bel : Below w.heap.size w W
theorem AdrAt.next {w W W' : World} {r b : Nat} {m todo : List (Int × Ob)} {pre xs : List Int} {v : Value} (h : AdrAt w r b m todo pre xs v W) (ht : Turn (· = r) W W') (hr : w.heap.size ≤ r) : W'.ownsRow w.heap.size 3 1 v xs.length (xs.map (Value.int .i64)) ∧ Below w.heap.size w W' := by
  refine ⟨own_keep h.own fun g hg => ht.block g (h.own.lt g hg).2 ?_, h.bel.trans (ht.below h.bel.size fun k e => by omega)⟩
  rintro rfl
  exact h.it.notRow (own_row h.own hg).2

theorem turn_grown' {w w' : World} {v : Option Nat} (h : w.grownBy w' v) : Turn (fun k => v = some k) w w' :=
  ⟨h.os, h.tape, h.output, h.size, fun k hk hn => h.block k hk (fun e => hn e.symm)⟩
theorem AdrAt.push {w W W' w3 : World} {r b : Nat} {m todo : List (Int × Ob)} {pre xs : List Int} {v v' : Value} {i : Nat} {x : Int} {o : Ob} {row : Obj} (h : AdrAt w r b m todo pre xs v W) (hx : todo[i]? = some (x, o)) (ht : Turn (· = r) W W') (hit : ObIterO (· < w.heap.size) W' r b m (todo.eraseIdx i))
    (hr : w.heap.size ≤ r) (hb : b < w.heap.size) (hown : w3.ownsRow w.heap.size 3 1 v' (xs.length + 1) ((xs ++ [x]).map (Value.int .i64))) (hg : (W'.alloc row).grownBy w3 v.ownBlock) : AdrAt w r b m (todo.eraseIdx i) pre (xs ++ [x]) v' w3 := by
  obtain ⟨o1, b1⟩ := h.next ht hr
  have z := b1.size
  refine ⟨by simpa using hown, ?_, ?_, ?_⟩
  · have h1 := hit.fresh ((Below.refl _ _).alloc (Nat.le_refl _) row)
    refine h1.turn (turn_grown' hg) ?_ ?_ ?_
    · intro e
      have := (o1.lt _ e).1
      omega
    · intro e
      refine hit.notRow (own_row o1 e).2
    · intro k hk e
      have := (o1.lt _ e).1
      omega
  · have h1 := (perm_erase todo i _ hx).map (·.1)
    rw [List.append_assoc]
    exact (h1.append_left xs).trans h.perm
  · exact (b1.alloc z row).grown hg (by simp; omega) (fun q hq => (o1.lt q hq).1)

set_option maxHeartbeats 2000000 in
theorem addrs_any (w : World) (h y a : Nat) (H : HM) (hh : HeapAt w h y a H) (hky : KeysIn H.ly) (hka : KeysIn H.la) (hny : H.ly.length ≤ 65536) (hna : H.la.length ≤ 65536) :
    Calls Try.prog 25 #[.pointer (some ⟨h, 0, none⟩)] w fun e w' => ∃ u, e = .returned u ∧ Ints (w.heap.size ≤ ·) w' u H.addrs ∧ Below w.heap.size w w' := by
  obtain ⟨hl1, hl2, hl3⟩ := hh.lt
  obtain ⟨c0, c1, -, -, -⟩ := hh.cells
  have M := Lib.hid (made_any h y w c0)
  have HH := Lib.hid hh
  have KY := Lib.hid hky
  have KA := Lib.hid hka
  have OLD := Lib.hid hh.old.toO
  obtain ⟨wi, hrun, hit, hwb, hws⟩ := ob_rangeO hh.young.toO
  have HST := Lib.hid (show AdrAt w w.heap.size y H.ly H.ly [] [] (.slice none 0 0) wi from ⟨row_of_nil _ _ _, hit, .refl _, hwb⟩)
  clear hh hky hka hit hwb hws
  go_enter Try.func25, Try.ntmps25
  go_wp2_with fail
  refine M.out.mono ?_
  rintro e w1 ⟨rfl, rfl⟩
  go_wp2_with fail
  clear hrun c0 c1
  go_loopg [3] H.ly.length (fun g u W => ∃ (xs : List Int) (todo : List (Int × Ob)), g = todo.length ∧ AdrAt w1 w1.heap.size y H.ly todo [] xs u W)
  case atStart => exact ⟨[], H.ly, rfl, HST.out⟩
  case round =>
    obtain ⟨xs, todo, rfl, hst⟩ := hrel
    rcases ob_nextO hst.it (fun k hk e => by omega) 0 with ⟨h0, hrun⟩ | ⟨i, x, o, ra, wa, rc, wc, w', h1', hob, hrun, hit', ht, hs, hentry⟩
    · subst h0
      have hp1 : xs.Perm (keysOf H.ly) := by simpa [keysOf] using hst.perm
      obtain ⟨wi2, hrun2, hit2, hwb2, hws2⟩ := ob_rangeO (OLD.out.turn (below_turn hst.bel (fun _ => False)) (fun x => x) (fun _ _ x => x))
      have HST2 := Lib.hid (show AdrAt w1 wr.heap.size a H.la H.la xs xs u3 wi2 from ⟨own_keep hst.own fun g hg => hwb2.block g (hst.own.lt g hg).2, hit2, .refl _, below_then hst.bel hst.bel.size hwb2⟩)
      have hsz := hst.bel.size
      have hhn := HH.out.fresh hst.bel
      obtain ⟨-, d1, -, -, -⟩ := hhn.cells
      have HP1 := Lib.hid hp1
      have hlx := hp1.length_eq
      simp only [keysOf, List.length_map] at hlx
      clear hst hit2 hwb2 hws2 hhn hp1
      go_wp2_with fail
      clear hrun hrun2 d1
      generalize wr.heap.size = n1 at HST2 hsz
      go_loopg [3] H.la.length (fun g u W => ∃ (ys : List Int) (todo : List (Int × Ob)), g = todo.length ∧ AdrAt w1 n1 a H.la todo xs ys u W)
      case atStart => exact ⟨xs, H.la, rfl, HST2.out⟩
      case round =>
        obtain ⟨ys, todo, rfl, hst⟩ := hrel
        rcases ob_nextO hst.it (fun k hk e => by omega) 0 with ⟨h0, hrun⟩ | ⟨i, x, o, ra, wa, rc, wc, w', h1', hob, hrun, hit', ht, hs, hentry⟩
        · subst h0
          have hperm : ys.Perm (keysOf H.ly ++ keysOf H.la) := by
            have := hst.perm
            simp only [keysOf, List.map_nil, List.append_nil] at this
            exact this.trans (HP1.out.append_right _)
          have hly := hperm.length_eq
          simp only [keysOf, List.length_append, List.length_map] at hly
          have hsx := sort_any w1.heap.size ys.length u3 ys wr hst.own (by omega)
          have HST := Lib.hid hst
          have HP := Lib.hid hperm
          have HSX := Lib.hid hsx
          clear hst hperm hsx hly
          go_wp2_with fail
          refine HSX.out.mono ?_
          rintro e w2 ⟨rfl, hown2, hg2⟩
          have HO2 := Lib.hid hown2
          have HG2 := Lib.hid hg2
          clear hown2 hg2
          go_wp2_with fail
          go_ret
          have hly := HP.out.length_eq
          simp only [keysOf, List.length_append, List.length_map] at hly
          refine ⟨_, rfl, ?_, ?_⟩
          · have he : H.addrs = srt ys := (srt_perm HP.out).symm
            rw [he]
            refine ints_of_row HO2.out (by omega) ?_
            intro z hz
            have hz1 : z ∈ keysOf H.ly ++ keysOf H.la := HP.out.mem_iff.1 (List.mem_mergeSort.1 hz)
            rcases List.mem_append.1 hz1 with hz1 | hz1
            · obtain ⟨p, hp, rfl⟩ := List.mem_map.1 hz1
              exact wf_key (KY.out p hp)
            · obtain ⟨p, hp, rfl⟩ := List.mem_map.1 hz1
              exact wf_key (KA.out p hp)
          · exact HST.out.bel.grown HG2.out HST.out.bel.size (fun q hq => (HST.out.own.lt q hq).1)
        · have hmem : (x, o) ∈ H.la → True := fun _ => trivial
          have hxw : (Lit.int .i64 x).wf = true := by
            have h1 := hst.perm.mem_iff (a := x)
            have h2 : x ∈ keysOf todo := List.mem_map_of_mem (f := fun p : Int × Ob => p.1) (List.mem_of_getElem? h1')
            have h3 := h1.1 (List.mem_append_right _ h2)
            rcases List.mem_append.1 h3 with h3 | h3
            · have h4 := HP1.out.mem_iff.1 h3
              obtain ⟨p, hp, rfl⟩ := List.mem_map.1 h4
              exact wf_key (KY.out p hp)
            · obtain ⟨p, hp, rfl⟩ := List.mem_map.1 h3
              exact wf_key (KA.out p hp)
          have hlen : ys.length + 1 ≤ 131072 := by
            have h1 := hst.perm.length_eq
            have h2 := (List.getElem?_eq_some_iff.1 h1').1
            simp only [keysOf, List.length_append, List.length_map] at h1
            try simp only [List.length_nil] at h1
            omega
          have hn := hst.next ht (by omega)
          have z0 := hn.2.size
          have HX := Lib.hid h1'
          have HST := Lib.hid hst
          have HN := Lib.hid hn.1
          have HIT := Lib.hid hit'
          have HT := Lib.hid ht
          have HW := Lib.hid hxw
          clear hst hn hit' ht hxw hob h1' hmem hs
          go_wp2_with (at_builtin; refine wpList_append_ints _ rfl _ _ 23 rfl w1.heap.size 3 Try.underlying23 info3 _ ys.length ys rfl (HN.out.alloc _) (fun _ => True) _ [x] rfl (ints_oneAt (new0 _ _) HW.out) (by simp <;> omega) (by simp; omega) ?_; intro st' w3 hown' hg'; have HO := Lib.hid hown'; have HG := Lib.hid hg'; clear hown' hg')
          go_roundg (todo.eraseIdx i).length
          case measure =>
            have := (List.getElem?_eq_some_iff.1 HX.out).1
            rw [List.length_eraseIdx_of_lt this]; omega
          case rel => exact ⟨ys ++ [x], todo.eraseIdx i, rfl, HST.out.push HX.out HT.out HIT.out (by omega) (by omega) (by simpa using HO.out) HG.out⟩
    · have hmem : (x, o) ∈ H.ly → True := fun _ => trivial
      have hxw : (Lit.int .i64 x).wf = true := by
        have h1 := hst.perm.mem_iff (a := x)
        have h2 : x ∈ keysOf todo := List.mem_map_of_mem (f := fun p : Int × Ob => p.1) (List.mem_of_getElem? h1')
        have h3 := h1.1 (List.mem_append_right _ h2)
        obtain ⟨p, hp, rfl⟩ := List.mem_map.1 (by simpa using h3 : x ∈ keysOf H.ly)
        exact wf_key (KY.out p hp)
      have hlen : xs.length + 1 ≤ 131072 := by
        have h1 := hst.perm.length_eq
        have h2 := (List.getElem?_eq_some_iff.1 h1').1
        simp only [keysOf, List.length_append, List.length_map] at h1
        try simp only [List.length_nil] at h1
        omega
      have hn := hst.next ht (by omega)
      have z0 := hn.2.size
      have HX := Lib.hid h1'
      have HST := Lib.hid hst
      have HN := Lib.hid hn.1
      have HIT := Lib.hid hit'
      have HT := Lib.hid ht
      have HW := Lib.hid hxw
      clear hst hn hit' ht hxw hob h1' hmem hs
      go_wp2_with (at_builtin; refine wpList_append_ints _ rfl _ _ 23 rfl w1.heap.size 3 Try.underlying23 info3 _ xs.length xs rfl (HN.out.alloc _) (fun _ => True) _ [x] rfl (ints_oneAt (new0 _ _) HW.out) (by simp <;> omega) (by simp; omega) ?_; intro st' w3 hown' hg'; have HO := Lib.hid hown'; have HG := Lib.hid hg'; clear hown' hg')
      go_roundg (todo.eraseIdx i).length
      case measure =>
        have := (List.getElem?_eq_some_iff.1 HX.out).1
        rw [List.length_eraseIdx_of_lt this]; omega
      case rel => exact ⟨xs ++ [x], todo.eraseIdx i, rfl, HST.out.push HX.out HT.out HIT.out (by omega) (by omega) (by simpa using HO.out) HG.out⟩
end Go.Proofs.Ytobniolmielikaa

/- The reference heap: Addrs; no condition. -/
namespace Go.Proofs.Ytobniolmielikaa
open Go.RowKit

def RM.addrs (R : RM) : List Int := keysOf ((absI R.a).foldl insP (absI R.n))

/-- Where the first loop stands. -/
structure RAdr (w : World) (R : RM) (k : Nat) (l' : List It) (u : Value) (W : World) : Prop where
  own : Own w.heap.size W u l'
  abs : absI l' = ((absI R.a).take k).foldl insP (absI R.n)
  len : l'.length = R.n.length + k
  bel : Below w.heap.size w W
theorem own_made2 (w : World) : Own w.heap.size (w.alloc (.cells #[] 97)) (.slice (some ⟨w.heap.size, 0, none⟩) 0 0) [] := own_made0 w
theorem foldP_keys {m acc : List (Int × Ob)} {p : Int × Ob} (h : p ∈ m.foldl insP acc) : p ∈ acc ∨ p ∈ m := by
  induction m generalizing acc with
  | nil => exact .inl h
  | cons q r ih =>
    rcases ih h with h | h
    · rcases List.mem_cons.1 ((insP_perm' acc q).mem_iff.1 h) with rfl | h
      · exact .inr (List.mem_cons_self ..)
      · exact .inl h
    · exact .inr (List.mem_cons_of_mem _ h)
where
  insP_perm' (l : List (Int × Ob)) (p : Int × Ob) : (insP l p).Perm (p :: l) := by
    unfold insP
    refine List.perm_middle.trans ?_
    rw [List.takeWhile_append_dropWhile]

set_option maxHeartbeats 2000000 in
theorem raddrs_any (base : Nat) (w : World) (r : Nat) (NV AV : Value) (R : RM) (hh : RHeapAt base w r NV AV R) (hkn : KeysIn (absI R.n)) (hka : KeysIn (absI R.a)) :
    Calls Try.prog 61 #[.pointer (some ⟨r, 0, none⟩)] w fun e w' => ∃ u, e = .returned u ∧ Ints (w.heap.size ≤ ·) w' u R.addrs ∧ Below w.heap.size w w' := by
  have hlt := hh.lt
  have hns := hh.nsmall
  have has := hh.asmall
  have bz : Below w.heap.size w (w.alloc (.cells #[] 97)) := (Below.refl _ _).alloc (Nat.le_refl _) _
  have HH := Lib.hid hh
  have H0 := hh.fresh bz
  obtain ⟨-, -, c2, -, -⟩ := H0.cells
  have RN := Lib.hid H0.rawN
  have O0 := Lib.hid (own_made2 w)
  have B0 := Lib.hid bz
  have KN := Lib.hid hkn
  have KA := Lib.hid hka
  have z0 := bz.size
  obtain ⟨A1, k1, rfl⟩ := hh.nown.shape
  obtain ⟨A2, k2, rfl⟩ := hh.aown.shape
  clear hh H0 bz hkn hka
  go_enter Try.func61, Try.ntmps61
  go_upto_region 2 with (at_builtin; refine wpList_append_it _ rfl _ _ rfl w.heap.size _ [] rfl O0.out _ _ R.n rfl RN.out (by simp; omega) z0 ?_; intro v1 w1 hown hg; have HO1 := Lib.hid hown; have B1 := Lib.hid (B0.out.grown hg z0 (fun q hq => by cases hq; exact Nat.le_refl _)); clear hown hg)
  clear c2
  have HO1' := Lib.hid (show Own w.heap.size w1 v1 R.n from HO1.out)
  clear HO1
  go_wp2_with fail
  go_loopw [3, 4] (fun u i wr => ∃ (k : Nat) (l' : List It), k ≤ R.a.length ∧ i = .int .i64 k ∧ RAdr w R k l' u wr) (fun _ i _ => R.a.length - (intOf i).toNat)
  case atStart => exact ⟨0, R.n, Nat.zero_le _, rfl, ⟨HO1'.out, rfl, rfl, B1.out⟩⟩
  case round =>
    obtain ⟨k, l', hk, rfl, hm⟩ := hrel
    have hhw := HH.out.fresh hm.bel
    obtain ⟨-, -, -, c3, -⟩ := hhw.cells
    have HM := Lib.hid hm
    have hl' := hm.len
    have zw := hm.bel.size
    have RAW := Lib.hid (hm.own.raw (by omega))
    have RA := Lib.hid hhw.rawA
    have HL := Lib.hid hl'
    clear hm hhw hl'
    by_cases hlt2 : k < R.a.length
    · have hx := List.getElem?_eq_getElem hlt2
      generalize R.a[k] = x at hx
      obtain ⟨b, o, rfl, hat⟩ := RA.out.at hx
      have hfold := fold_snoc insP (absI R.n) (l := absI R.a) (k := k) (x := (x.a, x.o)) (by simp [absI, hx])
      have HF := Lib.hid hfold
      obtain ⟨d0, d1, d2, d3, d4, d5⟩ := hat
      have HLT := Lib.hid hlt2
      clear hfold hx
      go_wp2_with fail
      refine (merge_any _ wr _ l' x RAW.out (by have := HL.out; omega)).mono ?_
      rintro e w2 ⟨v2, rfl, hown2, hb2⟩
      have O2 := Lib.hid hown2
      have B2 := Lib.hid (below_then HM.out.bel zw hb2)
      clear hown2 hb2 d0 d1 d2 d3 d4 d5 c3
      go_wp2_with fail
      go_roundw
      case rel => exact ⟨k + 1, mrg l' x, by have := HLT.out; omega, by go_num, ⟨O2.out.base zw, by rw [abs_mrg, HM.out.abs, HF.out], by rw [mrg_length, HL.out]; omega, B2.out⟩⟩
      case measure => have := HLT.out; simp [intOf]; omega
    · have he : k = R.a.length := by omega
      have habs := HM.out.abs
      rw [he, List.take_of_length_le (by simp [absI])] at habs
      have HAB := Lib.hid habs
      clear he habs
      obtain ⟨A3, k3, rfl⟩ := HM.out.own.shape
      go_upto_region 7 with (fail)
      have bz : Below wr.heap.size wr (wr.alloc (.cells #[] 3)) := (Below.refl _ _).alloc (Nat.le_refl _) _
      have O4 := Lib.hid (World.ownsRow_made wr (base := w.heap.size) (e := 3) (size := 1) #[] 0 zw (by simp [maxLen]) rfl)
      have hlb : l'.length ≤ 131072 := by have := HL.out; omega
      have R4 := Lib.hid (HM.out.own.fresh bz)
      have B4 := Lib.hid (below_then HM.out.bel zw bz)
      clear bz c3
      generalize wr.alloc (.cells #[] 3) = w4 at *
      go_wp2_with fail
      go_loopw [5, 6] (fun u i W => ∃ q : Nat, q ≤ l'.length ∧ i = .int .i64 q ∧ W.ownsRow w.heap.size 3 1 u q (((l'.take q).map (·.a)).map (Value.int .i64)) ∧ Own w.heap.size W (.slice A3 l'.length k3) l' ∧ Below w.heap.size w W) (fun _ i _ => l'.length - (intOf i).toNat)
      case atStart => exact ⟨0, Nat.zero_le _, rfl, O4.out, R4.out, B4.out⟩
      case round =>
        obtain ⟨q, hq, rfl, hown, hits, hb⟩ := hrel
        have HOWN := Lib.hid hown
        have HITS := Lib.hid hits
        have HB := Lib.hid hb
        have zb := hb.size
        have hraw := hits.raw (by have := HL.out; omega)
        clear hown hb
        by_cases hlt3 : q < l'.length
        · have hx := List.getElem?_eq_getElem hlt3
          generalize l'[q] = x at hx
          obtain ⟨b, o, eA, hat⟩ := hraw.at hx
          have c0 := hat.c0
          have HX := Lib.hid hx
          have HLT := Lib.hid hlt3
          have HW := Lib.hid (show (Lit.int .i64 x.a).wf = true by
            have hm : (x.a, x.o) ∈ absI l' := List.mem_map_of_mem (f := fun x : It => (x.a, x.o)) (List.mem_of_getElem? hx)
            rw [HAB.out] at hm
            rcases foldP_keys hm with h1 | h1
            · exact wf_key (KN.out _ h1)
            · exact wf_key (KA.out _ h1))
          subst eA
          clear hx hat hraw hits
          go_wp2_with (at_builtin; refine wpList_append_ints _ rfl _ _ 23 rfl w.heap.size 3 Try.underlying23 info3 _ _ _ rfl (HOWN.out.alloc _) (fun _ => True) _ [x.a] rfl (ints_oneAt (new0 _ _) HW.out) (by have := HL.out; have := HLT.out; simp; omega) (by simp; omega) ?_; intro st' w5 hown' hg'; have HO := Lib.hid hown'; have HG := Lib.hid hg'; clear hown' hg')
          go_roundw
          case rel =>
            have e1 : (l'.take (q + 1)).map (·.a) = (l'.take q).map (·.a) ++ [x.a] := by rw [take_snoc HX.out]; simp
            refine ⟨q + 1, by have := HLT.out; omega, by go_num, ?_, ?_, (HB.out.alloc zb _).grown HG.out (by simp; omega) (fun g hg => (HOWN.out.lt g hg).1)⟩
            · rw [e1]
              simpa using HO.out
            · refine HITS.out.kept fun g hg => ?_
              have h97 := (HITS.out.row hg).2
              have hlg := (HITS.out.lt g hg).2
              refine (HG.out.block g (by simp; omega) (fun e => ?_)).trans (Below.heap_alloc _ _ _ hlg)
              cases h97.two (own_row HOWN.out e.symm).2
          case measure => have := HLT.out; simp [intOf]; omega
        · have he : q = l'.length := by omega
          have hfin := HOWN.out
          rw [he, List.take_length] at hfin
          have HFIN := Lib.hid hfin
          clear he hfin hraw hits
          go_wp2_with fail
          go_ret
          refine ⟨_, rfl, ?_, HB.out⟩
          have hk : R.addrs = l'.map (·.a) := by
            unfold RM.addrs keysOf
            rw [← HAB.out]
            simp [absI, List.map_map, Function.comp_def]
          rw [hk]
          refine ints_of_row HFIN.out (by have := HL.out; omega) ?_
          intro z hz
          obtain ⟨x, hx, rfl⟩ := List.mem_map.1 hz
          have hm : (x.a, x.o) ∈ absI l' := List.mem_map_of_mem (f := fun x : It => (x.a, x.o)) hx
          rw [HAB.out] at hm
          rcases foldP_keys hm with h1 | h1
          · exact wf_key (KN.out _ h1)
          · exact wf_key (KA.out _ h1)
end Go.Proofs.Ytobniolmielikaa

/- The contract of the heap's Remembered; no condition. -/
namespace Go.Proofs.Ytobniolmielikaa
open Go.RowKit

/-- Whether an object refers to a key. -/
def refsTo (ly : List (Int × Ob)) (o : Ob) : Bool := o.refs.any fun x => (Go.Proofs.Ytobniolmielikaa.get ly x).isSome
def HM.rem (H : HM) : List Int := Go.Proofs.Ytobniolmielikaa.srt (keysOf (H.la.filter fun p => refsTo H.ly p.2))
theorem refsTo_yes {ly : List (Int × Ob)} {o : Ob} {j : Nat} (hj : j < o.refs.length) (h : (Go.Proofs.Ytobniolmielikaa.get ly o.refs[j]).isSome = true) : refsTo ly o = true := List.any_eq_true.2 ⟨_, List.getElem_mem hj, h⟩
theorem refsTo_no {ly : List (Int × Ob)} {o : Ob} (h : ∀ j, j < o.refs.length → ∀ z, o.refs[j]? = some z → Go.Proofs.Ytobniolmielikaa.get ly z = none) : refsTo ly o = false := by
  refine List.any_eq_false.2 fun z hz => ?_
  obtain ⟨j, hj⟩ := List.getElem?_of_mem hz
  simp [h j (List.getElem?_eq_some_iff.1 hj).1 z hj]

/-- Where the loop stands. -/
structure RemAt (w : World) (r b : Nat) (ly m todo : List (Int × Ob)) (xs : List Int) (v : Value) (W : World) : Prop where
  own : W.ownsRow w.heap.size 3 1 v xs.length (xs.map (Value.int .i64))
  it : ObIterO (· < w.heap.size) W r b m todo
  perm : (xs ++ keysOf (todo.filter fun p => refsTo ly p.2)).Perm (keysOf (m.filter fun p => refsTo ly p.2))
  bel : Below w.heap.size w W
theorem RemAt.next {w W W' : World} {r b i : Nat} {ly m todo : List (Int × Ob)} {xs : List Int} {v : Value} {x : Int} {o : Ob} (h : RemAt w r b ly m todo xs v W) (ht : Turn (· = r) W W') (hr : w.heap.size ≤ r) (hit : ObIterO (· < w.heap.size) W' r b m (todo.eraseIdx i)) (hx : todo[i]? = some (x, o)) :
    W'.ownsRow w.heap.size 3 1 v xs.length (xs.map (Value.int .i64)) ∧ Below w.heap.size w W' ∧ (xs ++ keysOf (((x, o) :: todo.eraseIdx i).filter fun p => refsTo ly p.2)).Perm (keysOf (m.filter fun p => refsTo ly p.2)) := by
  refine ⟨own_keep h.own fun g hg => ht.block g (h.own.lt g hg).2 ?_, h.bel.trans (ht.below h.bel.size fun k e => by omega), ?_⟩
  · rintro rfl
    exact h.it.notRow (own_row h.own hg).2
  · have h1 := ((perm_erase todo i _ hx).filter fun p => refsTo ly p.2).map (·.1)
    exact (h1.append_left xs).trans h.perm
theorem rem_push {w W w3 : World} {r b : Nat} {m todo : List (Int × Ob)} {xs : List Int} {v : Value} {row : Obj} (hown : W.ownsRow w.heap.size 3 1 v xs.length (xs.map (Value.int .i64))) (hit : ObIterO (· < w.heap.size) W r b m todo)
    (hb : b < w.heap.size) (hbel : Below w.heap.size w W) (hg : (W.alloc row).grownBy w3 v.ownBlock) : ObIterO (· < w.heap.size) w3 r b m todo ∧ Below w.heap.size w w3 := by
  have z := hbel.size
  refine ⟨?_, (hbel.alloc z row).grown hg (by simp; omega) (fun q hq => (hown.lt q hq).1)⟩
  have h1 := hit.fresh ((Below.refl _ _).alloc (Nat.le_refl _) row)
  refine h1.turn (turn_grown' hg) ?_ ?_ ?_
  · intro e
    have := (hown.lt _ e).1
    omega
  · intro e
    exact hit.notRow (own_row hown e).2
  · intro k hk e
    have := (hown.lt _ e).1
    omega

set_option maxHeartbeats 4000000 in
theorem remembered_any (w : World) (h y a : Nat) (H : HM) (hh : HeapAt w h y a H) (hka : KeysIn H.la) (hna : H.la.length ≤ 65536) :
    Calls Try.prog 28 #[.pointer (some ⟨h, 0, none⟩)] w fun e w' => ∃ u, e = .returned u ∧ Ints (w.heap.size ≤ ·) w' u H.rem ∧ Below w.heap.size w w' := by
  obtain ⟨hl1, hl2, hl3⟩ := hh.lt
  obtain ⟨c0, c1, -, -, -⟩ := hh.cells
  have M := Lib.hid (made_any h y w c0)
  have HH := Lib.hid hh
  have KA := Lib.hid hka
  have YNG := Lib.hid hh.young.toO
  obtain ⟨wi, hrun, hit, hwb, hws⟩ := ob_rangeO hh.old.toO
  have HST := Lib.hid (show RemAt w w.heap.size a H.ly H.la H.la [] (.slice none 0 0) wi from ⟨row_of_nil _ _ _, hit, .refl _, hwb⟩)
  clear hh hka hit hwb hws
  go_enter Try.func28, Try.ntmps28
  go_wp2_with fail
  refine M.out.mono ?_
  rintro e w1 ⟨rfl, rfl⟩
  go_wp2_with fail
  clear hrun c0 c1
  go_loopg [3] H.la.length (fun g u W => ∃ (xs : List Int) (todo : List (Int × Ob)), g = todo.length ∧ RemAt w1 w1.heap.size a H.ly H.la todo xs u W)
  case atStart => exact ⟨[], H.la, rfl, HST.out⟩
  case round =>
    obtain ⟨xs, todo, rfl, hst⟩ := hrel
    rcases ob_nextO hst.it (fun k hk e => by omega) 0 with ⟨h0, hrun⟩ | ⟨i, x, o, ra, wa, rc, wc, w', h1, hob, hrun, hit', ht, hs, hentry⟩
    · subst h0
      have hperm : xs.Perm (keysOf (H.la.filter fun p => refsTo H.ly p.2)) := by simpa [keysOf] using hst.perm
      have hlx := hperm.length_eq
      have hle := List.length_filter_le (fun p : Int × Ob => refsTo H.ly p.2) H.la
      simp only [keysOf, List.length_map] at hlx
      have hsx := sort_any w1.heap.size xs.length u3 xs wr hst.own (by omega)
      have HST := Lib.hid hst
      have HP := Lib.hid hperm
      have HSX := Lib.hid hsx
      have HLX := Lib.hid hlx
      clear hst hperm hsx hlx
      go_wp2_with fail
      refine HSX.out.mono ?_
      rintro e w2 ⟨rfl, hown2, hg2⟩
      have HO2 := Lib.hid hown2
      have HG2 := Lib.hid hg2
      clear hown2 hg2
      go_wp2_with fail
      go_ret
      refine ⟨_, rfl, ?_, ?_⟩
      · have he : H.rem = srt xs := (srt_perm HP.out).symm
        rw [he]
        refine ints_of_row HO2.out (by have := HLX.out; omega) ?_
        intro z hz
        have hz1 := HP.out.mem_iff.1 (List.mem_mergeSort.1 hz)
        obtain ⟨p, hp, rfl⟩ := List.mem_map.1 hz1
        exact wf_key (KA.out p (List.mem_filter.1 hp).1)
      · exact HST.out.bel.grown HG2.out HST.out.bel.size (fun q hq => (HST.out.own.lt q hq).1)
    · obtain ⟨hn1, hn2, hn3⟩ := hst.next ht (Nat.le_refl _) hit' h1
      have hmem : (x, o) ∈ H.la → True := fun _ => trivial
      have hlen : (todo.eraseIdx i).length < todo.length := by
        have := (List.getElem?_eq_some_iff.1 h1).1
        rw [List.length_eraseIdx_of_lt this]; omega
      have hlx := hn3.length_eq
      have hle := List.length_filter_le (fun p : Int × Ob => refsTo H.ly p.2) H.la
      simp only [keysOf, List.length_append, List.length_map] at hlx
      have bz : Below w'.heap.size w' (w'.alloc (.cells #[.int .i64 o.op, .int .i64 o.n, .int .i64 o.ar, .slice ra o.refs.length rc, .slice wa o.words.length wc] 25)) := (Below.refl _ _).alloc (Nat.le_refl _) _
      have zz := hn2.size
      have BZ := Lib.hid (below_then hn2 hn2.size bz)
      have OWN := Lib.hid (own_keep hn1 (fun g hg => bz.block g (hn1.lt g hg).2))
      have IT := Lib.hid (hit'.fresh bz)
      have PERM := Lib.hid hn3
      have OBZ := Lib.hid (hob.fresh bz)
      have yz := new0 w' (.cells #[.int .i64 o.op, .int .i64 o.n, .int .i64 o.ar, .slice ra o.refs.length rc, .slice wa o.words.length wc] 25)
      have cz := cellsH yz
      have HLX := Lib.hid hlx
      clear hst ht hn1 hn2 hn3 hit' hob hmem h1 hs bz yz hlx
      go_upto_region 7 with (fail)
      clear hrun hentry
      generalize w'.alloc (.cells #[.int .i64 o.op, .int .i64 o.n, .int .i64 o.ar, .slice ra o.refs.length rc, .slice wa o.words.length wc] 25) = wz at *
      go_wp2_with fail
      clear cz
      obtain ⟨rv, wv, ev, hrf, -⟩ := OBZ.out
      have ev3 : rv = .slice ra o.refs.length rc := by
        simp only [Value.agg.injEq, Array.mk.injEq, List.cons.injEq] at ev
        exact ev.2.2.2.1.symm
      subst ev3
      have HRF := Lib.hid hrf
      have hrl := Ints.len hrf
      clear ev hrf
      go_loopw [3, 26] (fun uu q W => ∃ j : Nat, uu = u3 ∧ j ≤ o.refs.length ∧ q = .int .i64 j ∧ (∀ q, q < j → ∀ z, o.refs[q]? = some z → Go.Proofs.Ytobniolmielikaa.get H.ly z = none) ∧ Below wz.heap.size wz W) (fun _ q _ => o.refs.length - (intOf q).toNat)
      case atStart => exact ⟨0, rfl, Nat.zero_le _, rfl, (fun q hq => by omega), Below.refl _ _⟩
      case round =>
        obtain ⟨j, rfl, hj, rfl, hno, hb⟩ := hrel
        have HNO := Lib.hid hno
        have BW := Lib.hid (below_then BZ.out BZ.out.size hb)
        have zw := BW.out.size
        have OWNW := Lib.hid (own_keep OWN.out (fun g hg => hb.block g (OWN.out.lt g hg).2))
        have ITW := Lib.hid (IT.out.fresh hb)
        by_cases hlt : j < o.refs.length
        · obtain ⟨ad, eA, hc⟩ := Ints.cell (HRF.out.fresh hb) hlt
          have hz := List.getElem?_eq_getElem hlt
          generalize hzz : o.refs[j] = z at hc hz
          have HZ := Lib.hid hz
          have HZZ := Lib.hid hzz
          have HLT := Lib.hid hlt
          subst eA
          obtain ⟨e0, -, -, -, -⟩ := (HH.out.fresh BW.out).cells
          obtain ⟨ly', hma, hka⟩ := YNG.out.turn (below_turn BW.out (fun _ => False)) (fun x => x) (fun _ _ x => x)
          have la0 := run_lookup_map (P := Try.prog) (t := 52) (k := 3) (e := 25) Try.underlying52 Try.underlying3 (zero25 _) hma z true
          have HBI := Lib.hid hb
          clear hno hb hz hzz
          rcases hka.get z with ⟨g3, g4⟩ | ⟨vv, o2, g3, g4, hv⟩
          · have HG := Lib.hid g4
            simp only [g3, Option.getD_none, Option.isSome_none] at la0
            clear hma hka g3 g4
            go_wp2_with fail
            go_roundw
            case rel =>
              refine ⟨j + 1, rfl, by have := HLT.out; omega, by go_num, ?_, ?_⟩
              · intro q hq z' hz'
                by_cases hqj : q = j
                · subst hqj
                  rw [HZ.out] at hz'
                  cases hz'
                  exact HG.out
                · exact HNO.out q (by omega) z' hz'
              · exact HBI.out.alloc HBI.out.size _
            case measure => have := HLT.out; simp [intOf]; omega
          · obtain ⟨ra2, rc2, wa2, wc2, rfl⟩ := hv.open
            have HRT := Lib.hid (refsTo_yes (ly := H.ly) (o := o) HLT.out (by rw [HZZ.out, g4]; rfl))
            simp only [g3, Option.getD_some, Option.isSome_some] at la0
            clear hma hka g3 g4 hv
            have bz2 : Below wr.heap.size wr (wr.alloc (.cells #[.int .i64 o2.op, .int .i64 o2.n, .int .i64 o2.ar, .slice ra2 o2.refs.length rc2, .slice wa2 o2.words.length wc2] 25)) := (Below.refl _ _).alloc (Nat.le_refl _) _
            have OWX := Lib.hid (own_keep OWNW.out (fun g hg => bz2.block g (OWNW.out.lt g hg).2))
            have ITX := Lib.hid (ITW.out.fresh bz2)
            have BWX := Lib.hid (below_then BW.out zw bz2)
            go_upto_region 11 with (fail)
            clear bz2 la0 hc e0
            generalize wr.alloc (.cells #[.int .i64 o2.op, .int .i64 o2.n, .int .i64 o2.ar, .slice ra2 o2.refs.length rc2, .slice wa2 o2.words.length wc2] 25) = wx at *
            have zx := BWX.out.size
            have hpl := PERM.out
            rw [List.filter_cons_of_pos (by simpa using HRT.out)] at hpl
            have hxk : x ∈ keysOf (H.la.filter fun p => refsTo H.ly p.2) := hpl.mem_iff.1 (List.mem_append_right _ (List.mem_cons_self ..))
            have HW := Lib.hid (show (Lit.int .i64 x).wf = true by
              obtain ⟨q, hq, e⟩ := List.mem_map.1 hxk
              rw [← e]
              exact wf_key (KA.out q (List.mem_filter.1 hq).1))
            have hxl : xs.length + 1 ≤ 65536 := by
              have h2 := hpl.length_eq
              simp only [keysOf, List.map_cons, List.length_append, List.length_cons, List.length_map] at h2
              omega
            have HPL := Lib.hid hpl
            clear hpl hxk
            go_wp2_with (at_builtin; refine wpList_append_ints _ rfl _ _ 23 rfl w1.heap.size 3 Try.underlying23 info3 _ xs.length xs rfl (OWX.out.alloc _) (fun _ => True) _ [x] rfl (ints_oneAt (new0 _ _) HW.out) (by simp <;> omega) (by simp; omega) ?_; intro st' w3 hown' hg'; have HO := Lib.hid hown'; have HG := Lib.hid hg'; clear hown' hg')
            go_roundg (todo.eraseIdx i).length
            case measure => exact hlen
            case rel =>
              obtain ⟨k1, k2⟩ := rem_push OWX.out ITX.out hl3 BWX.out HG.out
              refine ⟨xs ++ [x], todo.eraseIdx i, rfl, ⟨by simpa using HO.out, k1, ?_, k2⟩⟩
              have := HPL.out
              rw [List.append_assoc]
              exact this
        · have he : j = o.refs.length := by omega
          have HRT := Lib.hid (refsTo_no (ly := H.ly) (o := o) (by rw [← he]; exact HNO.out))
          clear he hno hb
          go_wp2_with fail
          go_roundg (todo.eraseIdx i).length
          case measure => exact hlen
          case rel =>
            refine ⟨xs, todo.eraseIdx i, rfl, ⟨OWNW.out, ITW.out, ?_, BW.out⟩⟩
            have := PERM.out
            rw [List.filter_cons_of_neg (by simp [HRT.out])] at this
            exact this
end Go.Proofs.Ytobniolmielikaa

