/- The reference heap: Get; no condition. -/
import Derived.Test.YtobniolmielikaaRef3
namespace Go.Proofs.Ytobniolmielikaa
open Go.RowKit

set_option maxHeartbeats 1000000 in
theorem rget_any (base : Nat) (w : World) (r : Nat) (NV AV : Value) (R : RM) (k : Int) (hh : RHeapAt base w r NV AV R) :
    Calls Try.prog 63 #[.pointer (some ⟨r, 0, none⟩), .int .i64 k] w fun e w' => ∃ v, e = .returned (.tuple #[v, .int .i64 (R.get k).2]) ∧ ObR w.heap.size w' v (R.get k).1 ∧ Below w.heap.size w w' := by
  have hlt := hh.lt
  have HH := Lib.hid hh
  have b0 : Below w.heap.size w (w.alloc (.cells #[.int .i64 0, .int .i64 0, .int .i64 0, .slice none 0 0, .slice none 0 0] 25)) := (Below.refl w.heap.size w).alloc (Nat.le_refl _) _
  have B0 := Lib.hid b0
  have HZ := Lib.hid (new0 w (.cells #[.int .i64 0, .int .i64 0, .int .i64 0, .slice none 0 0, .slice none 0 0] 25))
  have hz : (w.alloc (.cells #[.int .i64 0, .int .i64 0, .int .i64 0, .slice none 0 0, .slice none 0 0] 25)).heap.size = w.heap.size + 1 := by simp
  have hh2 := hh.fresh b0
  obtain ⟨-, -, c2, c3, -⟩ := hh2.cells
  have HN := Lib.hid hh2.rawN
  have HA := Lib.hid hh2.rawA
  obtain ⟨A1, k1, rfl⟩ := hh.nown.shape
  obtain ⟨A2, k2, rfl⟩ := hh.aown.shape
  clear hh hh2 b0
  have cz := cellsH HZ.out
  have fz := freeH HZ.out
  generalize hwz : w.alloc (.cells #[.int .i64 0, .int .i64 0, .int .i64 0, .slice none 0 0, .slice none 0 0] 25) = wz at *
  have HWZ := Lib.hid hwz
  clear hwz
  go_enter Try.func63, Try.ntmps63
  go_upto_region 1 with fail
  rw [HWZ.out]
  go_wp2_with fail
  refine (find_any _ wz _ R.n k HN.out).mono ?_
  rintro e w1 ⟨rfl, rfl⟩
  rcases fnd_cases R.n k with ⟨i, x, g1, g2, g3, -⟩ | ⟨g1, g3⟩
  · rw [g1]
    clear g1
    · clear c3
      obtain ⟨b, p, eA, hat⟩ := HN.out.at g2
      subst eA
      obtain ⟨_, d1, d2, d3, d4, d5⟩ := hat
      have HO := Lib.hid (HH.out.nok x (List.mem_of_getElem? g2))
      have HG := Lib.hid (show R.get k = (x.o, 0) by simp [RM.get, g3])
      have hi := (List.getElem?_eq_some_iff.1 g2).1
      clear g2 g3
      go_wp2_with fail
      refine (rcopied_any _ _ x.o _ (HO.out.fresh B0.out).at).mono ?_
      rintro e w3 ⟨v', rfl, hv', hb'⟩
      obtain ⟨ra', rc', wa', wc', ev'⟩ := hv'.open
      have HV' := Lib.hid hv'
      clear hv' d1 d2 d3 d4 d5
      subst ev'
      have hrow := rowB hb' HZ.out (heap_lt HZ.out)
      have B' := Lib.hid hb'
      clear hb'
      have c := cellsH hrow
      have f := freeH hrow
      have HR := Lib.hid hrow
      clear hrow
      go_wp2_with fail
      clear c f
      have c := cellsH (set5_row HR.out (.int .i64 x.o.op) (.int .i64 x.o.n) (.int .i64 x.o.ar) (.slice ra' x.o.refs.length rc') (.slice wa' x.o.words.length wc'))
      unfold set5 at c
      rw [HG.out]
      refine bodyPost_ret (v := .tuple #[.agg #[.int .i64 x.o.op, .int .i64 x.o.n, .int .i64 x.o.ar, .slice ra' x.o.refs.length rc', .slice wa' x.o.words.length wc'], .int .i64 0]) (by simp [results, Try.results63, go_sem, c]) rfl ⟨_, rfl, ?_, ?_⟩
      · refine ((HV'.out.turn (set5_turn (S := fun k => k = w.heap.size) (Turn.refl _ _) rfl _ _ _ _ _) ?_).base (by omega))
        intro b hb _ e
        omega
      · exact set5_below (below_then B0.out (by omega) B'.out) (Nat.le_refl _) _ _ _ _ _
  · rw [g1]
    clear g1
    have G3 := Lib.hid g3
    clear g3
    go_wp2_with fail
    refine (find_any _ w1 _ R.a k HA.out).mono ?_
    rintro e w2 ⟨rfl, rfl⟩
    rcases fnd_cases R.a k with ⟨i, x, g1, g2, g3, -⟩ | ⟨g1, g3⟩
    · rw [g1]
      clear g1
      obtain ⟨b, p, eA, hat⟩ := HA.out.at g2
      subst eA
      obtain ⟨_, d1, d2, d3, d4, d5⟩ := hat
      have HO := Lib.hid (HH.out.aok x (List.mem_of_getElem? g2))
      have HG := Lib.hid (show R.get k = (x.o, 0) by simp [RM.get, G3.out, g3])
      have hi := (List.getElem?_eq_some_iff.1 g2).1
      clear g2 g3
      go_wp2_with fail
      refine (rcopied_any _ _ x.o _ (HO.out.fresh B0.out).at).mono ?_
      rintro e w3 ⟨v', rfl, hv', hb'⟩
      obtain ⟨ra', rc', wa', wc', ev'⟩ := hv'.open
      have HV' := Lib.hid hv'
      clear hv' d1 d2 d3 d4 d5
      subst ev'
      have hrow := rowB hb' HZ.out (heap_lt HZ.out)
      have B' := Lib.hid hb'
      clear hb'
      have c := cellsH hrow
      have f := freeH hrow
      have HR := Lib.hid hrow
      clear hrow
      go_wp2_with fail
      clear c f
      have c := cellsH (set5_row HR.out (.int .i64 x.o.op) (.int .i64 x.o.n) (.int .i64 x.o.ar) (.slice ra' x.o.refs.length rc') (.slice wa' x.o.words.length wc'))
      unfold set5 at c
      rw [HG.out]
      refine bodyPost_ret (v := .tuple #[.agg #[.int .i64 x.o.op, .int .i64 x.o.n, .int .i64 x.o.ar, .slice ra' x.o.refs.length rc', .slice wa' x.o.words.length wc'], .int .i64 0]) (by simp [results, Try.results63, go_sem, c]) rfl ⟨_, rfl, ?_, ?_⟩
      · refine ((HV'.out.turn (set5_turn (S := fun k => k = w.heap.size) (Turn.refl _ _) rfl _ _ _ _ _) ?_).base (by omega))
        intro b hb _ e
        omega
      · exact set5_below (below_then B0.out (by omega) B'.out) (Nat.le_refl _) _ _ _ _ _
    · rw [g1]
      have HG := Lib.hid (show R.get k = (ob0, 35) by simp [RM.get, G3.out, g3])
      clear g1 g3 c2 c3
      go_wp2_with fail
      clear cz fz
      have c := cellsH (set5_row HZ.out (.int .i64 0) (.int .i64 0) (.int .i64 0) (.slice none 0 0) (.slice none 0 0))
      unfold set5 at c
      rw [HG.out]
      refine bodyPost_ret (v := .tuple #[.agg #[.int .i64 0, .int .i64 0, .int .i64 0, .slice none 0 0, .slice none 0 0], .int .i64 35]) (by simp [results, Try.results63, go_sem, c]) rfl ⟨_, rfl, obR0 _ _, ?_⟩
      exact set5_below B0.out (Nat.le_refl _) _ _ _ _ _
end Go.Proofs.Ytobniolmielikaa
