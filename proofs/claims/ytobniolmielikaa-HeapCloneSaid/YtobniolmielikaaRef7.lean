/- The reference heap: Set; no condition. -/
import Derived.Test.YtobniolmielikaaRef6
import Derived.Deep.RegionHeld3
namespace Go.Proofs.Ytobniolmielikaa
open Go.RowKit

theorem cellOf {w : World} {g : Nat} {cs : Array Value} {T : TypeId} {f : Nat × Nat} (h : w.heap[g]? = some (.cells cs T f)) (i : Nat) (v : Value) (hv : cs[i]? = some v) : w.cell? ⟨g, i, none⟩ = some v := row_cells h i v hv
theorem boxCells {w : World} {g : Nat} {a b c d e : Value} {T : TypeId} {f : Nat × Nat} (h : w.heap[g]? = some (.cells #[a, b, c, d, e] T f)) :
    w.cell? ⟨g, 0, none⟩ = some a ∧ w.cell? ⟨g, 1, none⟩ = some b ∧ w.cell? ⟨g, 2, none⟩ = some c ∧ w.cell? ⟨g, 3, none⟩ = some d ∧ w.cell? ⟨g, 4, none⟩ = some e :=
  ⟨row_cells h 0 _ rfl, row_cells h 1 _ rfl, row_cells h 2 _ rfl, row_cells h 3 _ rfl, row_cells h 4 _ rfl⟩

theorem RHeapAt.setN {base : Nat} {w : World} {r g n cap i : Nat} {AV : Value} {R : RM} {x x' : It} (h : RHeapAt base w r (.slice (some ⟨g, 0, none⟩) n cap) AV R) (hi : R.n[i]? = some x) (ha : x.a = x'.a) (hx : ObR 0 w x'.val x'.o) :
    RHeapAt base (setO w g (i * 6) x') r (.slice (some ⟨g, 0, none⟩) n cap) AV { R with n := R.n.set i x' } ∧ Turn (RB r (.slice (some ⟨g, 0, none⟩) n cap) AV) w (setO w g (i * 6) x') := by
  have t : Turn (RB r (.slice (some ⟨g, 0, none⟩) n cap) AV) w (setO w g (i * 6) x') := setO_turn (Turn.refl _ _) (.inr (.inl rfl))
  have tg : Turn (· = g) w (setO w g (i * 6) x') := setO_turn (Turn.refl _ _) rfl
  refine ⟨⟨setO_ne h.row (fun e => h.notN (e ▸ rfl)), h.nown.setIt hi ha.symm, ?_, h.apart, ?_, fun y hy => (h.aok y hy).turn t (fun k _ hk => h.notRB3 k hk), by simpa using h.nsmall, h.asmall⟩, t⟩
  · exact h.aown.kept fun k hk => tg.block k (h.aown.lt k hk).2 (fun e => h.apart g rfl (e ▸ hk))
  · intro y hy
    rcases List.mem_or_eq_of_mem_set hy with hy | rfl
    · exact (h.nok y hy).turn t (fun k _ hk => h.notRB3 k hk)
    · exact hx.turn t (fun k _ hk => h.notRB3 k hk)
theorem RHeapAt.setA {base : Nat} {w : World} {r g n cap i : Nat} {NV : Value} {R : RM} {x x' : It} (h : RHeapAt base w r NV (.slice (some ⟨g, 0, none⟩) n cap) R) (hi : R.a[i]? = some x) (ha : x.a = x'.a) (hx : ObR 0 w x'.val x'.o) :
    RHeapAt base (setO w g (i * 6) x') r NV (.slice (some ⟨g, 0, none⟩) n cap) { R with a := R.a.set i x' } ∧ Turn (RB r NV (.slice (some ⟨g, 0, none⟩) n cap)) w (setO w g (i * 6) x') := by
  have t : Turn (RB r NV (.slice (some ⟨g, 0, none⟩) n cap)) w (setO w g (i * 6) x') := setO_turn (Turn.refl _ _) (.inr (.inr rfl))
  have tg : Turn (· = g) w (setO w g (i * 6) x') := setO_turn (Turn.refl _ _) rfl
  refine ⟨⟨setO_ne h.row (fun e => h.notA (e ▸ rfl)), ?_, h.aown.setIt hi ha.symm, h.apart, fun y hy => (h.nok y hy).turn t (fun k _ hk => h.notRB3 k hk), ?_, h.nsmall, by simpa using h.asmall⟩, t⟩
  · exact h.nown.kept fun k hk => tg.block k (h.nown.lt k hk).2 (fun e => h.apart k hk (e ▸ rfl))
  · intro y hy
    rcases List.mem_or_eq_of_mem_set hy with hy | rfl
    · exact (h.aok y hy).turn t (fun k _ hk => h.notRB3 k hk)
    · exact hx.turn t (fun k _ hk => h.notRB3 k hk)

set_option maxHeartbeats 1000000 in
theorem rset_any (base : Nat) (ok : Nat → Prop) (w : World) (r : Nat) (NV AV : Value) (R : RM) (k : Int) (v : Value) (o : Ob) (hh : RHeapAt base w r NV AV R) (ho : ObAt ok w v o) :
    Calls Try.prog 92 #[.pointer (some ⟨r, 0, none⟩), .int .i64 k, v] w fun e w' => e = .returned (.int .i64 (R.abs.set k o).1) ∧
      ∃ R', RHeapAt base w' r NV AV R' ∧ R'.abs = (R.abs.set k o).2 ∧ Turn (RB r NV AV) w w' := by
  have hlt := hh.lt
  have HH := Lib.hid hh
  have ho0 := ho
  obtain ⟨rv, wv, rfl, h1, h2⟩ := ho
  obtain ⟨ra, rc, rfl⟩ := h1.shape
  obtain ⟨wa, wc, rfl⟩ := h2.shape
  have HO := Lib.hid ho0
  have bx : Below w.heap.size w (w.alloc (.cells #[.int .i64 o.op, .int .i64 o.n, .int .i64 o.ar, .slice ra o.refs.length rc, .slice wa o.words.length wc] 25)) := (Below.refl _ _).alloc (Nat.le_refl _) _
  have BX := Lib.hid bx
  have HX := Lib.hid (new0 w (.cells #[.int .i64 o.op, .int .i64 o.n, .int .i64 o.ar, .slice ra o.refs.length rc, .slice wa o.words.length wc] 25))
  clear ho0 h1 h2 hh bx
  go_enter Try.func92, Try.ntmps92
  go_wp2_with fail
  refine (refValid_any ok _ o _ (HO.out.fresh BX.out)).mono ?_
  rintro e w1 ⟨rfl, hb⟩
  have B1 := Lib.hid (below_then BX.out (by simp) hb)
  have X1 := Lib.hid (rowB hb HX.out (by simp))
  clear hb
  by_cases hv : vld o = true
  · rw [hv]
    have HV := Lib.hid hv
    clear hv
    have HH1 := Lib.hid (HH.out.fresh B1.out)
    have x1 := boxCells X1.out
    have HN := Lib.hid HH1.out.rawN
    have HA := Lib.hid HH1.out.rawA
    obtain ⟨-, -, c2, c3, -⟩ := HH1.out.cells
    go_wp2_with fail
    refine (find_any _ w1 _ R.n k HN.out).mono ?_
    rintro e w2 ⟨rfl, rfl⟩
    rcases fnd_cases R.n k with ⟨i, x, g1, g2, g3, ha⟩ | ⟨g1, g3⟩
    · rw [g1]
      have hil := (List.getElem?_eq_some_iff.1 g2).1
      obtain ⟨g, cap, cur, eN, hgrow⟩ := HH1.out.nown.pos (by omega)
      subst eN
      obtain ⟨b', p', eA, hat⟩ := HN.out.at g2
      obtain ⟨rfl, rfl⟩ : g = b' ∧ 0 = p' := by simpa using eA
      rw [Nat.zero_add] at hat
      have IT := Lib.hid hat
      have hgr : g ≠ r := fun e => HH1.out.notN (e ▸ rfl)
      have hgx : g ≠ w.heap.size := by
        rintro rfl
        rw [X1.out] at hgrow
        cases hgrow
      have HG := Lib.hid (show R.abs.set k o = (0, { R.abs with ly := put R.abs.ly k o }) by simp [HM.set, RM.abs, HV.out, get_abs, g3])
      clear hat eA
      have c2d : w2.drew.cell? ⟨r, 2, none⟩ = some (.slice (some ⟨g, 0, none⟩) R.n.length cap) := c2
      have x1d := boxCells (show w2.drew.heap[w.heap.size]? = _ from X1.out)
      go_upto_region 5 with (fail)
      go_region_held3 (fun w' => w'.cell? ⟨r, 2, none⟩ = some (.slice (some ⟨g, 0, none⟩) R.n.length cap) ∧ w'.cell? ⟨w.heap.size, 0, none⟩ = some (.int .i64 o.op) ∧ w'.cell? ⟨w.heap.size, 1, none⟩ = some (.int .i64 o.n) ∧ w'.cell? ⟨w.heap.size, 2, none⟩ = some (.int .i64 o.ar) ∧ w'.cell? ⟨w.heap.size, 3, none⟩ = some (.slice ra o.refs.length rc) ∧ w'.cell? ⟨w.heap.size, 4, none⟩ = some (.slice wa o.words.length wc))
        (first | with_reducible exact ⟨c2d, x1d⟩ | with_reducible exact ⟨e2, x5⟩ | with_reducible exact ⟨y2, y5⟩)
        (first | (go_at_call 100; refine (rcopied_any ok _ o _ (HO.out.fresh B1.out.drew)).mono ?_; rintro e w5 ⟨v5, rfl, ho5, hb5⟩; obtain ⟨ra5, rc5, wa5, wc5, rfl⟩ := ho5.open; have HO5 := Lib.hid ho5; have hh5 := HH1.out.fresh (undrew hb5); have HH5 := Lib.hid hh5; have B5 := Lib.hid (below_then B1.out B1.out.size (undrew hb5)); obtain ⟨-, -, e2, -, -⟩ := hh5.cells; have hx5 := rowB (undrew hb5) X1.out (heap_lt X1.out); have X5 := Lib.hid hx5; have x5 := boxCells hx5; have hg5 := rowB (undrew hb5) hgrow (heap_lt hgrow); have G5 := Lib.hid hg5; have f5 := freeH hg5; have it5 := IT.out.keep (w' := w5) ((undrew hb5).block g (heap_lt hgrow)); obtain ⟨-, d1, d2, d3, d4, d5⟩ := it5; have y2 : World.cell? _ _ = some (.slice (some ⟨g, 0, none⟩) R.n.length cap) := cellOf (setO_ne (p := i * 6) (x := ⟨k, o, ra5, rc5, wa5, wc5⟩) hh5.row hgr.symm) 2 _ rfl; have y5 := boxCells (setO_ne (p := i * 6) (x := ⟨k, o, ra5, rc5, wa5, wc5⟩) hx5 hgx.symm); unfold setO at y2 y5; clear hb5 ho5 hh5 hx5 hg5))
      go_wp2_with fail
      go_ret
      obtain ⟨q1, q2⟩ := HH5.out.setN (x' := ⟨k, o, ra5, rc5, wa5, wc5⟩) g2 ha (HO5.out.base (Nat.zero_le _))
      exact ⟨by rw [HG.out]; rfl, { R with n := R.n.set i ⟨k, o, ra5, rc5, wa5, wc5⟩ }, q1, by rw [HG.out]; simp only [RM.abs]; rw [put_abs (x' := ⟨k, o, ra5, rc5, wa5, wc5⟩) g1 g2 g3 rfl], (below_turn B5.out _).trans q2⟩
    · rw [g1]
      have G3 := Lib.hid g3
      clear g1 g3
      go_wp2_with fail
      refine (find_any _ w2 _ R.a k HA.out).mono ?_
      rintro e w3 ⟨rfl, rfl⟩
      rcases fnd_cases R.a k with ⟨i, x, g1, g2, g3, ha⟩ | ⟨g1, g3⟩
      · rw [g1]
        have hil := (List.getElem?_eq_some_iff.1 g2).1
        obtain ⟨g, cap, cur, eN, hgrow⟩ := HH1.out.aown.pos (by omega)
        subst eN
        obtain ⟨b', p', eA, hat⟩ := HA.out.at g2
        obtain ⟨rfl, rfl⟩ : g = b' ∧ 0 = p' := by simpa using eA
        rw [Nat.zero_add] at hat
        have IT := Lib.hid hat
        have hgr : g ≠ r := fun e => HH1.out.notA (e ▸ rfl)
        have hgx : g ≠ w.heap.size := by
          rintro rfl
          rw [X1.out] at hgrow
          cases hgrow
        have HG := Lib.hid (show R.abs.set k o = (0, { R.abs with la := put R.abs.la k o }) by simp [HM.set, RM.abs, HV.out, get_abs, G3.out, g3])
        clear hat eA
        have c3d : w3.drew.cell? ⟨r, 3, none⟩ = some (.slice (some ⟨g, 0, none⟩) R.a.length cap) := c3
        have x1d := boxCells (show w3.drew.heap[w.heap.size]? = _ from X1.out)
        go_upto_region 9 with (fail)
        go_region_held3 (fun w' => w'.cell? ⟨r, 3, none⟩ = some (.slice (some ⟨g, 0, none⟩) R.a.length cap) ∧ w'.cell? ⟨w.heap.size, 0, none⟩ = some (.int .i64 o.op) ∧ w'.cell? ⟨w.heap.size, 1, none⟩ = some (.int .i64 o.n) ∧ w'.cell? ⟨w.heap.size, 2, none⟩ = some (.int .i64 o.ar) ∧ w'.cell? ⟨w.heap.size, 3, none⟩ = some (.slice ra o.refs.length rc) ∧ w'.cell? ⟨w.heap.size, 4, none⟩ = some (.slice wa o.words.length wc))
          (first | with_reducible exact ⟨c3d, x1d⟩ | with_reducible exact ⟨e3, x5⟩ | with_reducible exact ⟨y2, y5⟩)
          (first | (go_at_call 100; refine (rcopied_any ok _ o _ (HO.out.fresh B1.out.drew)).mono ?_; rintro e w5 ⟨v5, rfl, ho5, hb5⟩; obtain ⟨ra5, rc5, wa5, wc5, rfl⟩ := ho5.open; have HO5 := Lib.hid ho5; have hh5 := HH1.out.fresh (undrew hb5); have HH5 := Lib.hid hh5; have B5 := Lib.hid (below_then B1.out B1.out.size (undrew hb5)); obtain ⟨-, -, -, e3, -⟩ := hh5.cells; have hx5 := rowB (undrew hb5) X1.out (heap_lt X1.out); have X5 := Lib.hid hx5; have x5 := boxCells hx5; have hg5 := rowB (undrew hb5) hgrow (heap_lt hgrow); have G5 := Lib.hid hg5; have f5 := freeH hg5; have it5 := IT.out.keep (w' := w5) ((undrew hb5).block g (heap_lt hgrow)); obtain ⟨-, d1, d2, d3, d4, d5⟩ := it5; have y2 : World.cell? _ _ = some (.slice (some ⟨g, 0, none⟩) R.a.length cap) := cellOf (setO_ne (p := i * 6) (x := ⟨k, o, ra5, rc5, wa5, wc5⟩) hh5.row hgr.symm) 3 _ rfl; have y5 := boxCells (setO_ne (p := i * 6) (x := ⟨k, o, ra5, rc5, wa5, wc5⟩) hx5 hgx.symm); unfold setO at y2 y5; clear hb5 ho5 hh5 hx5 hg5))
        go_wp2_with fail
        go_ret
        obtain ⟨q1, q2⟩ := HH5.out.setA (x' := ⟨k, o, ra5, rc5, wa5, wc5⟩) g2 ha (HO5.out.base (Nat.zero_le _))
        exact ⟨by rw [HG.out]; rfl, { R with a := R.a.set i ⟨k, o, ra5, rc5, wa5, wc5⟩ }, q1, by rw [HG.out]; simp only [RM.abs]; rw [put_abs (x' := ⟨k, o, ra5, rc5, wa5, wc5⟩) g1 g2 g3 rfl], (below_turn B5.out _).trans q2⟩
      · rw [g1]
        have HG := Lib.hid (show R.abs.set k o = (35, R.abs) by simp [HM.set, RM.abs, HV.out, get_abs, G3.out, g3])
        clear g1 g3
        go_wp2_with fail
        go_ret
        exact ⟨by rw [HG.out]; rfl, R, HH1.out, by rw [HG.out], below_turn B1.out _⟩
  · have hv : vld o = false := by simpa using hv
    have HG := Lib.hid (show R.abs.set k o = (1, R.abs) by simp [HM.set, hv])
    rw [hv]
    clear hv
    go_wp2_with fail
    go_ret
    exact ⟨by rw [HG.out]; rfl, R, HH.out.fresh B1.out, by rw [HG.out], below_turn B1.out _⟩
end Go.Proofs.Ytobniolmielikaa
