/- The reference heap: Alloc; no condition. -/
import Derived.Test.YtobniolmielikaaRef4
import Derived.Test.YtobniolmielikaaHeap5
import Derived.Deep.AppendLies
import Derived.Deep.RegionLaw
namespace Go.Proofs.Ytobniolmielikaa
open Go.RowKit

theorem info97 : (Try.prog.info? 97).map (fun i => (i.zero, i.size, i.bytes)) = some (some (.agg #[.int .i64 0, .int .i64 0, .int .i64 0, .int .i64 0, .slice none 0 0, .slice none 0 0]), 6, 80) := by kernel_rfl
/-- The cells of one item. -/
abbrev It.arr (x : It) : Array Value := #[.int .i64 x.a, .int .i64 x.o.op, .int .i64 x.o.n, .int .i64 x.o.ar, .slice x.ra x.o.refs.length x.rc, .slice x.wa x.o.words.length x.wc]
theorem ItAt.get {w : World} {b o : Nat} {x : It} (h : ItAt w b o x) (j : Nat) (u : Value) (hj : x.cells[j]? = some u) : w.cell? ⟨b, o + j, none⟩ = some u := by
  match j, hj with
  | 0, hj => cases hj; exact h.c0
  | 1, hj => cases hj; exact h.c1
  | 2, hj => cases hj; exact h.c2
  | 3, hj => cases hj; exact h.c3
  | 4, hj => cases hj; exact h.c4
  | 5, hj => cases hj; exact h.c5
  | j + 6, hj => simp [It.cells] at hj
theorem row_append {base : Nat} {w : World} {v : Value} {l : List It} (h : Own base w v l) (hb : base ≤ w.heap.size) (hn : (l.length + 1) * 80 ≤ 140737488355328) (x : It) (ty : TypeId) :
    ∃ g cap w', (Builtin.append_ #[60, 60] ty #[v, .slice (some ⟨w.heap.size, 0, none⟩) 1 1]).run Try.prog (w.alloc (.cells x.arr 97)) = .ok (.slice (some ⟨g, 0, none⟩) (l.length + 1) cap) w' ∧
      Own base w' (.slice (some ⟨g, 0, none⟩) (l.length + 1) cap) (l ++ [x]) ∧ (w.alloc (.cells x.arr 97)).grownBy w' v.ownBlock ∧ (v.ownBlock = some g ∨ g = w.heap.size + 1) := by
  obtain ⟨i, hi, hz0, hz1, hz2⟩ := info_parts info97
  have h6 := h.1
  obtain ⟨g, cap, w', h1, h2, h3, h4, _⟩ := run_append_lies (P := Try.prog) (w.alloc (.cells x.arr 97)) 60 ty base 97 i _ 6 80 Try.underlying60 hi hz0 hz1 hz2 rfl (by decide) v l.length (flat l) (h.alloc _) ⟨w.heap.size, 0, none⟩ 1 1 x.cells rfl
    (by
      intro j u hj
      have hc := cellsH (new0 w (.cells x.arr 97)) j
      rw [Addr.add_lit]
      simp only [Nat.zero_add]
      rw [hc]
      simpa [It.cells] using hj) (by have := flat_one' [x]; simpa [flat_one] using this) (by decide) (by unfold maxLen; omega) hn (by simp; omega) _ rfl
  refine ⟨g, cap, w', h1, ?_, h3, by simpa using h4⟩
  unfold Own
  rw [flat_append, flat_one, List.length_append]
  exact h2
/-- An append of items whose run is known, as a step of a region that draws its order. -/
theorem step_append_it {P : Program} {ops : Array Oper} {o : Oper} {a : Act} {w : World} {K : Act → World → Prop} {Q : Exit → Act → World → Prop} {E : Prop}
    (hg : o.guard = none) (s x : Operand) (hop : o.op = Op.call { callee := Callee.builtin Builtin.append, args := #[s, x], argTypes := #[60, 60] }) (hty : o.type = 60)
    (u y : Value) (hs : a.eval s = u) (hx : a.eval x = y) (v : Value) (w' : World) (hrun : (Builtin.append_ #[60, 60] 60 #[u, y]).run P w = .ok v w')
    (hK : K (a.put o.dst v) w') : if Region.wanted o (yielded ops a.tmps) = true then Oper.wp P o a w K Q else E := by
  have hw : Region.wanted o (yielded ops a.tmps) = true := by simp [Region.wanted, hg]
  rw [if_pos hw]
  unfold Oper.wp
  simp [execOp, hop, hty, resolve, invoke, builtin, hs, hx, hrun, Result.andThen]
  exact hK

/-- What it stands for. -/
def absI (l : List It) : List (Int × Ob) := l.map fun x => (x.a, x.o)
def RM.abs (R : RM) : HM := ⟨R.s0, R.s1, R.next, absI R.n, absI R.a⟩
/-- What the reference's Alloc answers. -/
def HM.ralloc (H : HM) (o : Ob) : Int × Int × HM :=
  if vld o = true then (if H.nur ≤ H.ly.length then (0, 33, H) else (H.next, 0, { H with ly := H.ly ++ [(H.next, o)], next := H.next + 1 })) else (0, 1, H)
theorem absI_length (l : List It) : (absI l).length = l.length := by simp [absI]

theorem RHeapAt.turnRB {base : Nat} {w w' : World} {r : Nat} {NV AV : Value} {R : RM} (h : RHeapAt base w r NV AV R) (hb : Below w.heap.size w w') : ∃ NV' R', RHeapAt base w' r NV' AV R' ∧ R'.abs = R.abs ∧ Turn (RB r NV AV) w w' ∧ (∀ g, NV'.ownBlock = some g → NV.ownBlock = some g ∨ w.heap.size ≤ g) :=
  ⟨NV, R, h.fresh hb, rfl, below_turn hb _, fun _ hg => .inl hg⟩

theorem RHeapAt.notN {base : Nat} {w : World} {r : Nat} {NV AV : Value} {R : RM} (h : RHeapAt base w r NV AV R) : NV.ownBlock ≠ some r := by
  intro e
  have := (h.nown.row e).2.two ⟨_, _, h.row⟩
  cases this
theorem RHeapAt.notA {base : Nat} {w : World} {r : Nat} {NV AV : Value} {R : RM} (h : RHeapAt base w r NV AV R) : AV.ownBlock ≠ some r := by
  intro e
  have := (h.aown.row e).2.two ⟨_, _, h.row⟩
  cases this

theorem RHeapAt.setNext {base : Nat} {w : World} {r : Nat} {NV AV : Value} {R : RM} (h : RHeapAt base w r NV AV R) (x : Int) : RHeapAt base (w.setCell ⟨r, 4, none⟩ (.int .i64 x)) r NV AV { R with next := x } := by
  have ht : Turn (· = r) w (w.setCell ⟨r, 4, none⟩ (.int .i64 x)) := (Turn.refl (· = r) w).setCell (p := ⟨r, 4, none⟩) rfl _
  have hn : ∀ k, IsRow 3 w k → ¬ k = r := by
    rintro k hk rfl
    cases hk.two ⟨_, _, h.row⟩
  exact ⟨rowSet h.row 4 _, h.nown.kept fun g hg => Below.heap_setCell _ _ _ _ (fun e => h.notN ((show g = r from e) ▸ hg)), h.aown.kept fun g hg => Below.heap_setCell _ _ _ _ (fun e => h.notA ((show g = r from e) ▸ hg)), h.apart,
    fun y hy => (h.nok y hy).turn ht (fun k _ hk => hn k hk), fun y hy => (h.aok y hy).turn ht (fun k _ hk => hn k hk), h.nsmall, h.asmall⟩
theorem turn_grown {w w' : World} {v : Option Nat} (h : w.grownBy w' v) : Turn (fun k => v = some k) w w' :=
  ⟨h.os, h.tape, h.output, h.size, fun k hk hn => h.block k hk (fun e => hn e.symm)⟩
theorem RHeapAt.notRB3 {base : Nat} {w : World} {r : Nat} {NV AV : Value} {R : RM} (h : RHeapAt base w r NV AV R) : ∀ k, IsRow 3 w k → ¬ RB r NV AV k := by
  rintro k hk (rfl | e | e)
  · cases hk.two ⟨_, _, h.row⟩
  · cases hk.two (h.nown.row e).2
  · cases hk.two (h.aown.row e).2
theorem RHeapAt.grow {base : Nat} {w w6 : World} {r g cap : Nat} {NV AV : Value} {R : RM} {x : It} (h : RHeapAt base w r NV AV R) (hx : ObR 0 w x.val x.o) (hn : R.n.length < 65536)
    (hown : Own base w6 (.slice (some ⟨g, 0, none⟩) (R.n.length + 1) cap) (R.n ++ [x])) (hg : (w.alloc (.cells x.arr 97)).grownBy w6 NV.ownBlock) (hat : NV.ownBlock = some g ∨ g = w.heap.size + 1) :
    RHeapAt base (w6.setCell ⟨r, 2, none⟩ (.slice (some ⟨g, 0, none⟩) (R.n.length + 1) cap)) r (.slice (some ⟨g, 0, none⟩) (R.n.length + 1) cap) AV { R with n := R.n ++ [x] } ∧
      Turn (RB r NV AV) w (w6.setCell ⟨r, 2, none⟩ (.slice (some ⟨g, 0, none⟩) (R.n.length + 1) cap)) := by
  have hlt := h.lt
  have t1 : Turn (RB r NV AV) w w6 := ((Turn.refl (RB r NV AV) w).alloc _).under (turn_grown hg) (fun k _ e => .inr (.inl e))
  have t2 : Turn (RB r NV AV) w (w6.setCell ⟨r, 2, none⟩ (.slice (some ⟨g, 0, none⟩) (R.n.length + 1) cap)) := t1.setCell (.inl rfl) _
  have hr6 : w6.heap[r]? = some (.cells #[.int .i64 R.s0, .int .i64 R.s1, NV, AV, .int .i64 R.next] 92) :=
    (hg.block r (by have := heap_lt (old1 h.row (.cells x.arr 97)); exact this) (fun e => h.notN e.symm)).trans (old1 h.row _)
  have hgr : g ≠ r := by
    rcases hat with e | e
    · intro e'
      exact h.notN (e' ▸ e)
    · omega
  refine ⟨⟨rowSet hr6 2 _, ?_, ?_, ?_, ?_, ?_, by simp; omega, h.asmall⟩, t2⟩
  · have : Own base w6 (.slice (some ⟨g, 0, none⟩) (R.n.length + 1) cap) (R.n ++ [x]) := hown
    refine this.kept fun k hk => ?_
    simp [Value.ownBlock] at hk
    subst hk
    exact Below.heap_setCell _ _ _ _ hgr
  · refine h.aown.kept fun k hk => ?_
    have hkr : k ≠ r := fun e => h.notA (e ▸ hk)
    have hl := (h.aown.lt k hk).2
    rw [Below.heap_setCell _ _ _ _ hkr, hg.block k (by simp; omega) (fun e => h.apart k e.symm hk)]
    exact Below.heap_alloc _ _ _ hl
  · intro k hk hk2
    simp [Value.ownBlock] at hk
    subst hk
    rcases hat with e | e
    · exact h.apart _ e hk2
    · have := (h.aown.lt _ hk2).2
      omega
  · intro y hy
    rcases List.mem_append.1 hy with hy | hy
    · exact (h.nok y hy).turn t2 (fun k _ hk => h.notRB3 k hk)
    · simp at hy
      subst hy
      exact hx.turn t2 (fun k _ hk => h.notRB3 k hk)
  · exact fun y hy => (h.aok y hy).turn t2 (fun k _ hk => h.notRB3 k hk)

set_option maxRecDepth 10000 in
set_option maxHeartbeats 4000000 in
theorem ralloc_any (base : Nat) (ok : Nat → Prop) (w : World) (r : Nat) (NV AV : Value) (R : RM) (v : Value) (o : Ob) (hh : RHeapAt base w r NV AV R) (hbase : base ≤ w.heap.size) (hs0 : R.s0 ≤ 65536) (hnx : 0 ≤ R.next ∧ R.next < 9223372036854775807) (ho : ObAt ok w v o) :
    Calls Try.prog 94 #[.pointer (some ⟨r, 0, none⟩), v] w fun e w' => e = .returned (.tuple #[.int .i64 (R.abs.ralloc o).1, .int .i64 (R.abs.ralloc o).2.1]) ∧
      ∃ NV' R', RHeapAt base w' r NV' AV R' ∧ R'.abs = (R.abs.ralloc o).2.2 ∧ Turn (RB r NV AV) w w' := by
  have hlt := hh.lt
  have HH := Lib.hid hh
  have ho0 := ho
  obtain ⟨rv, wv, rfl, h1, h2⟩ := ho
  obtain ⟨ra, rc, rfl⟩ := h1.shape
  obtain ⟨wa, wc, rfl⟩ := h2.shape
  have HO := Lib.hid ho0
  have bx : Below w.heap.size w (w.alloc (.cells #[.int .i64 o.op, .int .i64 o.n, .int .i64 o.ar, .slice ra o.refs.length rc, .slice wa o.words.length wc] 25)) := (Below.refl _ _).alloc (Nat.le_refl _) _
  have BX := Lib.hid bx
  have HX := Lib.hid (new0 w (.cells #[.int .i64 o.op, .int .i64 o.n, .int .i64 o.ar, .slice ra o.refs.length rc, .slice wa o.words.length wc] 25))
  obtain ⟨hx1, hx2⟩ := hnx
  obtain ⟨A1, k1, rfl⟩ := hh.nown.shape
  clear ho0 h1 h2 hh bx
  go_enter Try.func94, Try.ntmps94
  go_wp2_with fail
  refine (refValid_any ok _ o _ (HO.out.fresh BX.out)).mono ?_
  rintro e w1 ⟨rfl, hb⟩
  have B1 := Lib.hid (below_then BX.out (by simp) hb)
  have X1 := Lib.hid (rowB hb HX.out (by simp))
  have hsz : w.heap.size < w1.heap.size := by have := hb.size; simp at this; omega
  clear hb
  by_cases hv : vld o = true
  · rw [hv]
    have HH1 := Lib.hid (HH.out.fresh B1.out)
    obtain ⟨c0, -, c2, -, c4⟩ := HH1.out.cells
    by_cases hfull : R.s0 ≤ R.n.length
    · have HA := Lib.hid (show R.abs.ralloc o = (0, 33, R.abs) by simp [HM.ralloc, RM.abs, hv, absI_length, hfull])
      clear hv
      go_upto_region 3 with (fail)
      go_quiet (fail)
      go_wp2_with fail
      go_ret2
      exact ⟨by rw [HA.out]; rfl, _, R, (HH1.out.fresh (below_drewN (Below.refl _ _) nq)), by rw [HA.out], below_turn (below_drewN B1.out nq) _⟩
    · have HA := Lib.hid (show R.abs.ralloc o = (R.next, 0, { R.abs with ly := R.abs.ly ++ [(R.next, o)], next := R.next + 1 }) by simp [HM.ralloc, RM.abs, hv, absI_length, hfull])
      clear hv
      go_upto_region 3 with (fail)
      go_quiet (fail)
      go_upto_region 5 with (fail)
      have HHn := Lib.hid (HH1.out.fresh (below_drewN (Below.refl _ _) nq))
      have Bn := Lib.hid (below_drewN B1.out nq)
      have Xn := Lib.hid (show (w1.drewN nq).heap[w.heap.size]? = _ from X1.out)
      have hszn : w.heap.size < (w1.drewN nq).heap.size := hsz
      clear HH1 B1 X1 hsz c0 c2 c4
      generalize w1.drewN nq = wn at *
      obtain ⟨-, -, c2, -, c4⟩ := HHn.out.cells
      have cx := cellsH Xn.out
      have hn1 : (R.n.length + 1) * 80 ≤ 140737488355328 := by omega
      have hw : wrap64 (R.next + 1) = R.next + 1 := by unfold wrap64; omega
      have hw2 : wrap64 (R.next + 1 - 1) = R.next := by unfold wrap64; omega
      go_cut [] from 20 to 35 (fun wx => ∃ NV' R', RHeapAt base wx r NV' AV R' ∧ R'.abs = { R.abs with ly := R.abs.ly ++ [(R.next, o)] } ∧ R'.next = R.next ∧ Turn (RB r (.slice A1 R.n.length k1) AV) w wx)
      case first =>
        go_region_law (first
          | (have hz := HRUN; clear hz; refine step_append_it rfl (.tmp 24) (.tmp 32) rfl rfl (.slice A1 R.n.length k1) (.slice (some ⟨w5.heap.size, 0, none⟩) 1 1) (by simp [Act.eval]) (by simp [Act.eval]) _ w6 HRUN.out ?_)
          | (go_simp; go_at_call 100; refine (rcopied_any ok _ o _ (HO.out.fresh Bn.out.drew)).mono ?_; rintro e w5 ⟨v5, rfl, ho5, hb5⟩; obtain ⟨ra5, rc5, wa5, wc5, rfl⟩ := ho5.open; have HO5 := Lib.hid ho5; have HH5 := Lib.hid (HHn.out.fresh (show Below wn.heap.size wn w5 from undrew hb5)); have X5 := Lib.hid (rowB hb5 Xn.out (heap_lt Xn.out)); have B5 := Lib.hid (below_then Bn.out Bn.out.size (undrew hb5)); have z5 := B5.out.size; obtain ⟨-, -, e2, -, e4⟩ := HH5.out.cells; have e2a := fun p => cellAlloc e2 p; have e4a := fun p => cellAlloc e4 p; have ex := cellsH X5.out; have exa := fun p => cellsH (old1 X5.out p); obtain ⟨g, cap, w6, hrun, hown6, hg6, hat6⟩ := row_append HH5.out.nown (by omega) hn1 ⟨R.next, o, ra5, rc5, wa5, wc5⟩ 60; have r6 := (hg6.block r (by have := heap_lt (old1 HH5.out.row (.cells (⟨R.next, o, ra5, rc5, wa5, wc5⟩ : It).arr 97)); exact this) (fun e => HH5.out.notN e.symm)).trans (old1 HH5.out.row _); have R6 := Lib.hid r6; have f6 := freeH r6; have x6 := cellsH r6; have HRUN := Lib.hid hrun; have HOWN6 := Lib.hid hown6; have HG6 := Lib.hid hg6; have HAT6 := Lib.hid hat6; clear hb5 ho5 hrun hown6 hg6 hat6 r6))
        all_goals go_wp2_with fail
        all_goals
          (go_meet
           case rel =>
             obtain ⟨q1, q2⟩ := HH5.out.grow (x := ⟨R.next, o, ra5, rc5, wa5, wc5⟩) (HO5.out.base (Nat.zero_le _)) (by omega) HOWN6.out HG6.out HAT6.out
             exact ⟨_, _, q1, by simp [RM.abs, absI], rfl, (below_turn B5.out _).trans q2⟩)
      case rest =>
        obtain ⟨NV', R', hh', hab, hnx, ht⟩ := hcut
        have hr1 := hh'.lt
        have HH2 := Lib.hid hh'
        have HAB := Lib.hid hab
        have HNX := Lib.hid hnx
        have HT := Lib.hid ht
        obtain ⟨-, -, -, -, c4⟩ := hh'.cells
        have f4 := freeH hh'.row
        rw [hnx] at c4
        clear hh' hab hnx ht c2 cx
        have c4a : ∀ u, (wc.setCell ⟨r, 4, none⟩ u).cell? ⟨r, 4, none⟩ = some u := fun u => by
          have := cellsH (rowSet HH2.out.row 4 u) 4
          simpa using this
        go_wp2_with fail
        go_ret2
        refine ⟨by rw [HA.out]; rfl, NV', { R' with next := R.next + 1 }, HH2.out.setNext _, ?_, HT.out.setCell (.inl rfl) _⟩
        have := HAB.out
        simp only [RM.abs, HM.mk.injEq] at this
        obtain ⟨b1, b2, b3, b4, b5⟩ := this
        rw [HA.out]
        simp [RM.abs, b1, b2, b4, b5]
  · have hv : vld o = false := by simpa using hv
    have HA := Lib.hid (show R.abs.ralloc o = (0, 1, R.abs) by simp [HM.ralloc, hv])
    rw [hv]
    clear hv
    go_wp2_with fail
    go_ret2
    exact ⟨by rw [HA.out]; rfl, _, R, HH.out.fresh B1.out, by rw [HA.out], below_turn B1.out _⟩
end Go.Proofs.Ytobniolmielikaa
