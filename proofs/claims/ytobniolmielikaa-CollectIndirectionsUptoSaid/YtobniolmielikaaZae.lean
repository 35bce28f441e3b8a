/- Texts of the collector's proof, joined: Heap5, Ref5, Ref6, Ref7, Ref8, Ref9. -/
import Derived.Test.YtobniolmielikaaZad
import Derived.Deep.AppendLies
import Derived.Deep.RegionLaw
import Derived.Deep.RegionHeld3
/- The chapter's example on the heap, and the first statement's walk; no condition. -/
namespace Go.Proofs.Ytobniolmielikaa
open Go.RowKit

theorem ints_one (w : World) (x : Int) (hx : (Lit.int .i64 x).wf = true) : Ints (fun _ => True) (w.alloc (.cells #[.int .i64 x] 3)) (.slice (some ⟨w.heap.size, 0, none⟩) 1 1) [x] := by
  refine ⟨_, 1, rfl, by simp, by simp [maxLen], (fun h => by cases h), fun _ => ⟨_, rfl, trivial, by simp, ?_⟩, by simp, by simpa using hx⟩
  intro i y hy
  match i, hy with
  | 0, hy =>
    simp at hy
    subst hy
    exact cellsH (new0 w _) 0
theorem ints0 (ok : Nat → Prop) (w : World) : Ints ok w (.slice none 0 0) [] := Ints.nil _ _
theorem Turn.belowH {w0 w w' : World} {h y a : Nat} {B : Nat} (hb : Below B w0 w) (ht : Turn (HB h y a) w w') (hB : B ≤ w.heap.size) (h1 : B ≤ h) (h2 : B ≤ y) (h3 : B ≤ a) : Below B w0 w' :=
  hb.trans (ht.below hB (fun k hk => by rcases hk with rfl | rfl | rfl <;> assumption))

theorem room_val (w : World) (h y a : Nat) (H : HM) (hh : HeapAt w h y a H) (r : Int) (hr : wrap64 (H.nur - H.ly.length) = r) :
    Calls Try.prog 20 #[.pointer (some ⟨h, 0, none⟩)] w fun e w' => e = .returned (.int .i64 r) ∧ ∃ n, w' = w.drewN n := by
  subst hr
  exact room_any w h y a H hh

set_option maxHeartbeats 400000 in
theorem example_any (w : World) : Calls Try.prog 22 #[] w fun e w' => e = .returned (.bool true) ∧ Below w.heap.size w w' := by
  go_enter Try.func22, Try.ntmps22
  go_wp2_with fail
  refine (new_yes 2 5 _ (by decide)).mono ?_
  rintro e w1 ⟨h, y, a, rfl, hh, z1, z2, z3, hb1⟩
  have HH := Lib.hid hh
  have hb1s := hb1.size
  have B1 := Lib.hid hb1
  clear hh hb1
  go_wp2_with fail
  refine (alloc_any (fun _ => True) _ h y a _ _ ⟨1, 7, 0, [], []⟩ HH.out ⟨_, _, rfl, ints0 _ _, ints0 _ _⟩).mono ?_
  rintro e w2 ⟨rfl, hh2, ht2⟩
  have e2 : (⟨2, 5, 0, [], []⟩ : HM).alloc ⟨1, 7, 0, [], []⟩ = (0, 0, ⟨2, 5, 1, [(0, ⟨1, 7, 0, [], []⟩)], []⟩) := by kernel_rfl
  rw [e2] at hh2 ⊢
  have HH2 := Lib.hid hh2
  have z4 := ht2.size
  have B2 := Lib.hid (Turn.belowH B1.out ht2 hb1s z1 z2 z3)
  clear hh2 ht2 e2
  go_wp2_with fail
  refine (alloc_any (fun _ => True) _ h y a _ _ ⟨7, 0, 0, [0], []⟩ (HH2.out.fresh ((Below.refl _ _).alloc (Nat.le_refl _) _)) ⟨_, _, rfl, ints_one _ _ (by decide), ints0 _ _⟩).mono ?_
  rintro e w3 ⟨rfl, hh3, ht3⟩
  have e3 : (⟨2, 5, 1, [(0, ⟨1, 7, 0, [], []⟩)], []⟩ : HM).alloc ⟨7, 0, 0, [0], []⟩ = (1, 0, ⟨2, 5, 2, [(0, ⟨1, 7, 0, [], []⟩), (1, ⟨7, 0, 0, [0], []⟩)], []⟩) := by kernel_rfl
  rw [e3] at hh3 ⊢
  have HH3 := Lib.hid hh3
  have z5 := ht3.size
  have B3 := Lib.hid (Turn.belowH (B2.out.alloc (by omega) _) ht3 (by simp; omega) z1 z2 z3)
  clear hh3 ht3 e3
  go_wp2_with fail
  refine (alloc_any (fun _ => True) _ h y a _ _ ⟨1, 0, 0, [], []⟩ HH3.out ⟨_, _, rfl, ints0 _ _, ints0 _ _⟩).mono ?_
  rintro e w4 ⟨rfl, hh4, ht4⟩
  have e4 : (⟨2, 5, 2, [(0, ⟨1, 7, 0, [], []⟩), (1, ⟨7, 0, 0, [0], []⟩)], []⟩ : HM).alloc ⟨1, 0, 0, [], []⟩ = (0, 33, ⟨2, 5, 2, [(0, ⟨1, 7, 0, [], []⟩), (1, ⟨7, 0, 0, [0], []⟩)], []⟩) := by kernel_rfl
  rw [e4] at hh4 ⊢
  have HH4 := Lib.hid hh4
  have z6 := ht4.size
  have B4 := Lib.hid (Turn.belowH B3.out ht4 (by simp at z5; omega) z1 z2 z3)
  clear hh4 ht4 e4
  go_wp2_with fail
  refine (room_val _ h y a _ HH4.out 0 (by kernel_rfl)).mono ?_
  rintro e w5 ⟨rfl, n, rfl⟩
  go_wp2_with fail
  go_ret
  exact ⟨rfl, below_drewN B4.out n⟩

theorem alloc_v {o : Ob} (hv : vld o = true) (n e x : Int) (l m : List (Int × Ob)) (hf : ¬ n ≤ l.length) : (⟨n, e, x, l, m⟩ : HM).alloc o = (x, 0, ⟨n, e, wrap64 (x + 1), put l x o, m⟩) := by simp [HM.alloc, hv, hf]
theorem alloc_i {o : Ob} (hv : vld o = false) (H : HM) : H.alloc o = (0, 1, H) := by simp [HM.alloc, hv]
theorem set_i {o : Ob} (hv : vld o = false) (H : HM) (k : Int) : H.set k o = (1, H) := by simp [HM.set, hv]

set_option maxHeartbeats 1000000 in
theorem heapValid_law (ok : Nat → Prop) (w : World) (v : Value) (o : Ob) (ho : ObAt ok w v o) : Calls Try.prog 3 #[v] w fun e w' => e = .returned (.bool true) ∧ Below w.heap.size w w' := by
  have ho0 := ho
  obtain ⟨rv, wv, rfl, h1, h2⟩ := ho
  obtain ⟨ra, rc, rfl⟩ := h1.shape
  obtain ⟨wa, wc, rfl⟩ := h2.shape
  have HO := Lib.hid ho0
  clear ho0 h1 h2
  have OK := Lib.hid (show ∀ w', Below w.heap.size w w' → ObAt ok w' _ o from fun w' hb => HO.out.fresh hb)
  clear HO
  go_enter Try.func3, Try.ntmps3
  go_wp2_with fail
  refine (new_yes 2 1 _ (by decide)).mono ?_
  rintro e w1 ⟨h, y, a, rfl, hh, z1, z2, z3, hb1⟩
  simp only [World.size_alloc] at z1 z2 z3
  have HH := Lib.hid hh
  have hx := rowB hb1 (new0 _ _) (by simp)
  have X1 := Lib.hid hx
  have hb1' := below_then ((Below.refl w.heap.size w).alloc (Nat.le_refl _) _) (by simp) hb1
  have z4 := hb1'.size
  have B1 := Lib.hid hb1'
  clear hh hb1 hx hb1'
  go_wp2_with fail
  refine (alloc_any (fun _ => True) _ h y a _ _ ⟨1, 3, 0, [], []⟩ HH.out ⟨_, _, rfl, ints0 _ _, ints0 _ _⟩).mono ?_
  rintro e w2 ⟨rfl, hh2, ht2⟩
  have e2 : (⟨2, 1, 0, [], []⟩ : HM).alloc ⟨1, 3, 0, [], []⟩ = (0, 0, ⟨2, 1, 1, [(0, ⟨1, 3, 0, [], []⟩)], []⟩) := by kernel_rfl
  rw [e2] at hh2 ⊢
  have HH2 := Lib.hid hh2
  have z5 := ht2.size
  have B2 := Lib.hid (Turn.belowH B1.out ht2 z4 (by omega) (by omega) (by omega))
  have hx := rowT ht2 X1.out (fun e => by rcases e with e | e | e <;> omega)
  have X2 := Lib.hid hx
  clear hh2 ht2 e2 X1
  have c2 := cellsH hx
  clear hx
  go_wp2_with fail
  refine (set_any ok _ h y a _ 0 _ o HH2.out (OK.out _ B2.out)).mono ?_
  rintro e w3 ⟨rfl, hh3, ht3⟩
  have HH3 := Lib.hid hh3
  have z6 := ht3.size
  have B3 := Lib.hid (Turn.belowH B2.out ht3 (by omega) (by omega) (by omega) (by omega))
  have hx := rowT ht3 X2.out (fun e => by rcases e with e | e | e <;> omega)
  have X3 := Lib.hid hx
  clear hh3 ht3 X2 c2
  have c2 := cellsH hx
  clear hx
  go_wp2_with fail
  refine (alloc_any ok _ h y a _ _ o HH3.out (OK.out _ B3.out)).mono ?_
  rintro e w4 ⟨rfl, hh4, ht4⟩
  have HH4 := Lib.hid hh4
  have z7 := ht4.size
  have B4 := Lib.hid (Turn.belowH B3.out ht4 (by omega) (by omega) (by omega) (by omega))
  have hx := rowT ht4 X3.out (fun e => by rcases e with e | e | e <;> omega)
  have X4 := Lib.hid hx
  clear hh4 ht4 X3 c2
  have c2 := cellsH hx
  clear hx
  go_wp2_with fail
  refine (get_any _ h y a _ 0 HH4.out).mono ?_
  rintro e w5 ⟨u, rfl, hu, hb5⟩
  obtain ⟨ua, uc, va, vc, rfl⟩ := hu.open
  have HU := Lib.hid hu
  have z8 := hb5.size
  have HH5 := Lib.hid (HH4.out.fresh hb5)
  have B5 := Lib.hid (below_then B4.out (by omega) hb5)
  have hx := rowB hb5 X4.out (heap_lt X4.out)
  have X5 := Lib.hid hx
  clear hu hb5 X4 c2
  have c2 := cellsH hx
  clear hx
  have hxa := fun p => cellsH (old1 X5.out p)
  by_cases hv : vld o = true
  · have e3 : (⟨2, 1, 1, [(0, ⟨1, 3, 0, [], []⟩)], []⟩ : HM).set 0 o = (0, ⟨2, 1, 1, [(0, o)], []⟩) := by simp [HM.set, hv, Go.Proofs.Ytobniolmielikaa.get, ix, put]
    have e4 : (⟨2, 1, 1, [(0, o)], []⟩ : HM).alloc o = (1, 0, ⟨2, 1, 2, [(0, o), (1, o)], []⟩) := by
      rw [alloc_v hv _ _ _ _ _ (by simp)]
      have : wrap64 2 = 2 := by kernel_rfl
      simp [put, ix, this]
    have e5 : (⟨2, 1, 2, [(0, o), (1, o)], []⟩ : HM).get 0 = (o, 0) := by simp [HM.get, Go.Proofs.Ytobniolmielikaa.get, ix]
    simp only [e3, e4, e5] at *
    go_wp2_with fail
    have hb5a := B5.out.alloc (by omega) (.cells #[.int .i64 o.op, .int .i64 o.n, .int .i64 o.ar, .slice ua o.refs.length uc, .slice va o.words.length vc] 25)
    refine (refValid_any ok _ o _ (OK.out _ hb5a)).mono ?_
    rintro e w6 ⟨rfl, hb6⟩
    have hx6 := rowB hb6 (old1 X5.out _) (heap_lt (old1 X5.out _))
    have hu6 := rowB hb6 (new0 w5 _) (by simp)
    have HU6 := Lib.hid ((HU.out.fresh ((Below.refl _ _).alloc (Nat.le_refl _) _)).fresh hb6)
    have z9 := hb6.size
    simp only [World.size_alloc] at z9
    have B6 := Lib.hid (below_then hb5a (by simp; omega) hb6)
    have HH6 := Lib.hid ((HH5.out.fresh ((Below.refl _ _).alloc (Nat.le_refl _) _)).fresh hb6)
    clear hxa hb5a hb6 c2
    have d1 := cellsH hx6
    have d2 := cellsH hu6
    clear hx6 hu6
    rw [hv]
    go_wp2_with fail
    refine (sameObj_any _ ok _ _ _ o HU6.out.at (OK.out _ B6.out)).mono ?_
    rintro e w7 ⟨rfl, hb7⟩
    have z10 := hb7.size
    have B7 := Lib.hid (below_then B6.out (by omega) hb7)
    clear hb7
    go_wp2_with fail
    refine (example_any _).mono ?_
    rintro e w8 ⟨rfl, hb8⟩
    go_wp2_with fail
    go_ret
    exact ⟨rfl, below_then B7.out (by omega) hb8⟩
  · have hv : vld o = false := by simpa using hv
    have e5 : (⟨2, 1, 1, [(0, ⟨1, 3, 0, [], []⟩)], []⟩ : HM).get 0 = (⟨1, 3, 0, [], []⟩, 0) := by simp [HM.get, Go.Proofs.Ytobniolmielikaa.get, ix]
    simp only [set_i hv, alloc_i hv, e5] at *
    have eO : (⟨1, 3, 0, [], []⟩ : Ob).refs.length = 0 := rfl
    go_wp2_with fail
    have hb5a := B5.out.alloc (by omega) (.cells #[.int .i64 (⟨1, 3, 0, [], []⟩ : Ob).op, .int .i64 (⟨1, 3, 0, [], []⟩ : Ob).n, .int .i64 (⟨1, 3, 0, [], []⟩ : Ob).ar, .slice ua (⟨1, 3, 0, [], []⟩ : Ob).refs.length uc, .slice va (⟨1, 3, 0, [], []⟩ : Ob).words.length vc] 25)
    refine (refValid_any ok _ o _ (OK.out _ hb5a)).mono ?_
    rintro e w6 ⟨rfl, hb6⟩
    have hx6 := rowB hb6 (old1 X5.out _) (heap_lt (old1 X5.out _))
    have hu6 := rowB hb6 (new0 w5 _) (by simp)
    have HU6 := Lib.hid ((HU.out.fresh ((Below.refl _ _).alloc (Nat.le_refl _) _)).fresh hb6)
    have z9 := hb6.size
    simp only [World.size_alloc] at z9
    have B6 := Lib.hid (below_then hb5a (by simp; omega) hb6)
    have HH6 := Lib.hid ((HH5.out.fresh ((Below.refl _ _).alloc (Nat.le_refl _) _)).fresh hb6)
    clear hxa hb5a hb6 c2
    have d1 := cellsH hx6
    have d2 := cellsH hu6
    clear hx6 hu6
    rw [hv]
    go_wp2_with fail
    refine (room_val _ h y a _ HH6.out 1 (by kernel_rfl)).mono ?_
    rintro e w7 ⟨rfl, n, rfl⟩
    go_wp2_with fail
    have HU7 : ObR w4.heap.size (w6.drewN n) _ ⟨1, 3, 0, [], []⟩ := HU6.out.fresh (below_drewN (Below.refl _ _) n)
    have B6n := below_drewN B6.out n
    refine (sameObj_any _ (fun _ => True) _ _ _ ⟨1, 3, 0, [], []⟩ HU7.at ⟨_, _, rfl, ints0 _ _, ints0 _ _⟩).mono ?_
    rintro e w7 ⟨rfl, hb7⟩
    have z10 := hb7.size
    have z11 := B6n.size
    have B7 := Lib.hid (below_then B6n z11 hb7)
    clear hb7 B6n HU7
    go_wp2_with fail
    refine (example_any _).mono ?_
    rintro e w8 ⟨rfl, hb8⟩
    go_wp2_with fail
    go_ret
    exact ⟨rfl, below_then B7.out (by omega) hb8⟩
end Go.Proofs.Ytobniolmielikaa

/- The reference heap: Alloc; no condition. -/
namespace Go.Proofs.Ytobniolmielikaa
open Go.RowKit

theorem info97 : (Try.prog.info? 97).map (fun i => (i.zero, i.size, i.bytes)) = some (some (.agg #[.int .i64 0, .int .i64 0, .int .i64 0, .int .i64 0, .slice none 0 0, .slice none 0 0]), 6, 80) := by kernel_rfl
/-- The cells of one item. -/
abbrev It.arr (x : It) : Array Value := #[.int .i64 x.a, .int .i64 x.o.op, .int .i64 x.o.n, .int .i64 x.o.ar, .slice x.ra x.o.refs.length x.rc, .slice x.wa x.o.words.length x.wc]
theorem ItAt.get {w : World} {b o : Nat} {x : It} (h : ItAt w b o x) (j : Nat) (u : Value) (hj : x.cells[j]? = some u) : w.cell? ⟨b, o + j, none⟩ = some u := by
  match j, hj with
  | 0, hj => cases hj; exact h.c0
  | 1, hj => cases hj; exact h.c1
  | 2, hj => cases hj; exact h.c2
  | 3, hj => cases hj; exact h.c3
  | 4, hj => cases hj; exact h.c4
  | 5, hj => cases hj; exact h.c5
  | j + 6, hj => simp [It.cells] at hj
theorem row_append {base : Nat} {w : World} {v : Value} {l : List It} (h : Own base w v l) (hb : base ≤ w.heap.size) (hn : (l.length + 1) * 80 ≤ 140737488355328) (x : It) (ty : TypeId) :
    ∃ g cap w', (Builtin.append_ #[60, 60] ty #[v, .slice (some ⟨w.heap.size, 0, none⟩) 1 1]).run Try.prog (w.alloc (.cells x.arr 97)) = .ok (.slice (some ⟨g, 0, none⟩) (l.length + 1) cap) w' ∧
      Own base w' (.slice (some ⟨g, 0, none⟩) (l.length + 1) cap) (l ++ [x]) ∧ (w.alloc (.cells x.arr 97)).grownBy w' v.ownBlock ∧ (v.ownBlock = some g ∨ g = w.heap.size + 1) := by
  obtain ⟨i, hi, hz0, hz1, hz2⟩ := info_parts info97
  have h6 := h.1
  obtain ⟨g, cap, w', h1, h2, h3, h4, _⟩ := run_append_lies (P := Try.prog) (w.alloc (.cells x.arr 97)) 60 ty base 97 i _ 6 80 Try.underlying60 hi hz0 hz1 hz2 rfl (by decide) v l.length (flat l) (h.alloc _) ⟨w.heap.size, 0, none⟩ 1 1 x.cells rfl
    (by
      intro j u hj
      have hc := cellsH (new0 w (.cells x.arr 97)) j
      rw [Addr.add_lit]
      simp only [Nat.zero_add]
      rw [hc]
      simpa [It.cells] using hj) (by have := flat_one' [x]; simpa [flat_one] using this) (by decide) (by unfold maxLen; omega) hn (by simp; omega) _ rfl
  refine ⟨g, cap, w', h1, ?_, h3, by simpa using h4⟩
  unfold Own
  rw [flat_append, flat_one, List.length_append]
  exact h2
/-- An append of items whose run is known, as a step of a region that draws its order. -/
theorem step_append_it {P : Program} {ops : Array Oper} {o : Oper} {a : Act} {w : World} {K : Act → World → Prop} {Q : Exit → Act → World → Prop} {E : Prop}
    (hg : o.guard = none) (s x : Operand) (hop : o.op = Op.call { callee := Callee.builtin Builtin.append, args := #[s, x], argTypes := #[60, 60] }) (hty : o.type = 60)
    (u y : Value) (hs : a.eval s = u) (hx : a.eval x = y) (v : Value) (w' : World) (hrun : (Builtin.append_ #[60, 60] 60 #[u, y]).run P w = .ok v w')
    (hK : K (a.put o.dst v) w') : if Region.wanted o (yielded ops a.tmps) = true then Oper.wp P o a w K Q else E := by
  have hw : Region.wanted o (yielded ops a.tmps) = true := by simp [Region.wanted, hg]
  rw [if_pos hw]
  unfold Oper.wp
  simp [execOp, hop, hty, resolve, invoke, builtin, hs, hx, hrun, Result.andThen]
  exact hK

/-- What it stands for. -/
def absI (l : List It) : List (Int × Ob) := l.map fun x => (x.a, x.o)
def RM.abs (R : RM) : HM := ⟨R.s0, R.s1, R.next, absI R.n, absI R.a⟩
/-- What the reference's Alloc answers. -/
def HM.ralloc (H : HM) (o : Ob) : Int × Int × HM :=
  if vld o = true then (if H.nur ≤ H.ly.length then (0, 33, H) else (H.next, 0, { H with ly := H.ly ++ [(H.next, o)], next := H.next + 1 })) else (0, 1, H)
theorem absI_length (l : List It) : (absI l).length = l.length := by simp [absI]

theorem RHeapAt.turnRB {base : Nat} {w w' : World} {r : Nat} {NV AV : Value} {R : RM} (h : RHeapAt base w r NV AV R) (hb : Below w.heap.size w w') : ∃ NV' R', RHeapAt base w' r NV' AV R' ∧ R'.abs = R.abs ∧ Turn (RB r NV AV) w w' ∧ (∀ g, NV'.ownBlock = some g → NV.ownBlock = some g ∨ w.heap.size ≤ g) :=
  ⟨NV, R, h.fresh hb, rfl, below_turn hb _, fun _ hg => .inl hg⟩

theorem RHeapAt.notN {base : Nat} {w : World} {r : Nat} {NV AV : Value} {R : RM} (h : RHeapAt base w r NV AV R) : NV.ownBlock ≠ some r := by
  intro e
  have := (h.nown.row e).2.two ⟨_, _, h.row⟩
  cases this
theorem RHeapAt.notA {base : Nat} {w : World} {r : Nat} {NV AV : Value} {R : RM} (h : RHeapAt base w r NV AV R) : AV.ownBlock ≠ some r := by
  intro e
  have := (h.aown.row e).2.two ⟨_, _, h.row⟩
  cases this

theorem RHeapAt.setNext {base : Nat} {w : World} {r : Nat} {NV AV : Value} {R : RM} (h : RHeapAt base w r NV AV R) (x : Int) : RHeapAt base (w.setCell ⟨r, 4, none⟩ (.int .i64 x)) r NV AV { R with next := x } := by
  have ht : Turn (· = r) w (w.setCell ⟨r, 4, none⟩ (.int .i64 x)) := (Turn.refl (· = r) w).setCell (p := ⟨r, 4, none⟩) rfl _
  have hn : ∀ k, IsRow 3 w k → ¬ k = r := by
    rintro k hk rfl
    cases hk.two ⟨_, _, h.row⟩
  exact ⟨rowSet h.row 4 _, h.nown.kept fun g hg => Below.heap_setCell _ _ _ _ (fun e => h.notN ((show g = r from e) ▸ hg)), h.aown.kept fun g hg => Below.heap_setCell _ _ _ _ (fun e => h.notA ((show g = r from e) ▸ hg)), h.apart,
    fun y hy => (h.nok y hy).turn ht (fun k _ hk => hn k hk), fun y hy => (h.aok y hy).turn ht (fun k _ hk => hn k hk), h.nsmall, h.asmall⟩
theorem turn_grown {w w' : World} {v : Option Nat} (h : w.grownBy w' v) : Turn (fun k => v = some k) w w' :=
  ⟨h.os, h.tape, h.output, h.size, fun k hk hn => h.block k hk (fun e => hn e.symm)⟩
theorem RHeapAt.notRB3 {base : Nat} {w : World} {r : Nat} {NV AV : Value} {R : RM} (h : RHeapAt base w r NV AV R) : ∀ k, IsRow 3 w k → ¬ RB r NV AV k := by
  rintro k hk (rfl | e | e)
  · cases hk.two ⟨_, _, h.row⟩
  · cases hk.two (h.nown.row e).2
  · cases hk.two (h.aown.row e).2
theorem RHeapAt.grow {base : Nat} {w w6 : World} {r g cap : Nat} {NV AV : Value} {R : RM} {x : It} (h : RHeapAt base w r NV AV R) (hx : ObR 0 w x.val x.o) (hn : R.n.length < 65536)
    (hown : Own base w6 (.slice (some ⟨g, 0, none⟩) (R.n.length + 1) cap) (R.n ++ [x])) (hg : (w.alloc (.cells x.arr 97)).grownBy w6 NV.ownBlock) (hat : NV.ownBlock = some g ∨ g = w.heap.size + 1) :
    RHeapAt base (w6.setCell ⟨r, 2, none⟩ (.slice (some ⟨g, 0, none⟩) (R.n.length + 1) cap)) r (.slice (some ⟨g, 0, none⟩) (R.n.length + 1) cap) AV { R with n := R.n ++ [x] } ∧
      Turn (RB r NV AV) w (w6.setCell ⟨r, 2, none⟩ (.slice (some ⟨g, 0, none⟩) (R.n.length + 1) cap)) := by
  have hlt := h.lt
  have t1 : Turn (RB r NV AV) w w6 := ((Turn.refl (RB r NV AV) w).alloc _).under (turn_grown hg) (fun k _ e => .inr (.inl e))
  have t2 : Turn (RB r NV AV) w (w6.setCell ⟨r, 2, none⟩ (.slice (some ⟨g, 0, none⟩) (R.n.length + 1) cap)) := t1.setCell (.inl rfl) _
  have hr6 : w6.heap[r]? = some (.cells #[.int .i64 R.s0, .int .i64 R.s1, NV, AV, .int .i64 R.next] 92) :=
    (hg.block r (by have := heap_lt (old1 h.row (.cells x.arr 97)); exact this) (fun e => h.notN e.symm)).trans (old1 h.row _)
  have hgr : g ≠ r := by
    rcases hat with e | e
    · intro e'
      exact h.notN (e' ▸ e)
    · omega
  refine ⟨⟨rowSet hr6 2 _, ?_, ?_, ?_, ?_, ?_, by simp; omega, h.asmall⟩, t2⟩
  · have : Own base w6 (.slice (some ⟨g, 0, none⟩) (R.n.length + 1) cap) (R.n ++ [x]) := hown
    refine this.kept fun k hk => ?_
    simp [Value.ownBlock] at hk
    subst hk
    exact Below.heap_setCell _ _ _ _ hgr
  · refine h.aown.kept fun k hk => ?_
    have hkr : k ≠ r := fun e => h.notA (e ▸ hk)
    have hl := (h.aown.lt k hk).2
    rw [Below.heap_setCell _ _ _ _ hkr, hg.block k (by simp; omega) (fun e => h.apart k e.symm hk)]
    exact Below.heap_alloc _ _ _ hl
  · intro k hk hk2
    simp [Value.ownBlock] at hk
    subst hk
    rcases hat with e | e
    · exact h.apart _ e hk2
    · have := (h.aown.lt _ hk2).2
      omega
  · intro y hy
    rcases List.mem_append.1 hy with hy | hy
    · exact (h.nok y hy).turn t2 (fun k _ hk => h.notRB3 k hk)
    · simp at hy
      subst hy
      exact hx.turn t2 (fun k _ hk => h.notRB3 k hk)
  · exact fun y hy => (h.aok y hy).turn t2 (fun k _ hk => h.notRB3 k hk)

set_option maxRecDepth 10000 in
set_option maxHeartbeats 4000000 in
theorem ralloc_any (base : Nat) (ok : Nat → Prop) (w : World) (r : Nat) (NV AV : Value) (R : RM) (v : Value) (o : Ob) (hh : RHeapAt base w r NV AV R) (hbase : base ≤ w.heap.size) (hs0 : R.s0 ≤ 65536) (hnx : 0 ≤ R.next ∧ R.next < 9223372036854775807) (ho : ObAt ok w v o) :
    Calls Try.prog 94 #[.pointer (some ⟨r, 0, none⟩), v] w fun e w' => e = .returned (.tuple #[.int .i64 (R.abs.ralloc o).1, .int .i64 (R.abs.ralloc o).2.1]) ∧
      ∃ NV' R', RHeapAt base w' r NV' AV R' ∧ R'.abs = (R.abs.ralloc o).2.2 ∧ Turn (RB r NV AV) w w' := by
  have hlt := hh.lt
  have HH := Lib.hid hh
  have ho0 := ho
  obtain ⟨rv, wv, rfl, h1, h2⟩ := ho
  obtain ⟨ra, rc, rfl⟩ := h1.shape
  obtain ⟨wa, wc, rfl⟩ := h2.shape
  have HO := Lib.hid ho0
  have bx : Below w.heap.size w (w.alloc (.cells #[.int .i64 o.op, .int .i64 o.n, .int .i64 o.ar, .slice ra o.refs.length rc, .slice wa o.words.length wc] 25)) := (Below.refl _ _).alloc (Nat.le_refl _) _
  have BX := Lib.hid bx
  have HX := Lib.hid (new0 w (.cells #[.int .i64 o.op, .int .i64 o.n, .int .i64 o.ar, .slice ra o.refs.length rc, .slice wa o.words.length wc] 25))
  obtain ⟨hx1, hx2⟩ := hnx
  obtain ⟨A1, k1, rfl⟩ := hh.nown.shape
  clear ho0 h1 h2 hh bx
  go_enter Try.func94, Try.ntmps94
  go_wp2_with fail
  refine (refValid_any ok _ o _ (HO.out.fresh BX.out)).mono ?_
  rintro e w1 ⟨rfl, hb⟩
  have B1 := Lib.hid (below_then BX.out (by simp) hb)
  have X1 := Lib.hid (rowB hb HX.out (by simp))
  have hsz : w.heap.size < w1.heap.size := by have := hb.size; simp at this; omega
  clear hb
  by_cases hv : vld o = true
  · rw [hv]
    have HH1 := Lib.hid (HH.out.fresh B1.out)
    obtain ⟨c0, -, c2, -, c4⟩ := HH1.out.cells
    by_cases hfull : R.s0 ≤ R.n.length
    · have HA := Lib.hid (show R.abs.ralloc o = (0, 33, R.abs) by simp [HM.ralloc, RM.abs, hv, absI_length, hfull])
      clear hv
      go_upto_region 3 with (fail)
      go_quiet (fail)
      go_wp2_with fail
      go_ret2
      exact ⟨by rw [HA.out]; rfl, _, R, (HH1.out.fresh (below_drewN (Below.refl _ _) nq)), by rw [HA.out], below_turn (below_drewN B1.out nq) _⟩
    · have HA := Lib.hid (show R.abs.ralloc o = (R.next, 0, { R.abs with ly := R.abs.ly ++ [(R.next, o)], next := R.next + 1 }) by simp [HM.ralloc, RM.abs, hv, absI_length, hfull])
      clear hv
      go_upto_region 3 with (fail)
      go_quiet (fail)
      go_upto_region 5 with (fail)
      have HHn := Lib.hid (HH1.out.fresh (below_drewN (Below.refl _ _) nq))
      have Bn := Lib.hid (below_drewN B1.out nq)
      have Xn := Lib.hid (show (w1.drewN nq).heap[w.heap.size]? = _ from X1.out)
      have hszn : w.heap.size < (w1.drewN nq).heap.size := hsz
      clear HH1 B1 X1 hsz c0 c2 c4
      generalize w1.drewN nq = wn at *
      obtain ⟨-, -, c2, -, c4⟩ := HHn.out.cells
      have cx := cellsH Xn.out
      have hn1 : (R.n.length + 1) * 80 ≤ 140737488355328 := by omega
      have hw : wrap64 (R.next + 1) = R.next + 1 := by unfold wrap64; omega
      have hw2 : wrap64 (R.next + 1 - 1) = R.next := by unfold wrap64; omega
      go_cut [] from 20 to 35 (fun wx => ∃ NV' R', RHeapAt base wx r NV' AV R' ∧ R'.abs = { R.abs with ly := R.abs.ly ++ [(R.next, o)] } ∧ R'.next = R.next ∧ Turn (RB r (.slice A1 R.n.length k1) AV) w wx)
      case first =>
        go_region_law (first
          | (have hz := HRUN; clear hz; refine step_append_it rfl (.tmp 24) (.tmp 32) rfl rfl (.slice A1 R.n.length k1) (.slice (some ⟨w5.heap.size, 0, none⟩) 1 1) (by simp [Act.eval]) (by simp [Act.eval]) _ w6 HRUN.out ?_)
          | (go_simp; go_at_call 100; refine (rcopied_any ok _ o _ (HO.out.fresh Bn.out.drew)).mono ?_; rintro e w5 ⟨v5, rfl, ho5, hb5⟩; obtain ⟨ra5, rc5, wa5, wc5, rfl⟩ := ho5.open; have HO5 := Lib.hid ho5; have HH5 := Lib.hid (HHn.out.fresh (show Below wn.heap.size wn w5 from undrew hb5)); have X5 := Lib.hid (rowB hb5 Xn.out (heap_lt Xn.out)); have B5 := Lib.hid (below_then Bn.out Bn.out.size (undrew hb5)); have z5 := B5.out.size; obtain ⟨-, -, e2, -, e4⟩ := HH5.out.cells; have e2a := fun p => cellAlloc e2 p; have e4a := fun p => cellAlloc e4 p; have ex := cellsH X5.out; have exa := fun p => cellsH (old1 X5.out p); obtain ⟨g, cap, w6, hrun, hown6, hg6, hat6⟩ := row_append HH5.out.nown (by omega) hn1 ⟨R.next, o, ra5, rc5, wa5, wc5⟩ 60; have r6 := (hg6.block r (by have := heap_lt (old1 HH5.out.row (.cells (⟨R.next, o, ra5, rc5, wa5, wc5⟩ : It).arr 97)); exact this) (fun e => HH5.out.notN e.symm)).trans (old1 HH5.out.row _); have R6 := Lib.hid r6; have f6 := freeH r6; have x6 := cellsH r6; have HRUN := Lib.hid hrun; have HOWN6 := Lib.hid hown6; have HG6 := Lib.hid hg6; have HAT6 := Lib.hid hat6; clear hb5 ho5 hrun hown6 hg6 hat6 r6))
        all_goals go_wp2_with fail
        all_goals
          (go_meet
           case rel =>
             obtain ⟨q1, q2⟩ := HH5.out.grow (x := ⟨R.next, o, ra5, rc5, wa5, wc5⟩) (HO5.out.base (Nat.zero_le _)) (by omega) HOWN6.out HG6.out HAT6.out
             exact ⟨_, _, q1, by simp [RM.abs, absI], rfl, (below_turn B5.out _).trans q2⟩)
      case rest =>
        obtain ⟨NV', R', hh', hab, hnx, ht⟩ := hcut
        have hr1 := hh'.lt
        have HH2 := Lib.hid hh'
        have HAB := Lib.hid hab
        have HNX := Lib.hid hnx
        have HT := Lib.hid ht
        obtain ⟨-, -, -, -, c4⟩ := hh'.cells
        have f4 := freeH hh'.row
        rw [hnx] at c4
        clear hh' hab hnx ht c2 cx
        have c4a : ∀ u, (wc.setCell ⟨r, 4, none⟩ u).cell? ⟨r, 4, none⟩ = some u := fun u => by
          have := cellsH (rowSet HH2.out.row 4 u) 4
          simpa using this
        go_wp2_with fail
        go_ret2
        refine ⟨by rw [HA.out]; rfl, NV', { R' with next := R.next + 1 }, HH2.out.setNext _, ?_, HT.out.setCell (.inl rfl) _⟩
        have := HAB.out
        simp only [RM.abs, HM.mk.injEq] at this
        obtain ⟨b1, b2, b3, b4, b5⟩ := this
        rw [HA.out]
        simp [RM.abs, b1, b2, b4, b5]
  · have hv : vld o = false := by simpa using hv
    have HA := Lib.hid (show R.abs.ralloc o = (0, 1, R.abs) by simp [HM.ralloc, hv])
    rw [hv]
    clear hv
    go_wp2_with fail
    go_ret2
    exact ⟨by rw [HA.out]; rfl, _, R, HH.out.fresh B1.out, by rw [HA.out], below_turn B1.out _⟩
end Go.Proofs.Ytobniolmielikaa

/- The reference heap: an item written in its place; no condition. -/
namespace Go.Proofs.Ytobniolmielikaa
open Go.RowKit

/-- The object of an item overwritten. -/
def setO (w : World) (g p : Nat) (x : It) : World :=
  ((((w.setCell ⟨g, p + 1, none⟩ (.int .i64 x.o.op)).setCell ⟨g, p + 1 + 1, none⟩ (.int .i64 x.o.n)).setCell ⟨g, p + 1 + 2, none⟩ (.int .i64 x.o.ar)).setCell ⟨g, p + 1 + 3, none⟩ (.slice x.ra x.o.refs.length x.rc)).setCell ⟨g, p + 1 + 4, none⟩ (.slice x.wa x.o.words.length x.wc)
theorem setO_row {w : World} {g : Nat} {cur : Array Value} {T : TypeId} {f : Nat × Nat} (h : w.heap[g]? = some (.cells cur T f)) (p : Nat) (x : It) :
    (setO w g p x).heap[g]? = some (.cells (((((cur.setIfInBounds (p + 1) (.int .i64 x.o.op)).setIfInBounds (p + 2) (.int .i64 x.o.n)).setIfInBounds (p + 3) (.int .i64 x.o.ar)).setIfInBounds (p + 4) (.slice x.ra x.o.refs.length x.rc)).setIfInBounds (p + 5) (.slice x.wa x.o.words.length x.wc)) T f) :=
  rowSet (rowSet (rowSet (rowSet (rowSet h (p + 1) _) (p + 1 + 1) _) (p + 1 + 2) _) (p + 1 + 3) _) (p + 1 + 4) _
theorem setO_ne {w : World} {g k p : Nat} {x : It} {o : Obj} (h : w.heap[k]? = some o) (hne : k ≠ g) : (setO w g p x).heap[k]? = some o :=
  rowSetNe (rowSetNe (rowSetNe (rowSetNe (rowSetNe h hne _) hne _) hne _) hne _) hne _
theorem setO_turn {S : Nat → Prop} {w0 w : World} {g p : Nat} {x : It} (ht : Turn S w0 w) (hg : S g) : Turn S w0 (setO w g p x) :=
  ((((ht.setCell (p := ⟨g, p + 1, none⟩) hg _).setCell (p := ⟨g, p + 1 + 1, none⟩) hg _).setCell (p := ⟨g, p + 1 + 2, none⟩) hg _).setCell (p := ⟨g, p + 1 + 3, none⟩) hg _).setCell (p := ⟨g, p + 1 + 4, none⟩) hg _

theorem Own.pos {base : Nat} {w : World} {v : Value} {l : List It} (h : Own base w v l) (hl : 0 < l.length) : ∃ g cap cur, v = .slice (some ⟨g, 0, none⟩) l.length cap ∧ w.heap[g]? = some (.cells cur 97 (0, 0)) := by
  rcases h.2 with ⟨_, h0⟩ | ⟨g, cap, cur, e, _, hb, _⟩
  · omega
  · exact ⟨g, cap, cur, e, hb⟩
theorem flat_set_get {l : List It} {i : Nat} {x : It} (q s : Nat) (hq : q < l.length) (hs : s < 6) : (flat (l.set i x))[q * 6 + s]? = if q = i then x.cells[s]? else (flat l)[q * 6 + s]? := by
  have h1 : (l.set i x)[q]? = some (if q = i then x else l[q]) := by
    rw [List.getElem?_set]
    split
    · rename_i e
      subst e
      simp [hq]
    · rename_i e
      rw [if_neg (fun e' => e e'.symm), List.getElem?_eq_getElem hq]
  rw [flat_get _ q _ s h1 hs]
  split
  · rfl
  · rw [flat_get l q l[q] s (List.getElem?_eq_getElem hq) hs]
theorem Own.setIt {base : Nat} {w : World} {l : List It} {g n cap i : Nat} {x x' : It} (h : Own base w (.slice (some ⟨g, 0, none⟩) n cap) l) (hi : l[i]? = some x) (ha : x'.a = x.a) :
    Own base (setO w g (i * 6) x') (.slice (some ⟨g, 0, none⟩) n cap) (l.set i x') := by
  have hil := (List.getElem?_eq_some_iff.1 hi).1
  rcases h.2 with ⟨e, _⟩ | ⟨g', cap', cur, e, hb, hh, h1, h2, h3, h4⟩
  · cases e
  · obtain ⟨rfl, rfl, rfl⟩ : g = g' ∧ n = l.length ∧ cap = cap' := by simpa using e
    have hls : (l.set i x').length = l.length := List.length_set ..
    refine ⟨by rw [flat_length], .inr ⟨g, cap, _, by rw [hls], hb, setO_row hh (i * 6) x', by rw [hls]; exact h1, h2, ?_, ?_⟩⟩
    · simp only [Array.size_setIfInBounds]; exact h3
    rw [hls]
    refine List.ext_getElem? fun j => ?_
    by_cases hj : j < l.length * 6
    · obtain ⟨q, s, hs, rfl⟩ : ∃ q s, s < 6 ∧ j = q * 6 + s := ⟨j / 6, j % 6, by omega, by omega⟩
      have hq : q < l.length := by omega
      rw [flat_set_get q s hq hs, List.getElem?_take, if_pos hj, Array.getElem?_toList]
      have hc : cur[q * 6 + s]? = (flat l)[q * 6 + s]? := by rw [← h4, List.getElem?_take, if_pos hj, Array.getElem?_toList]
      have hsz : q * 6 + s < cur.size := by rw [h3]; omega
      by_cases hqi : q = i
      · subst hqi
        rw [if_pos rfl]
        have hx0 : cur[q * 6 + 0]? = some (.int .i64 x.a) := by
          have := flat_get l q x 0 hi (by omega)
          rw [← h4, List.getElem?_take, if_pos (by omega), Array.getElem?_toList] at this
          exact this
        have h0 : s = 0 ∨ s = 1 ∨ s = 2 ∨ s = 3 ∨ s = 4 ∨ s = 5 := by omega
        have hcap : l.length * 6 ≤ cap * 6 := Nat.mul_le_mul_right 6 h1
        rcases h0 with rfl | rfl | rfl | rfl | rfl | rfl
        · simp [It.cells, ha]
          simpa using hx0
        all_goals simp [Array.getElem?_setIfInBounds, It.cells]
        all_goals omega
      · rw [if_neg hqi, ← hc]
        have : ∀ t, 1 ≤ t → t < 6 → ¬ (i * 6 + t = q * 6 + s) := by intro t ht1 ht2; omega
        simp [this 1 (by omega) (by omega), this 2 (by omega) (by omega), this 3 (by omega) (by omega), this 4 (by omega) (by omega), this 5 (by omega) (by omega)]
    · rw [List.getElem?_eq_none (by simp; omega), List.getElem?_eq_none (by rw [flat_length, List.length_set]; omega)]

theorem absI_vals (l : List It) : absI l = vals (fun x => x.o) (keyed l) := by simp [absI, vals, keyed]
theorem get_abs (l : List It) (k : Int) : get (absI l) k = (get (keyed l) k).map (·.o) := by rw [absI_vals, get_vals]
theorem put_abs {l : List It} {k : Int} {i : Nat} {x x' : It} (h : fnd l k = i) (hi : l[i]? = some x) (hg : get (keyed l) k = some x) (ha : x'.a = k) : absI (l.set i x') = put (absI l) k x'.o := by
  have hx : ix (keyed l) k = some (i, x) := by
    cases hh : ix (keyed l) k with
    | none => simp [Go.Proofs.Ytobniolmielikaa.get, hh] at hg
    | some q =>
      obtain ⟨j, y⟩ := q
      have h1 : fnd l k = j := by simp [fnd, hh]
      have hji : j = i := by omega
      subst hji
      have h2 := ix_get hh
      simp only [keyed, List.getElem?_map, hi, Option.map_some, Option.some.injEq, Prod.mk.injEq] at h2
      rw [h2.2]
  have h3 : ix (absI l) k = some (i, x.o) := by rw [absI_vals, ix_vals, hx]; rfl
  have e : put (absI l) k x'.o = (absI l).set i (k, x'.o) := by simp [put, h3]
  rw [e]
  simp [absI, List.map_set, ha]
end Go.Proofs.Ytobniolmielikaa

/- The reference heap: Set; no condition. -/
namespace Go.Proofs.Ytobniolmielikaa
open Go.RowKit

theorem cellOf {w : World} {g : Nat} {cs : Array Value} {T : TypeId} {f : Nat × Nat} (h : w.heap[g]? = some (.cells cs T f)) (i : Nat) (v : Value) (hv : cs[i]? = some v) : w.cell? ⟨g, i, none⟩ = some v := row_cells h i v hv
theorem boxCells {w : World} {g : Nat} {a b c d e : Value} {T : TypeId} {f : Nat × Nat} (h : w.heap[g]? = some (.cells #[a, b, c, d, e] T f)) :
    w.cell? ⟨g, 0, none⟩ = some a ∧ w.cell? ⟨g, 1, none⟩ = some b ∧ w.cell? ⟨g, 2, none⟩ = some c ∧ w.cell? ⟨g, 3, none⟩ = some d ∧ w.cell? ⟨g, 4, none⟩ = some e :=
  ⟨row_cells h 0 _ rfl, row_cells h 1 _ rfl, row_cells h 2 _ rfl, row_cells h 3 _ rfl, row_cells h 4 _ rfl⟩

theorem RHeapAt.setN {base : Nat} {w : World} {r g n cap i : Nat} {AV : Value} {R : RM} {x x' : It} (h : RHeapAt base w r (.slice (some ⟨g, 0, none⟩) n cap) AV R) (hi : R.n[i]? = some x) (ha : x.a = x'.a) (hx : ObR 0 w x'.val x'.o) :
    RHeapAt base (setO w g (i * 6) x') r (.slice (some ⟨g, 0, none⟩) n cap) AV { R with n := R.n.set i x' } ∧ Turn (RB r (.slice (some ⟨g, 0, none⟩) n cap) AV) w (setO w g (i * 6) x') := by
  have t : Turn (RB r (.slice (some ⟨g, 0, none⟩) n cap) AV) w (setO w g (i * 6) x') := setO_turn (Turn.refl _ _) (.inr (.inl rfl))
  have tg : Turn (· = g) w (setO w g (i * 6) x') := setO_turn (Turn.refl _ _) rfl
  refine ⟨⟨setO_ne h.row (fun e => h.notN (e ▸ rfl)), h.nown.setIt hi ha.symm, ?_, h.apart, ?_, fun y hy => (h.aok y hy).turn t (fun k _ hk => h.notRB3 k hk), by simpa using h.nsmall, h.asmall⟩, t⟩
  · exact h.aown.kept fun k hk => tg.block k (h.aown.lt k hk).2 (fun e => h.apart g rfl (e ▸ hk))
  · intro y hy
    rcases List.mem_or_eq_of_mem_set hy with hy | rfl
    · exact (h.nok y hy).turn t (fun k _ hk => h.notRB3 k hk)
    · exact hx.turn t (fun k _ hk => h.notRB3 k hk)
theorem RHeapAt.setA {base : Nat} {w : World} {r g n cap i : Nat} {NV : Value} {R : RM} {x x' : It} (h : RHeapAt base w r NV (.slice (some ⟨g, 0, none⟩) n cap) R) (hi : R.a[i]? = some x) (ha : x.a = x'.a) (hx : ObR 0 w x'.val x'.o) :
    RHeapAt base (setO w g (i * 6) x') r NV (.slice (some ⟨g, 0, none⟩) n cap) { R with a := R.a.set i x' } ∧ Turn (RB r NV (.slice (some ⟨g, 0, none⟩) n cap)) w (setO w g (i * 6) x') := by
  have t : Turn (RB r NV (.slice (some ⟨g, 0, none⟩) n cap)) w (setO w g (i * 6) x') := setO_turn (Turn.refl _ _) (.inr (.inr rfl))
  have tg : Turn (· = g) w (setO w g (i * 6) x') := setO_turn (Turn.refl _ _) rfl
  refine ⟨⟨setO_ne h.row (fun e => h.notA (e ▸ rfl)), ?_, h.aown.setIt hi ha.symm, h.apart, fun y hy => (h.nok y hy).turn t (fun k _ hk => h.notRB3 k hk), ?_, h.nsmall, by simpa using h.asmall⟩, t⟩
  · exact h.nown.kept fun k hk => tg.block k (h.nown.lt k hk).2 (fun e => h.apart k hk (e ▸ rfl))
  · intro y hy
    rcases List.mem_or_eq_of_mem_set hy with hy | rfl
    · exact (h.aok y hy).turn t (fun k _ hk => h.notRB3 k hk)
    · exact hx.turn t (fun k _ hk => h.notRB3 k hk)

set_option maxHeartbeats 1000000 in
theorem rset_any (base : Nat) (ok : Nat → Prop) (w : World) (r : Nat) (NV AV : Value) (R : RM) (k : Int) (v : Value) (o : Ob) (hh : RHeapAt base w r NV AV R) (ho : ObAt ok w v o) :
    Calls Try.prog 92 #[.pointer (some ⟨r, 0, none⟩), .int .i64 k, v] w fun e w' => e = .returned (.int .i64 (R.abs.set k o).1) ∧
      ∃ R', RHeapAt base w' r NV AV R' ∧ R'.abs = (R.abs.set k o).2 ∧ Turn (RB r NV AV) w w' := by
  have hlt := hh.lt
  have HH := Lib.hid hh
  have ho0 := ho
  obtain ⟨rv, wv, rfl, h1, h2⟩ := ho
  obtain ⟨ra, rc, rfl⟩ := h1.shape
  obtain ⟨wa, wc, rfl⟩ := h2.shape
  have HO := Lib.hid ho0
  have bx : Below w.heap.size w (w.alloc (.cells #[.int .i64 o.op, .int .i64 o.n, .int .i64 o.ar, .slice ra o.refs.length rc, .slice wa o.words.length wc] 25)) := (Below.refl _ _).alloc (Nat.le_refl _) _
  have BX := Lib.hid bx
  have HX := Lib.hid (new0 w (.cells #[.int .i64 o.op, .int .i64 o.n, .int .i64 o.ar, .slice ra o.refs.length rc, .slice wa o.words.length wc] 25))
  clear ho0 h1 h2 hh bx
  go_enter Try.func92, Try.ntmps92
  go_wp2_with fail
  refine (refValid_any ok _ o _ (HO.out.fresh BX.out)).mono ?_
  rintro e w1 ⟨rfl, hb⟩
  have B1 := Lib.hid (below_then BX.out (by simp) hb)
  have X1 := Lib.hid (rowB hb HX.out (by simp))
  clear hb
  by_cases hv : vld o = true
  · rw [hv]
    have HV := Lib.hid hv
    clear hv
    have HH1 := Lib.hid (HH.out.fresh B1.out)
    have x1 := boxCells X1.out
    have HN := Lib.hid HH1.out.rawN
    have HA := Lib.hid HH1.out.rawA
    obtain ⟨-, -, c2, c3, -⟩ := HH1.out.cells
    go_wp2_with fail
    refine (find_any _ w1 _ R.n k HN.out).mono ?_
    rintro e w2 ⟨rfl, rfl⟩
    rcases fnd_cases R.n k with ⟨i, x, g1, g2, g3, ha⟩ | ⟨g1, g3⟩
    · rw [g1]
      have hil := (List.getElem?_eq_some_iff.1 g2).1
      obtain ⟨g, cap, cur, eN, hgrow⟩ := HH1.out.nown.pos (by omega)
      subst eN
      obtain ⟨b', p', eA, hat⟩ := HN.out.at g2
      obtain ⟨rfl, rfl⟩ : g = b' ∧ 0 = p' := by simpa using eA
      rw [Nat.zero_add] at hat
      have IT := Lib.hid hat
      have hgr : g ≠ r := fun e => HH1.out.notN (e ▸ rfl)
      have hgx : g ≠ w.heap.size := by
        rintro rfl
        rw [X1.out] at hgrow
        cases hgrow
      have HG := Lib.hid (show R.abs.set k o = (0, { R.abs with ly := put R.abs.ly k o }) by simp [HM.set, RM.abs, HV.out, get_abs, g3])
      clear hat eA
      have c2d : w2.drew.cell? ⟨r, 2, none⟩ = some (.slice (some ⟨g, 0, none⟩) R.n.length cap) := c2
      have x1d := boxCells (show w2.drew.heap[w.heap.size]? = _ from X1.out)
      go_upto_region 5 with (fail)
      go_region_held3 (fun w' => w'.cell? ⟨r, 2, none⟩ = some (.slice (some ⟨g, 0, none⟩) R.n.length cap) ∧ w'.cell? ⟨w.heap.size, 0, none⟩ = some (.int .i64 o.op) ∧ w'.cell? ⟨w.heap.size, 1, none⟩ = some (.int .i64 o.n) ∧ w'.cell? ⟨w.heap.size, 2, none⟩ = some (.int .i64 o.ar) ∧ w'.cell? ⟨w.heap.size, 3, none⟩ = some (.slice ra o.refs.length rc) ∧ w'.cell? ⟨w.heap.size, 4, none⟩ = some (.slice wa o.words.length wc))
        (first | with_reducible exact ⟨c2d, x1d⟩ | with_reducible exact ⟨e2, x5⟩ | with_reducible exact ⟨y2, y5⟩)
        (first | (go_at_call 100; refine (rcopied_any ok _ o _ (HO.out.fresh B1.out.drew)).mono ?_; rintro e w5 ⟨v5, rfl, ho5, hb5⟩; obtain ⟨ra5, rc5, wa5, wc5, rfl⟩ := ho5.open; have HO5 := Lib.hid ho5; have hh5 := HH1.out.fresh (undrew hb5); have HH5 := Lib.hid hh5; have B5 := Lib.hid (below_then B1.out B1.out.size (undrew hb5)); obtain ⟨-, -, e2, -, -⟩ := hh5.cells; have hx5 := rowB (undrew hb5) X1.out (heap_lt X1.out); have X5 := Lib.hid hx5; have x5 := boxCells hx5; have hg5 := rowB (undrew hb5) hgrow (heap_lt hgrow); have G5 := Lib.hid hg5; have f5 := freeH hg5; have it5 := IT.out.keep (w' := w5) ((undrew hb5).block g (heap_lt hgrow)); obtain ⟨-, d1, d2, d3, d4, d5⟩ := it5; have y2 : World.cell? _ _ = some (.slice (some ⟨g, 0, none⟩) R.n.length cap) := cellOf (setO_ne (p := i * 6) (x := ⟨k, o, ra5, rc5, wa5, wc5⟩) hh5.row hgr.symm) 2 _ rfl; have y5 := boxCells (setO_ne (p := i * 6) (x := ⟨k, o, ra5, rc5, wa5, wc5⟩) hx5 hgx.symm); unfold setO at y2 y5; clear hb5 ho5 hh5 hx5 hg5))
      go_wp2_with fail
      go_ret
      obtain ⟨q1, q2⟩ := HH5.out.setN (x' := ⟨k, o, ra5, rc5, wa5, wc5⟩) g2 ha (HO5.out.base (Nat.zero_le _))
      exact ⟨by rw [HG.out]; rfl, { R with n := R.n.set i ⟨k, o, ra5, rc5, wa5, wc5⟩ }, q1, by rw [HG.out]; simp only [RM.abs]; rw [put_abs (x' := ⟨k, o, ra5, rc5, wa5, wc5⟩) g1 g2 g3 rfl], (below_turn B5.out _).trans q2⟩
    · rw [g1]
      have G3 := Lib.hid g3
      clear g1 g3
      go_wp2_with fail
      refine (find_any _ w2 _ R.a k HA.out).mono ?_
      rintro e w3 ⟨rfl, rfl⟩
      rcases fnd_cases R.a k with ⟨i, x, g1, g2, g3, ha⟩ | ⟨g1, g3⟩
      · rw [g1]
        have hil := (List.getElem?_eq_some_iff.1 g2).1
        obtain ⟨g, cap, cur, eN, hgrow⟩ := HH1.out.aown.pos (by omega)
        subst eN
        obtain ⟨b', p', eA, hat⟩ := HA.out.at g2
        obtain ⟨rfl, rfl⟩ : g = b' ∧ 0 = p' := by simpa using eA
        rw [Nat.zero_add] at hat
        have IT := Lib.hid hat
        have hgr : g ≠ r := fun e => HH1.out.notA (e ▸ rfl)
        have hgx : g ≠ w.heap.size := by
          rintro rfl
          rw [X1.out] at hgrow
          cases hgrow
        have HG := Lib.hid (show R.abs.set k o = (0, { R.abs with la := put R.abs.la k o }) by simp [HM.set, RM.abs, HV.out, get_abs, G3.out, g3])
        clear hat eA
        have c3d : w3.drew.cell? ⟨r, 3, none⟩ = some (.slice (some ⟨g, 0, none⟩) R.a.length cap) := c3
        have x1d := boxCells (show w3.drew.heap[w.heap.size]? = _ from X1.out)
        go_upto_region 9 with (fail)
        go_region_held3 (fun w' => w'.cell? ⟨r, 3, none⟩ = some (.slice (some ⟨g, 0, none⟩) R.a.length cap) ∧ w'.cell? ⟨w.heap.size, 0, none⟩ = some (.int .i64 o.op) ∧ w'.cell? ⟨w.heap.size, 1, none⟩ = some (.int .i64 o.n) ∧ w'.cell? ⟨w.heap.size, 2, none⟩ = some (.int .i64 o.ar) ∧ w'.cell? ⟨w.heap.size, 3, none⟩ = some (.slice ra o.refs.length rc) ∧ w'.cell? ⟨w.heap.size, 4, none⟩ = some (.slice wa o.words.length wc))
          (first | with_reducible exact ⟨c3d, x1d⟩ | with_reducible exact ⟨e3, x5⟩ | with_reducible exact ⟨y2, y5⟩)
          (first | (go_at_call 100; refine (rcopied_any ok _ o _ (HO.out.fresh B1.out.drew)).mono ?_; rintro e w5 ⟨v5, rfl, ho5, hb5⟩; obtain ⟨ra5, rc5, wa5, wc5, rfl⟩ := ho5.open; have HO5 := Lib.hid ho5; have hh5 := HH1.out.fresh (undrew hb5); have HH5 := Lib.hid hh5; have B5 := Lib.hid (below_then B1.out B1.out.size (undrew hb5)); obtain ⟨-, -, -, e3, -⟩ := hh5.cells; have hx5 := rowB (undrew hb5) X1.out (heap_lt X1.out); have X5 := Lib.hid hx5; have x5 := boxCells hx5; have hg5 := rowB (undrew hb5) hgrow (heap_lt hgrow); have G5 := Lib.hid hg5; have f5 := freeH hg5; have it5 := IT.out.keep (w' := w5) ((undrew hb5).block g (heap_lt hgrow)); obtain ⟨-, d1, d2, d3, d4, d5⟩ := it5; have y2 : World.cell? _ _ = some (.slice (some ⟨g, 0, none⟩) R.a.length cap) := cellOf (setO_ne (p := i * 6) (x := ⟨k, o, ra5, rc5, wa5, wc5⟩) hh5.row hgr.symm) 3 _ rfl; have y5 := boxCells (setO_ne (p := i * 6) (x := ⟨k, o, ra5, rc5, wa5, wc5⟩) hx5 hgx.symm); unfold setO at y2 y5; clear hb5 ho5 hh5 hx5 hg5))
        go_wp2_with fail
        go_ret
        obtain ⟨q1, q2⟩ := HH5.out.setA (x' := ⟨k, o, ra5, rc5, wa5, wc5⟩) g2 ha (HO5.out.base (Nat.zero_le _))
        exact ⟨by rw [HG.out]; rfl, { R with a := R.a.set i ⟨k, o, ra5, rc5, wa5, wc5⟩ }, q1, by rw [HG.out]; simp only [RM.abs]; rw [put_abs (x' := ⟨k, o, ra5, rc5, wa5, wc5⟩) g1 g2 g3 rfl], (below_turn B5.out _).trans q2⟩
      · rw [g1]
        have HG := Lib.hid (show R.abs.set k o = (35, R.abs) by simp [HM.set, RM.abs, HV.out, get_abs, G3.out, g3])
        clear g1 g3
        go_wp2_with fail
        go_ret
        exact ⟨by rw [HG.out]; rfl, R, HH1.out, by rw [HG.out], below_turn B1.out _⟩
  · have hv : vld o = false := by simpa using hv
    have HG := Lib.hid (show R.abs.set k o = (1, R.abs) by simp [HM.set, hv])
    rw [hv]
    clear hv
    go_wp2_with fail
    go_ret
    exact ⟨by rw [HG.out]; rfl, R, HH.out.fresh B1.out, by rw [HG.out], below_turn B1.out _⟩
end Go.Proofs.Ytobniolmielikaa

/- The reference heap: merge; no condition. -/
namespace Go.Proofs.Ytobniolmielikaa
open Go.RowKit

theorem size60 (W : World) : (sizeOf (Try.prog.elem 60)).run Try.prog W = .ok 6 W := by kernel_rfl
theorem Own.base {B B' : Nat} {w : World} {v : Value} {l : List It} (h : Own B w v l) (hb : B' ≤ B) : Own B' w v l := by
  refine ⟨h.1, ?_⟩
  rcases h.2 with h0 | ⟨g, cap, cur, e, hg, rest⟩
  · exact .inl h0
  · exact .inr ⟨g, cap, cur, e, Nat.le_trans hb hg, rest⟩
theorem raw_one {w : World} {g : Nat} {x : It} (h : w.heap[g]? = some (.cells x.arr 97)) : Raw (fun _ => True) w (.slice (some ⟨g, 0, none⟩) 1 1) [x] := by
  refine ⟨_, 1, rfl, by simp, by simp [maxLen], (fun h => by cases h), fun _ => ⟨g, 0, rfl, trivial, heap_lt h, ?_⟩, by simp⟩
  intro k y hy
  match k, hy with
  | 0, hy =>
    simp at hy
    subst hy
    exact ⟨row_cells h 0 _ rfl, row_cells h 1 _ rfl, row_cells h 2 _ rfl, row_cells h 3 _ rfl, row_cells h 4 _ rfl, row_cells h 5 _ rfl⟩
theorem Raw.drop {ok : Nat → Prop} {w : World} {A : Option Addr} {n c : Nat} {l : List It} (h : Raw ok w (.slice A n c) l) {k : Nat} (hk : k ≤ l.length) : Raw ok w (.slice (if c = k then A else A.map (·.add (k * 6))) (l.length - k) (c - k)) (l.drop k) := by
  obtain ⟨A', cap, e, h1, h2, h3, h4, h5⟩ := h
  cases e
  have hlen : (l.drop k).length = l.length - k := by simp
  refine ⟨_, _, by rw [hlen], by omega, by omega, ?_, fun h0 => ?_, by omega⟩
  · intro hn
    split at hn
    · omega
    · cases A with
      | none => have := h3 rfl; omega
      | some ad => cases hn
  · obtain ⟨b, o, rfl, hk', hl, hc⟩ := h4 (by omega)
    rw [if_neg (by omega)]
    refine ⟨b, o + k * 6, by simp [Addr.add_lit], hk', hl, fun j y hj => ?_⟩
    rw [List.getElem?_drop] at hj
    have := hc (k + j) y hj
    rw [Nat.add_mul, ← Nat.add_assoc] at this
    exact this
/-- 'l[k:]'. -/
theorem its_rest {ok : Nat → Prop} {w : World} {A : Option Addr} {c : Nat} {l : List It} (h : Raw ok w (.slice A l.length c) l) {k : Nat} (hk : k ≤ l.length) :
    ∃ B, Raw ok w (.slice B (l.length - k) (c - k)) (l.drop k) ∧ ∀ W, (Instr.slice 60 (.slice A l.length c) (some (.int .i64 k)) none none).run Try.prog W = .ok (.slice B (l.length - k) (c - k)) W := by
  have hcap : l.length ≤ c := by
    obtain ⟨A', cap, e, h1, _⟩ := h
    cases e
    exact h1
  have hel : Try.prog.underlying 60 = some (.slice (Try.prog.elem 60)) := by kernel_rfl
  refine ⟨_, h.drop hk, fun W => ?_⟩
  rw [run_slice_l W 60 A l.length c hel .i64 k (by omega) (by omega), size60]
  simp only [Result.andThen, sliced, Int.toNat_natCast]

/-- 'append(s, x...)', both of items, s a row of the call's own. -/
theorem wpList_append_it (w : World) {ops : Array Oper} {rest : List Oper} {o : Oper} {a : Act} {Q : Exit → Act → World → Prop} (hgd : o.guard = none) (s x : Operand)
    (ho : o.op = .call { callee := .builtin .append, args := #[s, x], argTypes := #[60, 60] }) (base : Nat)
    (v : Value) (l : List It) (hs : a.eval s = v) (hown : Own base w v l) (ok : Nat → Prop) (u : Value) (ys : List It) (hx : a.eval x = u) (hu : Raw ok w u ys)
    (hbytes : (l.length + ys.length) * 80 ≤ 140737488355328) (hbase : base ≤ w.heap.size)
    (h : ∀ v' w', Own base w' v' (l ++ ys) → w.grownBy w' v.ownBlock → wpList Try.prog ops Q rest (a.put o.dst v') w') : wpList Try.prog ops Q (o :: rest) a w := by
  obtain ⟨i, hi, hz0, hz1, hz2⟩ := info_parts info97
  obtain ⟨A, cap, rfl, h1, h2, h3, h4, h5⟩ := hu
  cases A with
  | none =>
    have hc := h3 rfl
    subst hc
    have hy : ys = [] := List.eq_nil_of_length_eq_zero (by omega)
    subst hy
    refine wpList_append_own_none hgd s x 60 ho base 97 i 6 Try.underlying60 hi v l.length _ hs hown hx ?_
    exact h v w (by simpa using hown) (World.grownBy.refl _ _)
  | some ad =>
    refine wpList_append_own w hgd s x 60 ho base 97 i _ 6 80 Try.underlying60 hi hz0 hz1 hz2 rfl (by decide) v l.length (flat l) hs hown ad ys.length cap (flat ys) hx (flat_length ys) ?_ (flat_one' ys) (by unfold maxLen; omega) hbytes hbase ?_
    · intro j y hj
      have hjl := (List.getElem?_eq_some_iff.1 hj).1
      rw [flat_length] at hjl
      obtain ⟨b, p, e, _, _, hc⟩ := h4 (by omega)
      cases e
      obtain ⟨q, t, ht, rfl⟩ : ∃ q t, t < 6 ∧ j = q * 6 + t := ⟨j / 6, j % 6, by omega, by omega⟩
      have hq : q < ys.length := by omega
      have h6 := flat_get ys q ys[q] t (List.getElem?_eq_getElem hq) ht
      rw [hj] at h6
      have := (hc q ys[q] (List.getElem?_eq_getElem hq)).get t y h6.symm
      rw [Addr.add_lit, ← Nat.add_assoc]
      exact this
    · intro v' w' r1 r2 _
      refine h v' w' ?_ r2
      unfold Own
      rw [List.length_append, flat_append]
      exact r1

/-- An item put among ascending items. -/
def mrg (l : List It) (x : It) : List It := l.takeWhile (fun y => decide (y.a < x.a)) ++ x :: l.dropWhile (fun y => decide (y.a < x.a))
theorem mrg_at {l : List It} {x : It} : ∀ {i : Nat}, (∀ j, j < i → ∀ y, l[j]? = some y → y.a < x.a) → (∀ y, l[i]? = some y → ¬ y.a < x.a) → mrg l x = l.take i ++ x :: l.drop i := by
  unfold mrg
  induction l with
  | nil => intro i _ _; simp
  | cons z r ih =>
    intro i h1 h2
    cases i with
    | zero =>
      have := h2 z rfl
      simp [List.takeWhile, List.dropWhile, this]
    | succ i =>
      have h0 := h1 0 (by omega) z rfl
      have := ih (i := i) (fun j hj y hy => h1 (j + 1) (by omega) y (by simpa using hy)) (fun y hy => h2 y (by simpa using hy))
      simp only [List.takeWhile, List.dropWhile, h0, decide_true, List.cons_append, List.take_succ_cons, List.drop_succ_cons]
      rw [this]
theorem mrg_length (l : List It) (x : It) : (mrg l x).length = l.length + 1 := by
  have := congrArg List.length (List.takeWhile_append_dropWhile (p := fun y : It => decide (y.a < x.a)) (l := l))
  simp only [mrg, List.length_append, List.length_cons] at this ⊢
  omega
end Go.Proofs.Ytobniolmielikaa

/- The reference heap: the walk of merge; no condition. -/
namespace Go.Proofs.Ytobniolmielikaa
open Go.RowKit

theorem own_made1 (w : World) (o : Obj) : Own (w.heap.size + 1) ((w.alloc o).alloc (.cells #[] 97)) (.slice (some ⟨w.heap.size + 1, 0, none⟩) 0 0) [] := by
  have := World.ownsRow_made (w.alloc o) (base := w.heap.size + 1) (e := 97) (size := 6) #[] 0 (by simp) (by simp [maxLen]) rfl
  simp only [World.size_alloc] at this
  exact this

theorem take_snoc {l : List It} {k : Nat} {y : It} (h : l[k]? = some y) : l.take (k + 1) = l.take k ++ [y] := by
  rw [List.take_add_one, h]
  rfl

/-- Where merge stands. -/
structure MrgAt (w : World) (x : It) (l : List It) (i : Nat) (u : Value) (W : World) : Prop where
  own : Own (w.heap.size + 1) W u (l.take i)
  box : W.heap[w.heap.size]? = some (.cells x.arr 97)
  low : ∀ j, j < i → ∀ y, l[j]? = some y → y.a < x.a
  bel : Below w.heap.size w W

set_option maxHeartbeats 2000000 in
theorem merge_any (ok : Nat → Prop) (w : World) (v : Value) (l : List It) (x : It) (h : Raw ok w v l) (hl1 : (l.length + 1) * 80 ≤ 140737488355328) :
    Calls Try.prog 98 #[v, .agg x.arr] w fun e w' => ∃ v', e = .returned v' ∧ Own w.heap.size w' v' (mrg l x) ∧ Below w.heap.size w w' := by
  obtain ⟨A, c, rfl⟩ := h.shape
  have H := Lib.hid h
  clear h
  go_enter Try.func98, Try.ntmps98
  go_wp2_with fail
  go_loopw [5, 6] (fun u i wr => ∃ k : Nat, k ≤ l.length ∧ i = .int .i64 k ∧ MrgAt w x l k u wr) (fun _ i _ => l.length - (intOf i).toNat)
  case atStart => exact ⟨0, Nat.zero_le _, rfl, ⟨own_made1 _ _, old1 (new0 _ _) _, fun j hj => by omega, ((Below.refl _ _).alloc (Nat.le_refl _) _).alloc (by simp) _⟩⟩
  case round =>
    obtain ⟨k, hk, rfl, hm⟩ := hrel
    have HM := Lib.hid hm
    have hsz := hm.bel.size
    have hbx := heap_lt hm.box
    have cb := cellsH hm.box
    have HL := Lib.hid (H.out.fresh hm.bel)
    obtain ⟨B, hB, hcut⟩ := its_rest H.out hk
    have HB := Lib.hid hB
    have hlt' : (l.take k).length = k := by simp; omega
    have HLT := Lib.hid hlt'
    clear hm hB hlt'
    by_cases hlt : k < l.length
    · have hx := List.getElem?_eq_getElem hlt
      generalize hy : l[k] = y at hx
      have HX := Lib.hid hx
      obtain ⟨b, o, rfl, hat⟩ := HL.out.at hx
      have HAT := Lib.hid hat
      have c0 := hat.c0
      clear hx hat hy
      by_cases hlow : y.a < x.a
      · go_upto_region 3 with (fail)
        go_quiet (fail)
        go_upto_region 4 with (fail)
        have M2 := Lib.hid (show MrgAt w x l k u5 (wr.drewN nq) from ⟨HM.out.own, HM.out.box, HM.out.low, below_drewN HM.out.bel nq⟩)
        have A2 := Lib.hid (show ItAt (wr.drewN nq) b (o + k * 6) y from HAT.out.keep rfl)
        have hsz2 : w.heap.size < (wr.drewN nq).heap.size := hbx
        clear HM HAT hsz hbx cb c0 hcut
        generalize wr.drewN nq = wn at *
        obtain ⟨d0, d1, d2, d3, d4, d5⟩ := A2.out
        go_wp2_with (at_builtin; go_loud (refine wpList_append_it _ rfl _ _ rfl (w.heap.size + 1) _ (l.take k) rfl (M2.out.own.alloc _) (fun _ => True) _ [y] rfl (raw_one (new0 wn _)) (by rw [HLT.out]; simp; omega) (by simp; omega) ?_; intro v2 w2 hown hg; have HO2 := Lib.hid hown; have HG2 := Lib.hid hg; clear hown hg))
        go_roundw
        case rel =>
          refine ⟨k + 1, by omega, by go_num, ⟨?_, ?_, ?_, ?_⟩⟩
          · rw [take_snoc HX.out]
            exact HO2.out
          · exact (HG2.out.block w.heap.size (by simp; omega) (fun e => by have := (M2.out.own.lt _ e.symm).1; omega)).trans (old1 M2.out.box _)
          · intro j hj z hz
            by_cases hjk : j = k
            · subst hjk
              rw [HX.out] at hz
              cases hz
              exact hlow
            · exact M2.out.low j (by omega) z hz
          · exact (M2.out.bel.alloc (by omega) _).grown HG2.out (by simp; omega) (fun q hq => by have := (M2.out.own.lt q hq).1; omega)
        case measure => simp [intOf]; omega
      · have hno := hlow
        have HNO := Lib.hid (show ∀ z, l[k]? = some z → ¬ z.a < x.a from fun z hz => by rw [HX.out] at hz; cases hz; exact hno)
        clear hno
        go_upto_region 3 with (fail)
        go_quiet (fail)
        go_upto_region 6 with (fail)
        have M2 := Lib.hid (show MrgAt w x l k u5 (wr.drewN nq) from ⟨HM.out.own, HM.out.box, HM.out.low, below_drewN HM.out.bel nq⟩)
        have hsz2 : w.heap.size < (wr.drewN nq).heap.size := hbx
        clear HM HAT hsz hbx cb c0 hlow
        generalize wr.drewN nq = wn at *
        have cb := cellsH M2.out.box
        go_upto_region 7 with (at_builtin; refine wpList_append_it _ rfl _ _ rfl (w.heap.size + 1) _ (l.take k) rfl (M2.out.own.alloc _) (fun _ => True) _ [x] rfl (raw_one (new0 wn _)) (by rw [HLT.out]; simp; omega) (by simp; omega) ?_; intro v3 w3 hown hg; have HO3 := Lib.hid hown; have b3 := (M2.out.bel.alloc (by omega) _).grown hg (by simp; omega) (fun q hq => by have := (M2.out.own.lt q hq).1; omega); have B3 := Lib.hid b3; have z3 := hg.size; simp only [World.size_alloc] at z3; clear hown hg b3)
        go_wp2_with (at_builtin; refine wpList_append_it _ rfl _ _ rfl (w.heap.size + 1) _ (l.take k ++ [x]) rfl HO3.out ok _ (l.drop k) rfl (HB.out.fresh B3.out) (by simp only [List.length_append, HLT.out, List.length_drop, List.length_singleton]; omega) (by omega) ?_; intro v4 w4 hown hg; have HO4 := Lib.hid hown; have b4 := B3.out.grown hg (by omega) (fun q hq => by have := (HO3.out.lt q hq).1; omega); have B4 := Lib.hid b4; clear hown hg b4)
        go_ret
        refine ⟨_, rfl, ?_, B4.out⟩
        rw [mrg_at M2.out.low (fun z hz => Int.not_lt.2 (HNO.out z hz))]
        have := HO4.out.base (B' := w.heap.size) (by omega)
        simpa using this
    · have he : k = l.length := by omega
      have HNO := Lib.hid (show ∀ z, l[k]? = some z → ¬ z.a < x.a from fun z hz => by have := (List.getElem?_eq_some_iff.1 hz).1; omega)
      clear he
      go_upto_region 3 with (fail)
      go_quiet (fail)
      go_upto_region 6 with (fail)
      have M2 := Lib.hid (show MrgAt w x l k u5 (wr.drewN nq) from ⟨HM.out.own, HM.out.box, HM.out.low, below_drewN HM.out.bel nq⟩)
      have hsz2 : w.heap.size < (wr.drewN nq).heap.size := hbx
      clear HM hsz hbx cb
      generalize wr.drewN nq = wn at *
      have cb := cellsH M2.out.box
      go_upto_region 7 with (at_builtin; refine wpList_append_it _ rfl _ _ rfl (w.heap.size + 1) _ (l.take k) rfl (M2.out.own.alloc _) (fun _ => True) _ [x] rfl (raw_one (new0 wn _)) (by rw [HLT.out]; simp; omega) (by simp; omega) ?_; intro v3 w3 hown hg; have HO3 := Lib.hid hown; have b3 := (M2.out.bel.alloc (by omega) _).grown hg (by simp; omega) (fun q hq => by have := (M2.out.own.lt q hq).1; omega); have B3 := Lib.hid b3; have z3 := hg.size; simp only [World.size_alloc] at z3; clear hown hg b3)
      go_wp2_with (at_builtin; refine wpList_append_it _ rfl _ _ rfl (w.heap.size + 1) _ (l.take k ++ [x]) rfl HO3.out ok _ (l.drop k) rfl (HB.out.fresh B3.out) (by simp only [List.length_append, HLT.out, List.length_drop, List.length_singleton]; omega) (by omega) ?_; intro v4 w4 hown hg; have HO4 := Lib.hid hown; have b4 := B3.out.grown hg (by omega) (fun q hq => by have := (HO3.out.lt q hq).1; omega); have B4 := Lib.hid b4; clear hown hg b4)
      go_ret
      refine ⟨_, rfl, ?_, B4.out⟩
      rw [mrg_at M2.out.low (fun z hz => Int.not_lt.2 (HNO.out z hz))]
      have := HO4.out.base (B' := w.heap.size) (by omega)
      simpa using this
end Go.Proofs.Ytobniolmielikaa

