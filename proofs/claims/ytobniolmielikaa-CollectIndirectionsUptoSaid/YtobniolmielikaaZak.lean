/- Texts of the collector's proof, joined: Walk2, Walk3, Walk4. -/
import Derived.RangeFuncNested
import Derived.RangeFuncBound
import Derived.RangeFuncCalls
import Derived.RangeFuncLeaves
import Derived.Shelf.Abstract
import Derived.Shelf.RegionOpen
import Derived.WalkKit
import Derived.OwnWalkIn
import Derived.TacticsInMore
import Derived.LoopNIn
import Derived.LoopIn
import Derived.Sort.LoopGhostIn
import Derived.Laws.EntriesVeiled
import Derived.Test.YtobniolmielikaaZaj
import Derived.Test.YtobniolmielikaaZac
/- The collector's walk of a heap: what reached returns; no condition. -/
namespace Go.Proofs.Ytobniolmielikaa
open Go.RowKit Go.Shelf
attribute [local go_sem] Oper.semAt_some

set_option maxHeartbeats 1000000 in
theorem reached_any (w : World) (g fa : Nat) (lb : Array Value) (A : Option Addr) (n c : Nat) :
    Calls Try.prog 102 #[.pointer (some ⟨g, 0, none⟩), .slice A n c, .func (.func fa) #[] lb] w fun e w' => e = .returned (.func (.func 120) #[] #[.pointer (some ⟨w.heap.size + 1, 0, none⟩), .pointer (some ⟨w.heap.size + 1 + 1, 0, none⟩), .pointer (some ⟨w.heap.size, 0, none⟩)]) ∧
      w' = ((w.alloc (.cells #[.pointer (some ⟨g, 0, none⟩)] 115)).alloc (.cells #[.slice A n c] 23)).alloc (.cells #[.func (.func fa) #[] lb] 48) := by
  go_enter Try.func102, Try.ntmps102
  go_wp2_with fail
  go_ret
  exact ⟨rfl, rfl⟩

/-- An append whose run is known, in a fence. -/
theorem wpListIn_append_run {F : Fence} {n : Nat} {P : Program} (w : World) {ops : Array Oper} {rest : List Oper} {o : Oper} {a : Act} {Q : Exit → Act → World → Prop}
    (hg : o.guard = none) (s x : Operand) (t : TypeId) (hop : o.op = Op.call { callee := Callee.builtin Builtin.append, args := #[s, x], argTypes := #[t, t] })
    (u y : Value) (hs : a.eval s = u) (hx : a.eval x = y) (v : Value) (w' : World) (hrun : (Builtin.append_ #[t, t] o.type #[u, y]).run P w = .ok v w')
    (hK : wpListIn F n P ops Q rest (a.put o.dst v) w') : wpListIn F n P ops Q (o :: rest) a w := by
  refine wpListIn_plain hg fun K hK' => ?_
  unfold Oper.wpIn
  refine ⟨?_, ?_⟩
  · simp [Oper.about, hop, resolve, Target.leads, Sem.run_pure]
  · rw [Oper.semAt_plain F _ _ (by rw [hop]; intro c hc'; cases hc')]
    simp [execOp, hop, resolve, invoke, builtin, hs, hx, hrun, Result.andThen]
    exact hK' _ _ hK

/-- The boxes of what reached has captured. -/
structure Boxes (w : World) (pr pa pw g fa : Nat) (lb : Array Value) (rv : Value) : Prop where
  r : w.heap[pr]? = some (.cells #[rv] 23)
  a : w.heap[pa]? = some (.cells #[.func (.func fa) #[] lb] 48)
  w : w.heap[pw]? = some (.cells #[.pointer (some ⟨g, 0, none⟩)] 115)
theorem Boxes.turn {S : Nat → Prop} {w w' : World} {pr pa pw g fa : Nat} {lb : Array Value} {rv : Value} (h : Boxes w pr pa pw g fa lb rv) (ht : Turn S w w') (h1 : ¬ S pr) (h2 : ¬ S pa) (h3 : ¬ S pw) : Boxes w' pr pa pw g fa lb rv :=
  ⟨rowT ht h.r h1, rowT ht h.a h2, rowT ht h.w h3⟩

/-- Keys that map to true. -/
def seenL (out : List Int) : List (Int × Value) := out.map fun a => (a, .bool true)

theorem zero4 (w : World) : (zeroValue 4).run Try.prog w = .ok (.bool false) w := by kernel_rfl
theorem get_seen (out : List Int) (a : Int) : get (seenL out) a = if a ∈ out then some (.bool true) else none := by
  induction out with
  | nil => rfl
  | cons b out ih =>
    show get ((b, Value.bool true) :: seenL out) a = _
    rw [get_cons, ih]
    by_cases e : a = b
    · simp [e]
    · simp [e]
theorem put_seen {out : List Int} {a : Int} (h : a ∉ out) : put (seenL out) a (.bool true) = seenL (out ++ [a]) := by
  rw [put_new (by simpa [seenL, List.map_map, Function.comp_def] using h)]
  simp [seenL]
/-- What the rounds are handed: an object, its ints in rows of the iterator's making that nobody turns. -/
def OkIt (base : Nat) (x : It) (M C : Nat → Prop) (W : World) : Prop := ObAt (fun k => base ≤ k ∧ IsRow 3 W k ∧ ¬ M k ∧ ¬ C k) W x.val x.o ∧ (Lit.int .i64 x.a).wf = true ∧ ∀ k, M k → k < W.heap.size
/-- How the search has ended. -/
def EndIt (w : World) (g h : Nat) (C0 : Nat → Prop) (H : HM) (acc : Int → Bool) (roots : List Int) (xs : List It) (W : World) : Prop :=
  ∃ bad, WalkAt W g h bad ∧ Turn (fun k => k = g ∨ C0 k) w W ∧ (bad = true → bfs H.all acc (H.fuel roots) [] roots = none) ∧ (bad = false → bfs H.all acc (H.fuel roots) [] roots = some (xs.map (·.a))) ∧ ∀ x ∈ xs, x.o = H.ob x.a

/-- Where the search stands. -/
structure SrchAt (w : World) (W0 : Nat) (g h bs : Nat) (C0 : Nat → Prop) (H : HM) (acc : Int → Bool) (roots : List Int) (J : List It → (Nat → Prop) → (Nat → Prop) → World → Prop) (t : List Int) (v : Value) (pre : List It) (M C : Nat → Prop) (W : World) : Prop where
  que : Que W0 W v t
  map : MapAt W bs (seenL (pre.map (·.a)))
  j : J pre M C W
  ob : ∀ x ∈ pre, x.o = H.ob x.a
  walk : WalkAt W g h false
  turn : Turn (fun k => k = g ∨ C0 k) w W
  m1 : M g
  m2 : M bs
  m3 : ∀ k, v.ownBlock = some k → M k
  m4 : ∀ k, M k → k = g ∨ W0 ≤ k
  m5 : ∀ k, M k → k < W.heap.size
  c1 : ∀ k, C k → C0 k ∨ w.heap.size ≤ k
  vl : vol H.all (pre.map (·.a)) + t.length + pre.length ≤ H.fuel roots
  res : bfs H.all acc (vol H.all (pre.map (·.a)) + t.length) (pre.map (·.a)) t = bfs H.all acc (H.fuel roots) [] roots
section steps
variable {w : World} {W0 g h bs : Nat} {C0 : Nat → Prop} {H : HM} {acc : Int → Bool} {roots : List Int} {J : List It → (Nat → Prop) → (Nat → Prop) → World → Prop} {t : List Int} {v : Value} {pre : List It} {M C : Nat → Prop} {W : World}
/-- Nothing has happened but new blocks. -/
theorem SrchAt.fresh {W' : World} (hs : SrchAt w W0 g h bs C0 H acc roots J t v pre M C W) (HJ : Rounds J) (hb : Below W.heap.size W W') : SrchAt w W0 g h bs C0 H acc roots J t v pre M C W' :=
  { hs with que := hs.que.fresh hb, map := hs.map.below hb hs.map.lt, j := HJ.step _ _ hs.j (turn_of_below hb (fun k h1 h2 => by omega)) (fun k hk => .inl hk), walk := hs.walk.fresh hb, turn := hs.turn.then hb, m5 := fun k hk => Nat.lt_of_lt_of_le (hs.m5 k hk) hb.size }
/-- An address is passed over. -/
theorem SrchAt.skip {x : Int} {v' : Value} (hs : SrchAt w W0 g h bs C0 H acc roots J (x :: t) v pre M C W) (hx : x ∈ pre.map (·.a) ∨ acc x = false) (hq : Que W0 W v' t) (ho : v'.ownBlock = v.ownBlock) :
    SrchAt w W0 g h bs C0 H acc roots J t v' pre M C W :=
by
  have hv := hs.vl
  have hr := hs.res
  simp only [List.length_cons] at hv hr
  rw [← Nat.add_assoc, bfs_skip hx] at hr
  exact { hs with que := hq, m3 := fun k hk => hs.m3 k (ho ▸ hk), vl := by omega, res := hr }
/-- The queue's row is neither the map nor the walk's block. -/
theorem SrchAt.apart {v' : Value} (hs : SrchAt w W0 g h bs C0 H acc roots J t v pre M C W) (ho : v'.ownBlock = v.ownBlock) : ∀ k, v'.ownBlock = some k → k ≠ bs ∧ k ≠ g := by
  intro k hk
  obtain ⟨_, _, cs, f, hr⟩ := hs.que.lt (ho ▸ hk)
  constructor
  · rintro rfl
    obtain ⟨es, cl, hm, _⟩ := hs.map
    rw [hr] at hm
    cases hm
  · rintro rfl
    have := hs.walk
    unfold WalkAt at this
    rw [hr] at this
    simp at this
end steps

set_option maxRecDepth 100000 in
set_option maxHeartbeats 4000000 in
theorem reached_it (w : World) (g h y a pr pa pw fa : Nat) (lb : Array Value) (rv : Value) (H : HM) (roots : List Int) (acc : Int → Bool) (C0 : Nat → Prop)
    (hw : WalkAt w g h false) (hh : HeapAt w h y a H) (hb : Boxes w pr pa pw g fa lb rv) (hr : Ints (fun k => ¬ (k = g ∨ C0 k)) w rv roots) (hd : (H.all.map (·.1)).Nodup) (hvol : H.fuel roots ≤ 1000000)
    (hC0 : ∀ k, C0 k → k ≠ g ∧ k ≠ pr ∧ k ≠ pa ∧ k ≠ pw ∧ ¬ HB h y a k ∧ ¬ IsRow 3 w k) (hg : pr ≠ g ∧ pa ≠ g ∧ pw ≠ g ∧ ¬ HB h y a g)
    (eg : ∀ args w, (callFunc fa args).run Try.prog w = .ok (.enter fa args) w)
    (hacc : ∀ (W : World) (x : Int), Turn (fun k => k = g ∨ C0 k) w W → WalkAt W g h false → HeapAt W h y a H → Calls Try.prog fa (#[.int .i64 x] ++ lb) W fun e W' => e = .returned (.bool (acc x)) ∧ Below W.heap.size W W') :
    Gives 3 Try.prog 120 #[.pointer (some ⟨pr, 0, none⟩), .pointer (some ⟨pa, 0, none⟩), .pointer (some ⟨pw, 0, none⟩)] (fun x : It => #[.int .i64 x.a, x.val]) (OkIt w.heap.size) (H.fuel roots) (· = g) C0 (EndIt w g h C0 H acc roots) w := by
  intro l C W J hW hC hJ hY h0
  have T0 : Turn (fun k => k = g ∨ C0 k) w W := turn_of_below hW (fun k h1 h2 => by omega)
  have hbW := Lib.hid (show ∀ W', Turn (fun k => k = g ∨ C0 k) w W' → Boxes W' pr pa pw g fa lb rv from fun W' ht => hb.turn ht (fun e => by rcases e with e | e; exact hg.1 e; exact (hC0 _ e).2.1 rfl) (fun e => by rcases e with e | e; exact hg.2.1 e; exact (hC0 _ e).2.2.1 rfl) (fun e => by rcases e with e | e; exact hg.2.2.1 e; exact (hC0 _ e).2.2.2.1 rfl))
  have hhW := Lib.hid (show ∀ W', Turn (fun k => k = g ∨ C0 k) w W' → HeapAt W' h y a H from fun W' ht => by
    have e := hg.2.2.2
    refine hh.turn ht ?_ ?_ ?_ ?_
    · rintro (rfl | e')
      · exact e (.inl rfl)
      · exact (hC0 _ e').2.2.2.2.1 (.inl rfl)
    · rintro (rfl | e')
      · exact e (.inr (.inl rfl))
      · exact (hC0 _ e').2.2.2.2.1 (.inr (.inl rfl))
    · rintro (rfl | e')
      · exact e (.inr (.inr rfl))
      · exact (hC0 _ e').2.2.2.2.1 (.inr (.inr rfl))
    · rintro k hk (rfl | e')
      · obtain ⟨cs, f, hk⟩ := hk
        unfold WalkAt at hw
        rw [hw] at hk
        simp at hk
      · exact (hC0 _ e').2.2.2.2.2 hk)
  have hgw : g < w.heap.size := heap_lt hw
  have hsW := hW.size
  have HY := Lib.hid hY
  have HJ := Lib.hid hJ
  have HA := Lib.hid hacc
  have HR := Lib.hid (hr.turn (S := fun k => k = g ∨ C0 k) T0 (fun k hk => hk))
  have HD := Lib.hid hd
  have HVOL := Lib.hid hvol
  have HC := Lib.hid hC
  have HT0 := Lib.hid T0
  have H0 := Lib.hid h0
  have HWW := Lib.hid (hw.fresh (w' := W) (by exact hW))
  obtain ⟨ra, rc, rfl⟩ := hr.shape
  have cr := cellsH (old1 (hbW.out W T0).r (.map #[] 0))
  have hmm := @run_makeMap Try.prog
  clear hw hh hb hr hd hvol hC0 hg hacc hW hC hJ hY h0 T0
  refine callsIn_of_wp Try.func120 rfl trivial ?_ rfl
  simp only [Try.ntmps120, List.size_toArray, List.length_cons, List.length_nil, Nat.reduceAdd, Nat.reduceSub, Array.replicate_succ, Array.replicate_zero, List.push_toArray, List.append_toArray, List.nil_append, List.cons_append]
  gi_wp2_with (refine ⟨trivial, ?_⟩; gi_at_call 93; refine (callsIn_wide.2 (clone_que (fun k => ¬ (k = g ∨ C0 k)) _ roots _ (HR.out.alloc _))).mono ?_; rintro e W1 ⟨v1, rfl, hq1, hb1⟩)
  clear cr
  have hs1 := hb1.size
  have hbs : W1.heap[W.heap.size]? = some (.map #[] 0) := rowB hb1 (new0 W _) (by simp)
  have hbW1 := below_then ((Below.refl W.heap.size W).alloc (Nat.le_refl _) (.map #[] 0)) (by simp) hb1
  have hT1 : Turn (fun k => k = g ∨ C0 k) w W1 := HT0.out.then hbW1
  have START : ∃ t pre M C1, H.fuel roots = vol H.all (pre.map (·.a)) + t.length ∧ SrchAt w W.heap.size g h W.heap.size C0 H acc roots J t v1 pre M C1 W1 := by
    refine ⟨roots, [], fun k => k = g ∨ k = W.heap.size ∨ v1.ownBlock = some k, C, rfl, ?_⟩
    refine ⟨?_, ⟨#[], 0, hbs, ⟨rfl, by simp, by simp, by simp [seenL]⟩⟩, HJ.out.step _ _ H0.out (turn_of_below hbW1 (fun k h1 h2 => by omega)) ?_, by simp, HWW.out.fresh hbW1, hT1, .inl rfl, .inr (.inl rfl), fun k hk => .inr (.inr hk), ?_, ?_, HC.out, by simp [HM.fuel], rfl⟩
    · rcases hq1 with h1 | ⟨g', off, c, cs, e, hb', r⟩
      · exact .inl h1
      · exact .inr ⟨g', off, c, cs, e, by simp at hb'; omega, r⟩
    · rintro k (e | e | e)
      · exact .inl e
      · exact .inr (by omega)
      · have := (hq1.lt e).1
        simp at this
        exact .inr (by omega)
    · rintro k (e | e | e)
      · exact .inl e
      · exact .inr (by omega)
      · have := (hq1.lt e).1
        simp at this
        exact .inr (by omega)
    · have hl1 := heap_lt hbs
      rintro k (e | e | e)
      · subst e; exact Nat.lt_of_lt_of_le (Nat.lt_of_lt_of_le hgw hsW) (by simp at hs1; omega)
      · subst e; exact hl1
      · exact (hq1.lt e).2.1
  have ST := Lib.hid START
  clear START hbs hq1 hbW1 hT1 hb1 hs1
  gi_loopg [6] (H.fuel roots) (fun n v wr => ∃ t pre M C1, n = vol H.all (pre.map (·.a)) + t.length ∧ SrchAt w W.heap.size g h W.heap.size C0 H acc roots J t v pre M C1 wr)
  case atStart => exact ST.out
  case round =>
    obtain ⟨t, pre, M, C1, rfl, hs⟩ := hrel
    cases t with
    | nil =>
      obtain ⟨A, c, rfl, hle⟩ := hs.que.shape
      have HS := Lib.hid hs
      clear hs
      gi_wp2
      go_end0
      refine ⟨⟨_, rfl⟩, pre, M, C1, ⟨false, HS.out.walk, HS.out.turn, (fun e => by cases e), fun _ => ?_, HS.out.ob⟩, HS.out.j⟩
      have := HS.out.res
      rw [bfs_nil] at this
      exact this.symm
    | cons x t =>
      obtain ⟨A, c, rfl, hle⟩ := hs.que.shape
      obtain ⟨gq, off, rfl, hc⟩ := hs.que.head
      obtain ⟨B, hq', hown, hrun⟩ := hs.que.tail
      have HQ := Lib.hid hq'
      have HO := Lib.hid hown
      have lk := run_lookup_map (P := Try.prog) (t := 139) (k := 3) (e := 4) Try.underlying139 Try.underlying3 (zero4 _) hs.map x false
      rw [get_seen] at lk
      simp only [List.length_cons] at hrun hle ⊢
      simp only [Bool.false_eq_true, if_false] at lk
      by_cases hx : x ∈ pre.map (·.a)
      · simp only [if_pos hx, Option.getD_some] at lk
        have HX := Lib.hid hx
        have HS := Lib.hid hs
        clear hs hq' hown hx hle
        gi_wp2
        refine ⟨fun _ _ => trivial, ?_⟩
        gi_wp2
        gi_roundg (vol H.all (pre.map (·.a)) + t.length)
        case measure => simp only [List.length_cons]; omega
        case rel => exact ⟨t, pre, M, C1, rfl, HS.out.skip (.inl HX.out) HQ.out HO.out⟩
      · simp only [if_neg hx, Option.getD_none] at lk
        have HX := Lib.hid hx
        have HS := Lib.hid hs
        have ca := cellsH (hbW.out wr hs.turn).a
        clear hs hq' hown hx hle
        gi_wp2
        refine ⟨trivial, ?_⟩
        refine (callsIn_wide.2 (HA.out wr x HS.out.turn HS.out.walk (hhW.out wr HS.out.turn))).mono ?_
        rintro e W2 ⟨rfl, hb2⟩
        clear lk ca
        have HB2 := Lib.hid hb2
        clear hb2
        cases hax : acc x with
        | false =>
          have HAX := Lib.hid hax
          clear hax
          gi_wp2
          gi_roundg (vol H.all (pre.map (·.a)) + t.length)
          case measure => simp only [List.length_cons]; omega
          case rel => exact ⟨t, pre, M, C1, rfl, (HS.out.skip (.inr HAX.out) HQ.out HO.out).fresh HJ.out HB2.out⟩
        | true =>
          have HAX := Lib.hid hax
          clear hax
          have HS2 := Lib.hid (HS.out.fresh HJ.out HB2.out)
          have HQ2 := Lib.hid (HQ.out.fresh HB2.out)
          obtain ⟨W6, hrun6, hm6, ht6, hs6⟩ := run_update_map (P := Try.prog) (t := 139) (k := 3) (e := 4) Try.underlying139 Try.underlying3 HS2.out.map x (.bool true)
          rw [put_seen HX.out] at hm6
          have T6 := Lib.hid (HS2.out.turn.under ht6 (fun k h1 e => by omega))
          have HM6 := Lib.hid hm6
          have HT6 := Lib.hid ht6
          have HS6 := Lib.hid hs6
          have hne := HS2.out.apart HO.out
          have HNE := Lib.hid hne
          have HQ6 := Lib.hid (HQ2.out.turn ht6 (fun k hk => (hne k hk).1))
          have HW6 := Lib.hid (HS2.out.walk.turn ht6 (by omega))
          have J6 := Lib.hid (HJ.out.step M W6 HS2.out.j (ht6.mono fun k _ e => by subst e; exact HS2.out.m2) (fun k hk => .inl hk))
          have cw := cellsH (hbW.out W6 T6.out).w
          clear hm6 ht6 hs6 hne
          gi_wp2
          refine ⟨trivial, ?_⟩
          refine (callsIn_wide.2 (object_any W6 g h y a H false x HW6.out (hhW.out W6 T6.out))).mono ?_
          rintro e W7 ⟨v7, rfl, hob7, hwk7, ht7⟩
          obtain ⟨oa, oc, ob, od, rfl⟩ := hob7.open
          clear cw hrun6
          have T7 := Lib.hid (T6.out.trans (ht7.mono fun k _ e => .inl e))
          have HW7 := Lib.hid hwk7
          have HOB := Lib.hid hob7
          have HT7 := Lib.hid ht7
          have HQ7 := Lib.hid (HQ6.out.turn ht7 (fun k hk => (HNE.out k hk).2))
          have J7 := Lib.hid (HJ.out.step M W7 J6.out (ht7.mono fun k _ e => by subst e; exact HS2.out.m1) (fun k hk => .inl hk))
          have HM7 := Lib.hid (HM6.out.turn ht7 (by omega))
          have hs7 := ht7.size
          obtain ⟨B8, hB8⟩ : ∃ B : Obj, Obj.cells #[.int .i64 (H.ob x).op, .int .i64 (H.ob x).n, .int .i64 (H.ob x).ar, .slice oa (H.ob x).refs.length oc, .slice ob (H.ob x).words.length od] 25 = B := ⟨_, rfl⟩
          have HB8 := Lib.hid hB8
          have cw := cellsH (hbW.out (W7.alloc B8) (T7.out.alloc B8)).w
          have cg := cellsH (old1 hwk7 B8)
          clear hwk7 hob7 ht7
          cases hk : H.has x with
          | false =>
            have HK := Lib.hid hk
            simp only [hk] at cg
            clear hk
            gi_wp2
            refine ⟨fun _ _ => trivial, ?_⟩
            gi_wp2
            refine bodyPost_ret (results_none rfl _ _ _) rfl ?_
            have hw8 := HW7.out.fresh ((Below.refl _ _).alloc (Nat.le_refl _) B8)
            rw [HK.out] at hw8
            refine ⟨⟨_, rfl⟩, pre, M, C1, ⟨true, hw8, T7.out.alloc B8, fun _ => ?_, (fun e => by cases e), HS2.out.ob⟩, HJ.out.step M _ J7.out ((Turn.refl _ _).alloc B8) (fun k hk => .inl hk)⟩
            have hres := HS2.out.res
            simp only [List.length_cons] at hres
            rw [← Nat.add_assoc, bfs_bad1 HX.out HAX.out (HM.get_none' HK.out)] at hres
            exact hres.symm
          | true =>
            have HK := Lib.hid hk
            simp only [hk] at cg
            clear hk
            have hj8 := HJ.out.step M _ J7.out ((Turn.refl _ _).alloc B8) (fun k hk => .inl hk)
            have hap := HJ.out.apart J7.out
            have hap6 := HJ.out.apart J6.out
            have hM6 : ∀ k, M k → k < W6.heap.size := fun k hk => by
              have := HS2.out.m5 k hk
              have := HS6.out
              omega
            have hob8 : OkIt w.heap.size ⟨x, H.ob x, oa, oc, ob, od⟩ M C1 (W7.alloc B8) := by
              refine ⟨?_, HS.out.que.wf x (by simp), fun k hk => by have := hM6 k hk; simp; omega⟩
              refine (HOB.out.fresh ((Below.refl _ _).alloc (Nat.le_refl _) B8)).at.mono ?_
              rintro k hkl ⟨hk1, hk2⟩
              refine ⟨by have := HS2.out.turn.size; have := HS6.out; omega, hk2, fun h => by have := hM6 k h; omega, fun h => by have := (hap6 k h).1; omega⟩
            have HAP := Lib.hid hap
            have J8 := Lib.hid hj8
            obtain ⟨fn, tmps, assign, body, hy, hR⟩ := HY.out pre M C1 ⟨x, H.ob x, oa, oc, ob, od⟩ (W7.alloc B8) hj8 hob8 (by have := HS2.out.vl; simp only [List.length_cons] at this; omega)
            dsimp only [It.val] at hy
            have HRR := Lib.hid hR
            clear hR hj8 hap hob8 hap6 hM6
            have c8 := cellsH (show (W7.alloc B8).heap[W7.heap.size]? = _ by rw [new0, ← HB8.out])
            gi_wp2
            refine HRR.out.mono ?_
            rintro e W9 ⟨rfl, C2, hj9, ht9, hc2⟩
            clear c8 cw cg hB8
            have h8 : W9.heap[W7.heap.size]? = some B8 := rowT ht9 (new0 W7 B8) (fun e => by have := (HAP.out _ e).1; omega)
            rw [← HB8.out] at h8
            have c8 := cellsH h8
            have HQ9 : Que W.heap.size W9 (.slice B t.length (c - 1)) t := (HQ7.out.fresh ((Below.refl _ _).alloc (Nat.le_refl _) B8)).turn ht9 (fun k hk e => (HAP.out k e).2 (HS2.out.m3 k (HO.out ▸ hk)))
            have hob9 := (HOB.out.fresh ((Below.refl _ _).alloc (Nat.le_refl _) B8))
            obtain ⟨_, _, hev, hrf, _⟩ := hob9
            cases hev
            have hrf9 := Ints.turn hrf ht9 (fun k hk e => by
              have := (HJ.out.apart J6.out k e).1
              have := hk.1
              omega)
            have hvs := vol_step HD.out ((get_mem HD.out).1 (HM.get_some HK.out)) HX.out
            have hvl := HS2.out.vl
            simp only [List.length_cons] at hvl
            have hvo := HVOL.out
            have hsz9 := ht9.size
            have hszw := HS2.out.turn.size
            have hs28 : W2.heap.size ≤ W7.heap.size := by have := HS6.out; omega
            have hs80 : W.heap.size ≤ W9.heap.size := by
              have h1 := HB2.out.size
              have h2 : W.heap.size ≤ wr.heap.size := by
                obtain ⟨_, _, hm, _⟩ := HS.out.map
                exact Nat.le_of_lt (heap_lt hm)
              simp at hsz9
              omega
            obtain ⟨v10, W10, hrun10, hq10, ht10, hown10⟩ := que_append HQ9 hs80 hrf9 (by omega) 23
            have hap := HAP.out
            have hres := HS2.out.res
            simp only [List.length_cons] at hres
            rw [← Nat.add_assoc, bfs_go HX.out HAX.out (HM.get_some HK.out)] at hres
            have hm3 : ∀ k, (Value.slice B t.length (c - 1)).ownBlock = some k → M k := fun k hk => HS2.out.m3 k (HO.out ▸ hk)
            have hw8 : WalkAt W7 g h false := by have := HW7.out; rw [HK.out] at this; exact this
            have hA2 : J (pre ++ [⟨x, H.ob x, oa, oc, ob, od⟩]) (fun k => M k ∨ v10.ownBlock = some k) C2 W10 := HJ.out.step _ W10 hj9 (ht10.mono fun k _ e => hm3 k e) (fun k hk => by
                rcases hk with hk | hk
                · exact .inl hk
                · rcases hown10 with e | ⟨gg, e, hge⟩
                  · exact .inl (hm3 k (e ▸ hk))
                  · rw [e] at hk; cases hk; exact .inr hge)
            have NEXT : SrchAt w W.heap.size g h W.heap.size C0 H acc roots J (t ++ (H.ob x).refs) v10 (pre ++ [⟨x, H.ob x, oa, oc, ob, od⟩]) (fun k => M k ∨ v10.ownBlock = some k) C2 W10 := by
              have hq9s : W9.heap.size ≤ W10.heap.size := ht10.size
              have hMs : ∀ k, M k → k < W9.heap.size := fun k hk => by
                have := HS2.out.m5 k hk
                simp at hsz9
                omega
              refine ⟨hq10, ?_, hA2, ?_, ?_, ?_, .inl HS2.out.m1, .inl HS2.out.m2, fun k hk => .inr hk, ?_, ?_, ?_, ?_, ?_⟩
              · have h1 := ((HM7.out.alloc B8).turn ht9 (fun e => (hap _ e).2 HS2.out.m2)).turn ht10 (fun e => (HNE.out _ e).1 rfl)
                simpa using h1
              · intro z hz
                rcases List.mem_append.1 hz with hz | hz
                · exact HS2.out.ob z hz
                · simp at hz; subst hz; rfl
              · exact ((hw8.fresh ((Below.refl _ _).alloc (Nat.le_refl _) B8)).turn ht9 (fun e => (hap _ e).2 HS2.out.m1)).turn ht10 (fun e => (HNE.out _ e).2 rfl)
              · refine ((T7.out.alloc B8).under ht9 ?_).under ht10 ?_
                · intro k hk e
                  rcases HS2.out.c1 k e with e | e
                  · exact .inr e
                  · omega
                · intro k hk e
                  rcases HS2.out.m4 k (hm3 k e) with e | e
                  · exact .inl e
                  · omega
              · intro k hk
                rcases hk with hk | hk
                · exact HS2.out.m4 k hk
                · rcases hown10 with e | ⟨gg, e, hge⟩
                  · exact HS2.out.m4 k (hm3 k (e ▸ hk))
                  · rw [e] at hk; cases hk; exact .inr (by omega)
              · intro k hk
                rcases hk with hk | hk
                · have := hMs k hk; omega
                · exact (hq10.lt hk).2.1
              · intro k hk
                rcases hc2 k hk with e | e
                · exact HS2.out.c1 k e
                · simp at e
                  exact .inr (by omega)
              · rw [List.map_append, List.length_append]
                show vol H.all (pre.map (·.a) ++ [x]) + _ + (pre ++ [_]).length ≤ _
                rw [List.length_append, List.length_cons, List.length_nil]
                omega
              · rw [List.map_append, List.length_append]
                show bfs H.all acc (vol H.all (pre.map (·.a) ++ [x]) + _) (pre.map (·.a) ++ [x]) _ = _
                rw [show vol H.all (pre.map (·.a) ++ [x]) + (t.length + (H.ob x).refs.length) = vol H.all (pre.map (·.a)) + t.length by omega]
                exact hres
            have NX := Lib.hid NEXT
            have HV := Lib.hid hvs
            clear NEXT hA2 hw8 hm3 hres hap hown10 ht10 hq10 hs80 hs28 hszw hsz9 hvo hvl hvs hrf9 hrf HQ9 h8 hc2 ht9 hj9
            gi_wp2_with (gi_at_builtin; refine wpListIn_append_run _ rfl _ _ 23 rfl _ _ rfl rfl _ _ hrun10 ?_)
            gi_roundg (vol H.all (pre.map (·.a) ++ [x]) + (t ++ (H.ob x).refs).length)
            case measure => have := HV.out; simp only [List.length_cons, List.length_append]; omega
            case rel => exact ⟨t ++ (H.ob x).refs, pre ++ [⟨x, H.ob x, oa, oc, ob, od⟩], _, C2, by rw [List.map_append]; rfl, NX.out⟩
end Go.Proofs.Ytobniolmielikaa

/- The collector's walk of a heap: start; young; replaced; no condition. -/
namespace Go.Proofs.Ytobniolmielikaa
open Go.RowKit

theorem all_take {l : List Int} {k : Nat} {x : Int} (f : Int → Bool) (h : l[k]? = some x) : (l.take (k + 1)).all f = ((l.take k).all f && f x) := by
  rw [List.take_add_one, h, List.all_append]
  simp

set_option maxHeartbeats 1000000 in
theorem start_any (ok : Nat → Prop) (w : World) (h y a : Nat) (H : HM) (rv : Value) (roots : List Int) (hh : HeapAt w h y a H) (hr : Ints ok w rv roots) (hn : 1 ≤ H.nur) :
    Calls Try.prog 84 #[.pointer (some ⟨h, 0, none⟩), rv] w fun e w' => (roots.all H.has = true → ∃ g, e = .returned (.tuple #[.pointer (some ⟨g, 0, none⟩), .int .i64 0]) ∧ WalkAt w' g h false ∧ w.heap.size ≤ g) ∧
      (roots.all H.has = false → e = .returned (.tuple #[.pointer none, .int .i64 35])) ∧ Below w.heap.size w w' := by
  obtain ⟨A, c, rfl⟩ := hr.shape
  have hlen := hr.len
  have HH := Lib.hid hh
  have HR := Lib.hid hr
  have hb0 : (H.nur == 0) = false := by simp; omega
  clear hh hr hn
  go_enter Try.func84, Try.ntmps84
  go_wp2_with fail
  refine (limits_any w h y a H HH.out).mono ?_
  rintro e w1 ⟨rfl, n1, rfl⟩
  generalize hW1 : w.drewN n1 = W1 at *
  have hbW : Below w.heap.size w W1 := by rw [← hW1]; exact below_drewN (Below.refl _ _) n1
  have HBW := Lib.hid hbW
  have hsW : W1.heap.size = w.heap.size := by rw [← hW1]; rfl
  have HSW := Lib.hid hsW
  clear hW1 hbW hsW
  go_wp2_with fail
  clear hb0
  go_loopw [25] (fun i wr => ∃ k : Nat, k ≤ roots.length ∧ i = .int .i64 k ∧ WalkAt wr W1.heap.size h (!(roots.take k).all H.has) ∧ Below W1.heap.size W1 wr) (fun i _ => roots.length - (intOf i).toNat)
  case atStart => exact ⟨0, Nat.zero_le _, rfl, new0 _ _, (Below.refl _ _).alloc (Nat.le_refl _) _⟩
  case round =>
    obtain ⟨k, hk, rfl, hwk, hb⟩ := hrel
    have HWK := Lib.hid hwk
    have HB := Lib.hid hb
    have hbw := below_then HBW.out (by have := HSW.out; omega) hb
    have HBB := Lib.hid hbw
    by_cases hlt : k < roots.length
    · obtain ⟨ad, eA, hc⟩ := Ints.cell (HR.out.fresh hbw) hlt
      have hx := List.getElem?_eq_getElem hlt
      generalize roots[k] = x at hx hc
      have HX := Lib.hid hx
      subst eA
      clear hx hwk hb hbw
      go_wp2_with fail
      refine (object_any wr _ h y a H _ x HWK.out (HH.out.fresh HBB.out)).mono ?_
      rintro e w2 ⟨v, rfl, -, hw2, ht2⟩
      have HW2 := Lib.hid hw2
      have HT2 := Lib.hid ht2
      clear hw2 ht2
      go_wp2_with fail
      go_roundw
      case rel =>
        refine ⟨k + 1, by omega, by go_num, ?_, HB.out.trans (HT2.out.below HB.out.size (fun k e => by omega))⟩
        rw [all_take _ HX.out]
        have := HW2.out
        rw [← Bool.not_and] at this
        exact this
      case measure => simp [intOf]; omega
    · have he : k = roots.length := by omega
      subst he
      rw [List.take_length] at hwk
      have cw := cellsH hwk
      have HW2 := Lib.hid hwk
      clear hwk hb hbw
      cases hall : roots.all H.has with
      | true =>
        simp only [hall, Bool.not_true] at cw HW2
        have HALL := Lib.hid hall
        clear hall
        go_wp2_with fail
        go_ret2
        exact ⟨fun _ => ⟨_, rfl, HW2.out, by have := HSW.out; omega⟩, (fun e => by rw [HALL.out] at e; cases e), HBB.out⟩
      | false =>
        simp only [hall, Bool.not_false] at cw HW2
        have HALL := Lib.hid hall
        clear hall
        go_wp2_with fail
        go_ret2
        exact ⟨(fun e => by rw [HALL.out] at e; cases e), fun _ => rfl, HBB.out⟩
end Go.Proofs.Ytobniolmielikaa

/- The collector's live: what the rounds of its search keep; no condition. -/
namespace Go.Proofs.Ytobniolmielikaa
open Go.RowKit Go.Shelf
attribute [local go_sem] Oper.semAt_some

theorem ObjMapO.mono {ok ok' : Nat → Prop} {w : World} {b : Nat} {m : List (Int × Ob)} (h : ObjMapO ok w b m) (ho : ∀ k, k < w.heap.size → ok k → ok' k) : ObjMapO ok' w b m := by
  obtain ⟨l, h1, h2⟩ := h
  exact ⟨l, h1, h2.imp fun _ _ hx => hx.mono ho⟩
theorem ObjMapO.put {ok : Nat → Prop} {w w' : World} {b : Nat} {m : List (Int × Ob)} {l : List (Int × Value)} (h2 : Kin (ObAt ok w) l m) {k : Int} {v : Value} {o : Ob} (hm : MapAt w' b (Go.Proofs.Ytobniolmielikaa.put l k v))
    (ht : Turn (· = b) w w') (ho : ObAt ok w v o) (hb : ∀ k, ok k → k ≠ b) : ObjMapO ok w' b (Go.Proofs.Ytobniolmielikaa.put m k o) :=
  ⟨_, hm, (h2.put k ho).imp fun _ _ hx => hx.turn ht fun k hk e => hb k hk e⟩

/-- The objects that have come, by their addresses. -/
def cameM (pre : List It) : List (Int × Ob) := pre.foldl (fun m x => put m x.a x.o) []
theorem cameM_snoc (pre : List It) (x : It) : cameM (pre ++ [x]) = put (cameM pre) x.a x.o := by simp [cameM]
theorem cameM_nodup : ∀ {pre : List It}, (pre.map (·.a)).Nodup → cameM pre = absI pre := by
  intro pre h
  suffices ∀ (l acc : List It), ((acc ++ l).map (·.a)).Nodup → l.foldl (fun m x => put m x.a x.o) (absI acc) = absI (acc ++ l) by
    have h1 := this pre [] (by simpa using h)
    rw [List.nil_append] at h1
    exact h1
  intro l
  induction l with
  | nil => intro acc _; simp
  | cons x l ih =>
    intro acc hn
    have hx : x.a ∉ (absI acc).map (·.1) := by
      intro hin
      simp only [absI, List.map_map, List.mem_map] at hin
      obtain ⟨y, hy, e⟩ := hin
      rw [List.map_append, List.nodup_append] at hn
      exact hn.2.2 y.a (List.mem_map_of_mem hy) x.a (by simp) e
    rw [List.foldl_cons, put_new hx]
    have := ih (acc ++ [x]) (by simpa using hn)
    simpa [absI] using this

/-- What the rounds keep: the box of the order, its row; the box of the map, the map; the rows of the objects. -/
structure KeepAt (w0 : Nat) (bo bb bm : Nat) (pre : List It) (M C : Nat → Prop) (W : World) (v : Value) (D : Nat → Prop) : Prop where
  box : W.heap[bo]? = some (.cells #[v] 23)
  mbox : W.heap[bb]? = some (.cells #[.map (some bm)] 52)
  row : W.ownsRow w0 3 1 v pre.length ((pre.map (·.a)).map (Value.int .i64))
  wf : ∀ x ∈ pre, (Lit.int .i64 x.a).wf = true
  map : ObjMapO D W bm (cameM pre)
  data : ∀ k, D k → w0 ≤ k ∧ k < W.heap.size ∧ IsRow 3 W k ∧ ¬ M k ∧ ¬ C k
  c : ∀ k, C k ↔ k = bo ∨ k = bm ∨ v.ownBlock = some k
  nb : ¬ M bb ∧ ¬ C bb
  m1 : ¬ M bo
  m2 : ¬ M bm
  m3 : ∀ k, v.ownBlock = some k → ¬ M k
def Keep (w0 bo bb bm : Nat) (pre : List It) (M C : Nat → Prop) (W : World) : Prop := ∃ v D, KeepAt w0 bo bb bm pre M C W v D
theorem keep_rounds (w0 bo bb bm : Nat) : Rounds (Keep w0 bo bb bm) := by
  refine ⟨?_, ?_⟩
  · rintro pre M C W ⟨v, D, h⟩ k hk
    rcases (h.c k).1 hk with rfl | rfl | e
    · exact ⟨heap_lt h.box, h.m1⟩
    · exact ⟨h.map.lt, h.m2⟩
    · obtain ⟨_, _, _, hr⟩ := own_row h.row e
      exact ⟨heap_lt hr, h.m3 k e⟩
  · rintro pre M C W M' W' ⟨v, D, h⟩ ht hM
    have hs := ht.size
    have hnew : ∀ k, k < W.heap.size → ¬ M k → ¬ M' k := fun k h1 h2 h3 => by
      rcases hM k h3 with e | e
      · exact h2 e
      · omega
    refine ⟨v, D, rowT ht h.box h.m1, rowT ht h.mbox h.nb.1, own_keep h.row (fun g hg => ?_), h.wf, h.map.turn ht h.m2 (fun k hk => (h.data k hk).2.2.2.1), ?_, h.c, ⟨hnew _ (heap_lt h.mbox) h.nb.1, h.nb.2⟩, hnew _ (heap_lt h.box) h.m1, hnew _ h.map.lt h.m2, ?_⟩
    · obtain ⟨_, _, _, hr⟩ := own_row h.row hg
      exact ht.block g (heap_lt hr) (h.m3 g hg)
    · intro k hk
      obtain ⟨a1, a2, a3, a4, a5⟩ := h.data k hk
      exact ⟨a1, by omega, a3.same (ht.block k a2 a4), hnew k a2 a4, a5⟩
    · intro k hk
      obtain ⟨_, _, _, hr⟩ := own_row h.row hk
      exact hnew k (heap_lt hr) (h.m3 k hk)

/-- 'append(s, x)', s a row of the call's own. -/
theorem run_push {W : World} {base n : Nat} {v : Value} {xs : List Int} (h : W.ownsRow base 3 1 v n (xs.map (Value.int .i64))) (hb : base ≤ W.heap.size) (hn : (n + 1) * 8 ≤ 140737488355328) (x : Int) :
    ∃ g c w', (Builtin.append_ #[23, 23] 23 #[v, .slice (some ⟨W.heap.size, 0, none⟩) 1 1]).run Try.prog (W.alloc (.cells #[.int .i64 x] 3)) = .ok (.slice (some ⟨g, 0, none⟩) (n + 1) c) w' ∧
      w'.ownsRow base 3 1 (.slice (some ⟨g, 0, none⟩) (n + 1) c) (n + 1) ((xs ++ [x]).map (Value.int .i64)) ∧ (W.alloc (.cells #[.int .i64 x] 3)).grownBy w' v.ownBlock ∧ (v.ownBlock = some g ∨ g = W.heap.size + 1) := by
  obtain ⟨i, hi, hz0, hz1, hz2⟩ := info_parts info3
  obtain ⟨g, cap, w', h1, h2, h3, h4, _⟩ := run_append_lies (P := Try.prog) (W.alloc (.cells #[.int .i64 x] 3)) 23 23 base 3 i (.int .i64 0) 1 8 Try.underlying23 hi hz0 hz1 hz2 rfl (by decide) v n _ (World.ownsRow.alloc h _) ⟨W.heap.size, 0, none⟩ 1 1 [.int .i64 x] rfl
    (fun j u hj => by
      match j, hj with
      | 0, hj => simp at hj; subst hj; exact cellsH (new0 W _) 0) (by simp [Value.oneCell']) (by decide) (by unfold maxLen; omega) hn (by simp; omega) _ rfl
  rw [show (xs.map (Value.int .i64) ++ [Value.int .i64 x]) = (xs ++ [x]).map (Value.int .i64) by simp] at h2
  exact ⟨g, cap, w', h1, h2, h3, by simpa using h4⟩

theorem okIt_less {base : Nat} {x : It} {M M' C C' : Nat → Prop} {W : World} (h : OkIt base x M C W) (hc : ∀ k, C' k → C k) (hm : ∀ k, M' k → M k ∨ (k < W.heap.size ∧ ∀ e, ¬ IsRow e W k)) : OkIt base x M' C' W :=
  ⟨h.1.mono fun k _ ⟨a1, a2, a3, a4⟩ => ⟨a1, a2, fun e => by rcases hm k e with e | e; exact a3 e; exact e.2 3 a2, fun e => a4 (hc k e)⟩, h.2.1, fun k hk => by rcases hm k hk with e | e; exact h.2.2 k e; exact e.1⟩
theorem OkIt.turn {base base' : Nat} {x : It} {M C : Nat → Prop} {W W' : World} (h : OkIt base x M C W) (ht : Turn M W W') (hb : base' ≤ base) : OkIt base' x M C W' := by
  refine ⟨(h.1.turn ht fun k hk => hk.2.2.1).mono fun k _ ⟨a1, a2, a3, a4⟩ => ⟨by omega, ?_, a3, a4⟩, h.2.1, fun k hk => Nat.lt_of_lt_of_le (h.2.2 k hk) ht.size⟩
  have a2' := a2
  obtain ⟨cs, f, hr⟩ := a2'
  exact a2.same (ht.block k (heap_lt hr) a3)
theorem endIt_put {w : World} {g h : Nat} {C0 : Nat → Prop} {H : HM} {acc : Int → Bool} {roots : List Int} {xs : List It} {W : World} {l : Nat} (o : Obj) (hg : g < w.heap.size) (hl : w.heap.size ≤ l) (he : EndIt w g h C0 H acc roots xs W) : EndIt w g h C0 H acc roots xs (W.putObj l o) := by
  obtain ⟨bad, h1, h2, h3⟩ := he
  refine ⟨bad, ?_, turn_putObj h2 (.inr hl) o, h3⟩
  unfold WalkAt
  rw [World.putObj_heap_other (by omega)]
  exact h1

/-- Behind a push: the row, the box, the map. -/
theorem KeepAt.push {w0 bo bb bm : Nat} {pre : List It} {M C : Nat → Prop} {W w' W3 : World} {v : Value} {D : Nat → Prop} {x : It} {g c : Nat} (h : KeepAt w0 bo bb bm pre M C W v D) (hx : OkIt w0 x M C W) (hbo : w0 ≤ bo)
    (hown : w'.ownsRow w0 3 1 (.slice (some ⟨g, 0, none⟩) (pre.length + 1) c) (pre.length + 1) (((pre.map (·.a)) ++ [x.a]).map (Value.int .i64))) (hg : (W.alloc (.cells #[.int .i64 x.a] 3)).grownBy w' v.ownBlock) (hat : v.ownBlock = some g ∨ g = W.heap.size + 1)
    (hmu : ∀ l, MapAt (w'.setCell ⟨bo, 0, none⟩ (.slice (some ⟨g, 0, none⟩) (pre.length + 1) c)) bm l → Kin (ObAt (fun k => w0 ≤ k ∧ k < W.heap.size ∧ IsRow 3 W k ∧ ¬ M k ∧ ¬ C k) (w'.setCell ⟨bo, 0, none⟩ (.slice (some ⟨g, 0, none⟩) (pre.length + 1) c))) l (cameM pre) → MapAt W3 bm (put l x.a x.val) ∧ Turn (· = bm) (w'.setCell ⟨bo, 0, none⟩ (.slice (some ⟨g, 0, none⟩) (pre.length + 1) c)) W3) :
    Turn C W W3 ∧ ∃ C' : Nat → Prop, Keep w0 bo bb bm (pre ++ [x]) M C' W3 ∧ ∀ k, C' k → C k ∨ W.heap.size ≤ k := by
  have hrow3 : ∀ k, v.ownBlock = some k → IsRow 3 W k := fun k hk => (own_row h.row hk).2
  have hlt : ∀ k, v.ownBlock = some k → k < W.heap.size := fun k hk => by obtain ⟨_, _, hr⟩ := hrow3 k hk; exact heap_lt hr
  have hT : Turn C W w' := ((Turn.refl C W).alloc _).trans ⟨hg.os, hg.tape, hg.output, hg.size, fun k hk hn => hg.block k hk (fun e => hn ((h.c k).2 (.inr (.inr e.symm))))⟩
  have hT4 : Turn C W (w'.setCell ⟨bo, 0, none⟩ (.slice (some ⟨g, 0, none⟩) (pre.length + 1) c)) := hT.setCell (p := ⟨bo, 0, none⟩) ((h.c _).2 (.inl rfl)) _
  have hbo3 : v.ownBlock ≠ some bo := fun e => by
    obtain ⟨cs, f, hr⟩ := hrow3 _ e
    have := h.box
    rw [hr] at this
    simp at this
  have hbm3 : ∀ l W, MapAt W bm l → ¬ IsRow 3 W bm := by
    rintro l W ⟨es, cl, hm, _⟩ ⟨cs, f, hr⟩
    rw [hr] at hm
    cases hm
  obtain ⟨l, hm, hk⟩ := h.map
  have hmv : v.ownBlock ≠ some bm := fun e => hbm3 l W hm (hrow3 _ e)
  have hmb : bm ≠ bo := fun e => by
    obtain ⟨es, cl, hm', _⟩ := hm
    rw [e, h.box] at hm'
    cases hm'
  have hm1 : MapAt w' bm l := (hm.alloc _).same (hg.block bm (by have := hm.lt; simp; omega) (fun e => hmv e.symm))
  have hm4 := hm1.setCell (a := ⟨bo, 0, none⟩) hmb (.slice (some ⟨g, 0, none⟩) (pre.length + 1) c)
  have hD4 : ∀ k, D k → (w0 ≤ k ∧ k < W.heap.size ∧ IsRow 3 W k ∧ ¬ M k ∧ ¬ C k) := h.data
  have hk4 : Kin (ObAt (fun k => w0 ≤ k ∧ k < W.heap.size ∧ IsRow 3 W k ∧ ¬ M k ∧ ¬ C k) (w'.setCell ⟨bo, 0, none⟩ (.slice (some ⟨g, 0, none⟩) (pre.length + 1) c))) l (cameM pre) :=
    hk.imp fun _ _ ho => (ho.mono fun k _ hd => hD4 k hd).turn hT4 fun k hk => hk.2.2.2.2
  obtain ⟨hm3, ht3⟩ := hmu l hm4 hk4
  have hT3 : Turn C W W3 := hT4.under ht3 fun k _ e => (h.c k).2 (.inr (.inl e))
  have hx4 : ObAt (fun k => w0 ≤ k ∧ k < W.heap.size ∧ IsRow 3 W k ∧ ¬ M k ∧ ¬ C k) (w'.setCell ⟨bo, 0, none⟩ (.slice (some ⟨g, 0, none⟩) (pre.length + 1) c)) x.val x.o :=
    (hx.1.mono fun k hk hd => ⟨hd.1, hk, hd.2⟩).turn hT4 fun k hk => hk.2.2.2.2
  refine ⟨hT3, fun k => k = bo ∨ k = bm ∨ k = g, ⟨.slice (some ⟨g, 0, none⟩) (pre.length + 1) c, fun k => w0 ≤ k ∧ k < W.heap.size ∧ IsRow 3 W k ∧ ¬ M k ∧ ¬ C k, ?_⟩, ?_⟩
  · have hb' : w'.heap[bo]? = some (.cells #[v] 23) := (hg.block bo (by have := heap_lt h.box; simp; omega) (fun e => hbo3 e.symm)).trans (old1 h.box _)
    have hgn : g ≠ bm ∧ g ≠ bo ∧ g ≠ bb ∧ ¬ M g := by
      rcases hat with e | e
      · exact ⟨fun e' => hmv (e' ▸ e), fun e' => hbo3 (e' ▸ e), fun e' => h.nb.2 ((h.c _).2 (.inr (.inr (e' ▸ e)))), h.m3 g e⟩
      · have h1 := hm.lt
        have h2 := heap_lt h.box
        have h3 := heap_lt h.mbox
        exact ⟨by omega, by omega, by omega, fun e' => by have := hx.2.2 g e'; omega⟩
    refine ⟨?_, ?_, ?_, ?_, ?_, ?_, ?_, ⟨h.nb.1, ?_⟩, h.m1, h.m2, ?_⟩
    · have := rowSet hb' 0 (.slice (some ⟨g, 0, none⟩) (pre.length + 1) c)
      exact rowT ht3 (by simpa using this) (Ne.symm hmb)
    · exact rowT hT3 h.mbox h.nb.2
    · rw [List.map_append, List.length_append]
      refine own_keep (w := w') hown fun k hk => ?_
      cases hk
      rw [ht3.block g (by
        obtain ⟨_, _, _, hr⟩ := own_row hown rfl
        have := heap_lt hr
        simp
        exact this) hgn.1]
      exact Below.heap_setCell _ _ _ _ hgn.2.1
    · intro z hz
      rcases List.mem_append.1 hz with hz | hz
      · exact h.wf z hz
      · simp at hz; subst hz; exact hx.2.1
    · rw [cameM_snoc]
      exact ObjMapO.put hk4 hm3 ht3 hx4 fun k hk e => by subst e; exact hbm3 l W hm hk.2.2.1
    · intro k ⟨a1, a2, a3, a4, a5⟩
      refine ⟨a1, by have := hT3.size; omega, a3.same (hT3.block k a2 a5), a4, ?_⟩
      rintro (rfl | rfl | rfl)
      · exact a5 ((h.c _).2 (.inl rfl))
      · exact a5 ((h.c _).2 (.inr (.inl rfl)))
      · rcases hat with e | e
        · exact a5 ((h.c _).2 (.inr (.inr e)))
        · omega
    · intro k
      constructor
      · rintro (e | e | e)
        · exact .inl e
        · exact .inr (.inl e)
        · exact .inr (.inr (by rw [e]; rfl))
      · rintro (e | e | e)
        · exact .inl e
        · exact .inr (.inl e)
        · cases e; exact .inr (.inr rfl)
    · rintro (e | e | e)
      · exact h.nb.2 ((h.c _).2 (.inl e))
      · exact h.nb.2 ((h.c _).2 (.inr (.inl e)))
      · exact hgn.2.2.1 e.symm
    · intro k hk
      cases hk
      exact hgn.2.2.2
  · rintro k (e | e | e)
    · exact .inl ((h.c k).2 (.inl e))
    · exact .inl ((h.c k).2 (.inr (.inl e)))
    · rcases hat with e' | e'
      · exact .inl ((h.c k).2 (.inr (.inr (e ▸ e'))))
      · exact .inr (by omega)

theorem MapAt.unique {w : World} {b : Nat} {l l' : List (Int × Value)} (h : MapAt w b l) (h' : MapAt w b l') : l = l' := by
  obtain ⟨es, c, hb, hl⟩ := h
  obtain ⟨es', c', hb', hl'⟩ := h'
  rw [hb] at hb'
  cases hb'
  have e := hl.kv.symm.trans hl'.kv
  refine (List.map_inj_right ?_).1 e
  rintro ⟨a, b⟩ ⟨a', b'⟩ e
  simp at e
  simp [e]
/-- Behind the append, and behind the store. -/
theorem KeepAt.four {w0 bo bb bm : Nat} {pre : List It} {M C : Nat → Prop} {W w' : World} {v v' : Value} {D : Nat → Prop} {row : Obj} (h : KeepAt w0 bo bb bm pre M C W v D)
    (hg : (W.alloc row).grownBy w' v.ownBlock) : w'.heap[bo]? = some (.cells #[v] 23) ∧ (w'.setCell ⟨bo, 0, none⟩ v').heap[bb]? = some (.cells #[.map (some bm)] 52) ∧ Turn C W (w'.setCell ⟨bo, 0, none⟩ v') ∧ ∃ l, MapAt (w'.setCell ⟨bo, 0, none⟩ v') bm l := by
  have hrow3 : ∀ k, v.ownBlock = some k → IsRow 3 W k := fun k hk => (own_row h.row hk).2
  have hT : Turn C W w' := ((Turn.refl C W).alloc _).trans ⟨hg.os, hg.tape, hg.output, hg.size, fun k hk hn => hg.block k hk (fun e => hn ((h.c k).2 (.inr (.inr e.symm))))⟩
  have hT4 : Turn C W (w'.setCell ⟨bo, 0, none⟩ v') := hT.setCell (p := ⟨bo, 0, none⟩) ((h.c _).2 (.inl rfl)) _
  have hbo3 : v.ownBlock ≠ some bo := fun e => by
    obtain ⟨cs, f, hr⟩ := hrow3 _ e
    have := h.box
    rw [hr] at this
    simp at this
  obtain ⟨l, hm, hk⟩ := h.map
  have hmv : v.ownBlock ≠ some bm := fun e => by
    obtain ⟨cs, f, hr⟩ := hrow3 _ e
    obtain ⟨es, cl, hm, _⟩ := hm
    rw [hr] at hm
    cases hm
  have hmb : bm ≠ bo := fun e => by
    obtain ⟨es, cl, hm', _⟩ := hm
    rw [e, h.box] at hm'
    cases hm'
  have hm1 : MapAt w' bm l := (hm.alloc _).same (hg.block bm (by have := hm.lt; simp; omega) (fun e => hmv e.symm))
  exact ⟨(hg.block bo (by have := heap_lt h.box; simp; omega) (fun e => hbo3 e.symm)).trans (old1 h.box _), rowT hT4 h.mbox h.nb.2, hT4, l, hm1.setCell (a := ⟨bo, 0, none⟩) hmb _⟩

theorem anything_any (w : World) (x : Int) : Calls Try.prog 103 #[.int .i64 x] w fun e w' => e = .returned (.bool true) ∧ w' = w := by
  go_enter Try.func103, Try.ntmps103
  go_wp2_with fail
  go_ret
  exact ⟨rfl, rfl⟩
end Go.Proofs.Ytobniolmielikaa

