/- Contracts of the heap's methods Get and Set; no condition. -/
import Derived.Test.YtobniolmielikaaHeap2
namespace Go.Proofs.Ytobniolmielikaa
open Go.RowKit

def ob0 : Ob := ⟨0, 0, 0, [], []⟩
theorem obR0 (b : Nat) (w : World) : ObR b w (.agg #[.int .i64 0, .int .i64 0, .int .i64 0, .slice none 0 0, .slice none 0 0]) ob0 := ⟨_, _, rfl, IntsR.nil _ _ _, IntsR.nil _ _ _⟩

/-- What Get answers. -/
def HM.get (H : HM) (k : Int) : Ob × Int :=
  match Go.Proofs.Ytobniolmielikaa.get H.ly k with
  | some o => (o, 0)
  | none => match Go.Proofs.Ytobniolmielikaa.get H.la k with
    | some o => (o, 0)
    | none => (ob0, 35)

/-- As the walk meets an object. -/
theorem ObR.open {b : Nat} {w : World} {v : Value} {o : Ob} (h : ObR b w v o) : ∃ ra rc wa wc, v = .agg #[.int .i64 o.op, .int .i64 o.n, .int .i64 o.ar, .slice ra o.refs.length rc, .slice wa o.words.length wc] := by
  obtain ⟨rv, wv, rfl, h1, h2⟩ := h
  obtain ⟨ra, rc, rfl⟩ := Ints.shape h1
  obtain ⟨wa, wc, rfl⟩ := Ints.shape h2
  exact ⟨_, _, _, _, rfl⟩

/-- Five cells written one behind the other. -/
def set5 (w : World) (g : Nat) (a b c d e : Value) : World := ((((w.setCell ⟨g, 0, none⟩ a).setCell ⟨g, 1, none⟩ b).setCell ⟨g, 2, none⟩ c).setCell ⟨g, 3, none⟩ d).setCell ⟨g, 4, none⟩ e
theorem set5_row {w : World} {g : Nat} {x0 x1 x2 x3 x4 : Value} {T : TypeId} {f : Nat × Nat} (h : w.heap[g]? = some (.cells #[x0, x1, x2, x3, x4] T f)) (a b c d e : Value) : (set5 w g a b c d e).heap[g]? = some (.cells #[a, b, c, d, e] T f) :=
  rowSet (rowSet (rowSet (rowSet (rowSet h 0 a) 1 b) 2 c) 3 d) 4 e
theorem set5_turn {S : Nat → Prop} {w0 w : World} {g : Nat} (ht : Turn S w0 w) (hg : S g) (a b c d e : Value) : Turn S w0 (set5 w g a b c d e) :=
  ((((ht.setCell (p := ⟨g, 0, none⟩) hg a).setCell (p := ⟨g, 1, none⟩) hg b).setCell (p := ⟨g, 2, none⟩) hg c).setCell (p := ⟨g, 3, none⟩) hg d).setCell (p := ⟨g, 4, none⟩) hg e
theorem set5_below {B : Nat} {w0 w : World} {g : Nat} (ht : Below B w0 w) (hg : B ≤ g) (a b c d e : Value) : Below B w0 (set5 w g a b c d e) :=
  ((((ht.setCell (p := ⟨g, 0, none⟩) hg a).setCell (p := ⟨g, 1, none⟩) hg b).setCell (p := ⟨g, 2, none⟩) hg c).setCell (p := ⟨g, 3, none⟩) hg d).setCell (p := ⟨g, 4, none⟩) hg e

set_option maxHeartbeats 400000 in
theorem get_any (w : World) (h y a : Nat) (H : HM) (k : Int) (hh : HeapAt w h y a H) :
    Calls Try.prog 18 #[.pointer (some ⟨h, 0, none⟩), .int .i64 k] w fun e w' => ∃ v, e = .returned (.tuple #[v, .int .i64 (H.get k).2]) ∧ ObR w.heap.size w' v (H.get k).1 ∧ Below w.heap.size w w' := by
  have hlt := heap_lt hh.row
  have c := cellsH hh.row
  have c0 : w.cell? ⟨h, 0, none⟩ = some (.map (some y)) := c 0
  have c1 : w.cell? ⟨h, 1, none⟩ = some (.map (some a)) := c 1
  clear c
  have c0' := cellAlloc c0
  have c1' := cellAlloc c1
  have M := Lib.hid (fun o => made_any h y (w.alloc o) (c0' o))
  clear c0 c1
  have HH := Lib.hid hh
  obtain ⟨ly, hmy, hky⟩ := hh.young
  obtain ⟨la, hma, hka⟩ := hh.old
  clear hh
  have ly1 := fun o => run_lookup_map (P := Try.prog) (t := 52) (k := 3) (e := 25) Try.underlying52 Try.underlying3 (zero25 _) (hmy.alloc o) k true
  have la1 := fun o p => run_lookup_map (P := Try.prog) (t := 52) (k := 3) (e := 25) Try.underlying52 Try.underlying3 (zero25 _) ((hma.alloc o).alloc p) k true
  rcases hky.get k with ⟨g1, g2⟩ | ⟨v, o, g1, g2, hv⟩
  · simp only [g1, Option.getD_none, Option.isSome_none] at ly1
    rcases hka.get k with ⟨g3, g4⟩ | ⟨v, o, g3, g4, hv⟩
    · have HG := Lib.hid (show H.get k = (ob0, 35) by simp [HM.get, g2, g4])
      simp only [g3, Option.getD_none, Option.isSome_none] at la1
      clear hmy hma hky hka g1 g2 g3 g4
      go_enter Try.func18, Try.ntmps18
      go_wp2_with fail
      refine (M.out _).mono ?_
      rintro e w1 ⟨rfl, rfl⟩
      go_wp2_with fail
      rw [HG.out]
      refine bodyPost_ret (v := .tuple #[.agg #[.int .i64 0, .int .i64 0, .int .i64 0, .slice none 0 0, .slice none 0 0], .int .i64 35]) (by simp [results, Try.results18, go_sem]) rfl ⟨_, rfl, obR0 _ _, (((Below.refl w.heap.size w).alloc (Nat.le_refl _) _).alloc (by simp) _).alloc (by simp <;> omega) _⟩
    · have HG := Lib.hid (show H.get k = (o, 0) by simp [HM.get, g2, g4])
      obtain ⟨ra, rc, wa, wc, ev⟩ := hv.open
      have HV := Lib.hid hv
      clear hv hmy hma hky hka g2 g4
      subst ev
      simp only [g3, Option.getD_some, Option.isSome_some] at la1
      clear g1 g3
      go_enter Try.func18, Try.ntmps18
      go_wp2_with fail
      refine (M.out _).mono ?_
      rintro e w1 ⟨rfl, rfl⟩
      go_wp2_with fail
      have b0 : Below w.heap.size w _ := (((Below.refl w.heap.size w).alloc (Nat.le_refl _) (.cells #[.int .i64 0, .int .i64 0, .int .i64 0, .slice none 0 0, .slice none 0 0] 25)).alloc (by simp) (.cells #[.int .i64 0, .int .i64 0, .int .i64 0, .slice none 0 0, .slice none 0 0] 25)).alloc (by simp <;> omega) (.cells #[.int .i64 o.op, .int .i64 o.n, .int .i64 o.ar, .slice ra o.refs.length rc, .slice wa o.words.length wc] 25)
      refine (copied_any _ _ o _ (HV.out.fresh b0).at).mono ?_
      rintro e w3 ⟨v', rfl, hv', hb'⟩
      obtain ⟨ra', rc', wa', wc', ev'⟩ := hv'.open
      have HV' := Lib.hid hv'
      clear hv'
      subst ev'
      have hrow := rowB hb' (new30 _ _ _ _) (by simp <;> omega)
      have B' := Lib.hid hb'
      have B0 := Lib.hid b0
      clear hb' b0
      have c := cellsH hrow
      have f := freeH hrow
      have HR := Lib.hid hrow
      clear hrow
      go_wp2_with fail
      clear c f
      have c := cellsH (set5_row HR.out (.int .i64 o.op) (.int .i64 o.n) (.int .i64 o.ar) (.slice ra' o.refs.length rc') (.slice wa' o.words.length wc'))
      unfold set5 at c
      rw [HG.out]
      refine bodyPost_ret (v := .tuple #[.agg #[.int .i64 o.op, .int .i64 o.n, .int .i64 o.ar, .slice ra' o.refs.length rc', .slice wa' o.words.length wc'], .int .i64 0]) (by simp [results, Try.results18, go_sem, c]) rfl ⟨_, rfl, ?_, ?_⟩
      · refine ((HV'.out.turn (set5_turn (S := fun k => k = w.heap.size) (Turn.refl _ _) rfl _ _ _ _ _) ?_).base (by simp <;> omega))
        intro b hb _ e
        simp at hb
        omega
      · exact set5_below (below_then B0.out (by simp <;> omega) B'.out) (Nat.le_refl _) _ _ _ _ _
  · have HG := Lib.hid (show H.get k = (o, 0) by simp [HM.get, g2])
    obtain ⟨ra, rc, wa, wc, ev⟩ := hv.open
    have HV := Lib.hid hv
    clear hv hmy hma hky hka la1 g2
    subst ev
    simp only [g1, Option.getD_some, Option.isSome_some] at ly1
    clear g1
    go_enter Try.func18, Try.ntmps18
    go_wp2_with fail
    refine (M.out _).mono ?_
    rintro e w1 ⟨rfl, rfl⟩
    go_wp2_with fail
    have b0 : Below w.heap.size w _ := ((Below.refl w.heap.size w).alloc (Nat.le_refl _) (.cells #[.int .i64 0, .int .i64 0, .int .i64 0, .slice none 0 0, .slice none 0 0] 25)).alloc (by simp) (.cells #[.int .i64 o.op, .int .i64 o.n, .int .i64 o.ar, .slice ra o.refs.length rc, .slice wa o.words.length wc] 25)
    refine (copied_any _ _ o _ (HV.out.fresh b0).at).mono ?_
    rintro e w3 ⟨v', rfl, hv', hb'⟩
    obtain ⟨ra', rc', wa', wc', ev'⟩ := hv'.open
    have HV' := Lib.hid hv'
    clear hv'
    subst ev'
    have hrow := rowB hb' (new20 _ _ _) (by simp <;> omega)
    have B' := Lib.hid hb'
    have B0 := Lib.hid b0
    clear hb' b0
    have c := cellsH hrow
    have f := freeH hrow
    have HR := Lib.hid hrow
    clear hrow
    go_wp2_with fail
    clear c f
    have c := cellsH (set5_row HR.out (.int .i64 o.op) (.int .i64 o.n) (.int .i64 o.ar) (.slice ra' o.refs.length rc') (.slice wa' o.words.length wc'))
    unfold set5 at c
    rw [HG.out]
    refine bodyPost_ret (v := .tuple #[.agg #[.int .i64 o.op, .int .i64 o.n, .int .i64 o.ar, .slice ra' o.refs.length rc', .slice wa' o.words.length wc'], .int .i64 0]) (by simp [results, Try.results18, go_sem, c]) rfl ⟨_, rfl, ?_, ?_⟩
    · refine ((HV'.out.turn (set5_turn (S := fun k => k = w.heap.size) (Turn.refl _ _) rfl _ _ _ _ _) ?_).base (by simp <;> omega))
      intro b hb _ e
      simp at hb
      omega
    · exact set5_below (below_then B0.out (by simp <;> omega) B'.out) (Nat.le_refl _) _ _ _ _ _
/-- What Set answers, and the heap behind it. -/
def HM.set (H : HM) (k : Int) (o : Ob) : Int × HM :=
  if vld o = true then
    (match Go.Proofs.Ytobniolmielikaa.get H.ly k with
    | some _ => (0, { H with ly := put H.ly k o })
    | none => match Go.Proofs.Ytobniolmielikaa.get H.la k with
      | some _ => (0, { H with la := put H.la k o })
      | none => (35, H))
  else (1, H)

set_option maxHeartbeats 400000 in
theorem set_any (ok : Nat → Prop) (w : World) (h y a : Nat) (H : HM) (k : Int) (v : Value) (o : Ob) (hh : HeapAt w h y a H) (ho : ObAt ok w v o) :
    Calls Try.prog 17 #[.pointer (some ⟨h, 0, none⟩), .int .i64 k, v] w fun e w' => e = .returned (.int .i64 (H.set k o).1) ∧ HeapAt w' h y a (H.set k o).2 ∧ Turn (HB h y a) w w' := by
  have hlt := heap_lt hh.row
  have c := cellsH hh.row
  have c0 : w.cell? ⟨h, 0, none⟩ = some (.map (some y)) := c 0
  have c1 : w.cell? ⟨h, 1, none⟩ = some (.map (some a)) := c 1
  clear c
  have HH := Lib.hid hh
  have ho0 := ho
  obtain ⟨rv, wv, rfl, h1, h2⟩ := ho
  obtain ⟨ra, rc, rfl⟩ := h1.shape
  obtain ⟨wa, wc, rfl⟩ := h2.shape
  have HO := Lib.hid ho0
  clear ho0 h1 h2
  have c0' := cellAlloc c0
  have M := Lib.hid (fun o => made_any h y (w.alloc o) (c0' o))
  clear c0 c1 c0'
  by_cases hv : vld o = true
  · have HV := Lib.hid hv
    obtain ⟨ly, hmy, hky⟩ := hh.young
    obtain ⟨la, hma, hka⟩ := hh.old
    clear hh
    have HMy := Lib.hid hmy
    have HMa := Lib.hid hma
    rcases hky.get k with ⟨g1, g2⟩ | ⟨v0, o0, g1, g2, hv0⟩
    · have G1 := Lib.hid g1
      rcases hka.get k with ⟨g3, g4⟩ | ⟨v0, o0, g3, g4, hv0⟩
      · have HA := Lib.hid (show H.set k o = (35, H) by simp [HM.set, hv, g2, g4])
        have G3 := Lib.hid g3
        clear hv hmy hma hky hka g1 g2 g3 g4
        go_enter Try.func17, Try.ntmps17
        go_wp2_with fail
        refine (M.out _).mono ?_
        rintro e w1 ⟨rfl, rfl⟩
        go_wp2_with fail
        refine (valid_any ok _ o _ (HO.out.fresh ((Below.refl _ _).alloc (Nat.le_refl _) _))).mono ?_
        rintro e w2 ⟨rfl, hb⟩
        rw [HV.out]
        have hbox := rowB hb (new0 _ _) (by simp)
        have hb2 := below_then ((Below.refl _ _).alloc (Nat.le_refl _) _) (by simp) hb
        have hh2 := HH.out.fresh hb2
        have c := cellsH hh2.row
        have c0 : w2.cell? ⟨h, 0, none⟩ = some (.map (some y)) := c 0
        have c1 : w2.cell? ⟨h, 1, none⟩ = some (.map (some a)) := c 1
        clear c
        have c0' := cellAlloc c0
        have c1' := cellAlloc c1
        have hmy2 := HMy.out.below hb2 HMy.out.lt
        have hma2 := HMa.out.below hb2 HMa.out.lt
        have ly1 := run_lookup_map (P := Try.prog) (t := 52) (k := 3) (e := 25) Try.underlying52 Try.underlying3 (zero25 _) hmy2 k true
        have la1 := fun p => run_lookup_map (P := Try.prog) (t := 52) (k := 3) (e := 25) Try.underlying52 Try.underlying3 (zero25 _) (hma2.alloc p) k true
        simp only [G1.out, Option.getD_none, Option.isSome_none] at ly1
        simp only [G3.out, Option.getD_none, Option.isSome_none] at la1
        go_wp2_with fail
        go_ret
        rw [HA.out]
        have hb3 := (hb2.alloc hb2.size (.cells #[.int .i64 0, .int .i64 0, .int .i64 0, .slice none 0 0, .slice none 0 0] 25)).alloc (by have := hb2.size; simp <;> omega) (.cells #[.int .i64 0, .int .i64 0, .int .i64 0, .slice none 0 0, .slice none 0 0] 25)
        exact ⟨rfl, HH.out.fresh hb3, below_turn hb3 _⟩
      · have HA := Lib.hid (show H.set k o = (0, { H with la := put H.la k o }) by simp [HM.set, hv, g2, g4])
        have G3 := Lib.hid g3
        obtain ⟨ra0, rc0, wa0, wc0, ev⟩ := hv0.open
        clear hv0 hv hmy hma hky hka g1 g2 g4
        subst ev
        clear g3
        go_enter Try.func17, Try.ntmps17
        go_wp2_with fail
        refine (M.out _).mono ?_
        rintro e w1 ⟨rfl, rfl⟩
        go_wp2_with fail
        refine (valid_any ok _ o _ (HO.out.fresh ((Below.refl _ _).alloc (Nat.le_refl _) _))).mono ?_
        rintro e w2 ⟨rfl, hb⟩
        rw [HV.out]
        have hbox := rowB hb (new0 _ _) (by simp)
        have hb2 := below_then ((Below.refl _ _).alloc (Nat.le_refl _) _) (by simp) hb
        have hh2 := HH.out.fresh hb2
        have c := cellsH hh2.row
        have c0 : w2.cell? ⟨h, 0, none⟩ = some (.map (some y)) := c 0
        have c1 : w2.cell? ⟨h, 1, none⟩ = some (.map (some a)) := c 1
        clear c
        have c0' := cellAlloc c0
        have c1' := cellAlloc c1
        have hmy2 := HMy.out.below hb2 HMy.out.lt
        have hma2 := HMa.out.below hb2 HMa.out.lt
        have ly1 := run_lookup_map (P := Try.prog) (t := 52) (k := 3) (e := 25) Try.underlying52 Try.underlying3 (zero25 _) hmy2 k true
        have la1 := fun p => run_lookup_map (P := Try.prog) (t := 52) (k := 3) (e := 25) Try.underlying52 Try.underlying3 (zero25 _) (hma2.alloc p) k true
        simp only [G1.out, Option.getD_none, Option.isSome_none] at ly1
        simp only [G3.out, Option.getD_some, Option.isSome_some] at la1
        go_wp2_with fail
        have hb3 : Below w.heap.size w ((w2.alloc (.cells #[.int .i64 0, .int .i64 0, .int .i64 0, .slice none 0 0, .slice none 0 0] 25)).alloc (.cells #[.int .i64 o0.op, .int .i64 o0.n, .int .i64 o0.ar, .slice ra0 o0.refs.length rc0, .slice wa0 o0.words.length wc0] 25)) := (hb2.alloc hb2.size _).alloc (by have := hb2.size; simp <;> omega) _
        have hbox3 : ((w2.alloc (.cells #[.int .i64 0, .int .i64 0, .int .i64 0, .slice none 0 0, .slice none 0 0] 25)).alloc (.cells #[.int .i64 o0.op, .int .i64 o0.n, .int .i64 o0.ar, .slice ra0 o0.refs.length rc0, .slice wa0 o0.words.length wc0] 25)).heap[w.heap.size]? = _ := old1 (old1 hbox _) _
        have hlt3 : w.heap.size < ((w2.alloc (.cells #[.int .i64 0, .int .i64 0, .int .i64 0, .slice none 0 0, .slice none 0 0] 25)).alloc (.cells #[.int .i64 o0.op, .int .i64 o0.n, .int .i64 o0.ar, .slice ra0 o0.refs.length rc0, .slice wa0 o0.words.length wc0] 25)).heap.size := heap_lt hbox3
        clear hbox hb2 hb hh2 hmy2 hma2 ly1 la1 c0 c1 c0' c1'
        generalize ((w2.alloc (.cells #[.int .i64 0, .int .i64 0, .int .i64 0, .slice none 0 0, .slice none 0 0] 25)).alloc (.cells #[.int .i64 o0.op, .int .i64 o0.n, .int .i64 o0.ar, .slice ra0 o0.refs.length rc0, .slice wa0 o0.words.length wc0] 25)) = w3 at *
        have HH3 := Lib.hid (HH.out.fresh hb3)
        have B3 := Lib.hid hb3
        have X3 := Lib.hid hbox3
        have c := cellsH HH3.out.row
        have d := cellsH hbox3
        have c0 : w3.cell? ⟨h, 1, none⟩ = some (.map (some a)) := c 1
        clear hb3 hbox3 c
        go_region_with (go_at_call 54; refine (copied_any ok _ o _ (by exact (HO.out.fresh B3.out.drew))).mono ?_; rintro e w4 ⟨v', rfl, hov, hb4⟩; have HV4 := Lib.hid hov; have B4 := Lib.hid hb4; have c4 : w4.cell? ⟨h, 1, none⟩ = some (.map (some a)) := (hb4.cell (by simp <;> omega)).trans c0; clear hov hb4; have HH4 := Lib.hid (HH3.out.fresh (undrew B4.out)); obtain ⟨ly', hm', hk'⟩ := HH4.out.old; have HK4 := Lib.hid hk'; clear hk'; obtain ⟨w5, hrun, hm5, ht5, hs5⟩ := run_update_map (P := Try.prog) (k := 3) (e := 25) Try.underlying52 Try.underlying3 hm' k v'; have HM5 := Lib.hid hm5; have HT5 := Lib.hid ht5; have HS5 := Lib.hid hs5; clear hm' hm5 ht5 hs5)
        all_goals
          go_wp2_with fail
          go_ret
          rw [HA.out]
          have hn := HH4.out.notRow
          have hnr : ∀ q, IsRow 3 w4 q → ¬ (q = a) := fun q hk hs => hn q hk (by simp [HB, hs])
          refine ⟨rfl, ⟨rowT HT5.out HH4.out.row HH4.out.ha, HH4.out.young.turn HT5.out (fun e => HH4.out.ne e) hnr, ⟨_, HM5.out, Kin.put (HK4.out.imp fun x y r => r.turn HT5.out fun q _ => hnr q) _ ((HV4.out.base (Nat.zero_le _)).turn HT5.out fun q _ => hnr q)⟩, HH4.out.ne⟩, ?_⟩
          refine Turn.trans (Turn.trans (below_turn B3.out _) (below_turn (undrew B4.out) _)) (HT5.out.mono fun q _ hk => ?_)
          simp [HB, hk]
    · have HA := Lib.hid (show H.set k o = (0, { H with ly := put H.ly k o }) by simp [HM.set, hv, g2])
      obtain ⟨ra0, rc0, wa0, wc0, ev⟩ := hv0.open
      clear hv0 hv hmy hma hky hka g2
      subst ev
      have G1 := Lib.hid g1
      clear g1
      go_enter Try.func17, Try.ntmps17
      go_wp2_with fail
      refine (M.out _).mono ?_
      rintro e w1 ⟨rfl, rfl⟩
      go_wp2_with fail
      refine (valid_any ok _ o _ (HO.out.fresh ((Below.refl _ _).alloc (Nat.le_refl _) _))).mono ?_
      rintro e w2 ⟨rfl, hb⟩
      rw [HV.out]
      have hbox := rowB hb (new0 _ _) (by simp)
      have hb2 := below_then ((Below.refl _ _).alloc (Nat.le_refl _) _) (by simp) hb
      have hh2 := HH.out.fresh hb2
      have c := cellsH hh2.row
      have c0 : w2.cell? ⟨h, 0, none⟩ = some (.map (some y)) := c 0
      have c1 : w2.cell? ⟨h, 1, none⟩ = some (.map (some a)) := c 1
      clear c
      have c0' := cellAlloc c0
      have c1' := cellAlloc c1
      have hmy2 := HMy.out.below hb2 HMy.out.lt
      have hma2 := HMa.out.below hb2 HMa.out.lt
      have ly1 := run_lookup_map (P := Try.prog) (t := 52) (k := 3) (e := 25) Try.underlying52 Try.underlying3 (zero25 _) hmy2 k true
      have la1 := fun p => run_lookup_map (P := Try.prog) (t := 52) (k := 3) (e := 25) Try.underlying52 Try.underlying3 (zero25 _) (hma2.alloc p) k true
      simp only [G1.out, Option.getD_some, Option.isSome_some] at ly1
      go_wp2_with fail
      have hb3 : Below w.heap.size w (w2.alloc (.cells #[.int .i64 o0.op, .int .i64 o0.n, .int .i64 o0.ar, .slice ra0 o0.refs.length rc0, .slice wa0 o0.words.length wc0] 25)) := hb2.alloc hb2.size _
      have hbox3 : (w2.alloc (.cells #[.int .i64 o0.op, .int .i64 o0.n, .int .i64 o0.ar, .slice ra0 o0.refs.length rc0, .slice wa0 o0.words.length wc0] 25)).heap[w.heap.size]? = _ := old1 hbox _
      have hlt3 : w.heap.size < (w2.alloc (.cells #[.int .i64 o0.op, .int .i64 o0.n, .int .i64 o0.ar, .slice ra0 o0.refs.length rc0, .slice wa0 o0.words.length wc0] 25)).heap.size := heap_lt hbox3
      clear hbox hb2 hb hh2 hmy2 hma2 ly1 la1 c0 c1 c0' c1'
      generalize (w2.alloc (.cells #[.int .i64 o0.op, .int .i64 o0.n, .int .i64 o0.ar, .slice ra0 o0.refs.length rc0, .slice wa0 o0.words.length wc0] 25)) = w3 at *
      have HH3 := Lib.hid (HH.out.fresh hb3)
      have B3 := Lib.hid hb3
      have X3 := Lib.hid hbox3
      have c := cellsH HH3.out.row
      have d := cellsH hbox3
      have c0 : w3.cell? ⟨h, 0, none⟩ = some (.map (some y)) := c 0
      clear hb3 hbox3 c
      go_region_with (go_at_call 54; refine (copied_any ok _ o _ (by exact (HO.out.fresh B3.out.drew))).mono ?_; rintro e w4 ⟨v', rfl, hov, hb4⟩; have HV4 := Lib.hid hov; have B4 := Lib.hid hb4; have c4 : w4.cell? ⟨h, 0, none⟩ = some (.map (some y)) := (hb4.cell (by simp <;> omega)).trans c0; clear hov hb4; have HH4 := Lib.hid (HH3.out.fresh (undrew B4.out)); obtain ⟨ly', hm', hk'⟩ := HH4.out.young; have HK4 := Lib.hid hk'; clear hk'; obtain ⟨w5, hrun, hm5, ht5, hs5⟩ := run_update_map (P := Try.prog) (k := 3) (e := 25) Try.underlying52 Try.underlying3 hm' k v'; have HM5 := Lib.hid hm5; have HT5 := Lib.hid ht5; have HS5 := Lib.hid hs5; clear hm' hm5 ht5 hs5)
      all_goals
        go_wp2_with fail
        go_ret
        rw [HA.out]
        have hn := HH4.out.notRow
        have hnr : ∀ q, IsRow 3 w4 q → ¬ (q = y) := fun q hk hs => hn q hk (by simp [HB, hs])
        refine ⟨rfl, ⟨rowT HT5.out HH4.out.row HH4.out.hy, ⟨_, HM5.out, Kin.put (HK4.out.imp fun x y r => r.turn HT5.out fun q _ => hnr q) _ ((HV4.out.base (Nat.zero_le _)).turn HT5.out fun q _ => hnr q)⟩, HH4.out.old.turn HT5.out (fun e => HH4.out.ne e.symm) hnr, HH4.out.ne⟩, ?_⟩
        refine Turn.trans (Turn.trans (below_turn B3.out _) (below_turn (undrew B4.out) _)) (HT5.out.mono fun q _ hk => ?_)
        simp [HB, hk]
  · have hv' : vld o = false := by simpa using hv
    have HA := Lib.hid (show H.set k o = (1, H) by simp [HM.set, hv'])
    have HV := Lib.hid hv'
    clear hv hv' hh
    go_enter Try.func17, Try.ntmps17
    go_wp2_with fail
    refine (M.out _).mono ?_
    rintro e w1 ⟨rfl, rfl⟩
    go_wp2_with fail
    refine (valid_any ok _ o _ (HO.out.fresh ((Below.refl _ _).alloc (Nat.le_refl _) _))).mono ?_
    rintro e w2 ⟨rfl, hb⟩
    rw [HV.out]
    go_wp2_with fail
    go_ret
    rw [HA.out]
    have hb2 := below_then ((Below.refl _ _).alloc (Nat.le_refl _) _) (by simp) hb
    exact ⟨rfl, HH.out.fresh hb2, below_turn hb2 _⟩
end Go.Proofs.Ytobniolmielikaa
