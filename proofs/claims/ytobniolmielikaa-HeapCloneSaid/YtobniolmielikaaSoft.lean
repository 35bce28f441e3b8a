/- Copies of objects whose refs may be stored into; no condition. -/
import Derived.Test.YtobniolmielikaaHeap10
namespace Go.Proofs.Ytobniolmielikaa
open Go.RowKit

/-- v is nil, or lies at the head of a row of ints that is not frozen. -/
def Soft (w : World) (v : Value) : Prop := v = .slice none 0 0 ∨ ∃ g m c cs, v = .slice (some ⟨g, 0, none⟩) m c ∧ w.heap[g]? = some (.cells cs 3)
/-- .. the refs of an object. -/
def SoftO (w : World) (v : Value) : Prop := ∃ a b c d e, v = .agg #[a, b, c, d, e] ∧ Soft w d
theorem soft_own {w : World} {B n : Nat} {v : Value} {xs : List Value} (h : w.ownsRow B 3 1 v n xs) : Soft w v := by
  rcases h.2 with ⟨e, _⟩ | ⟨g, cap, cur, e, _, hb, _⟩
  · exact .inl e
  · exact .inr ⟨g, n, cap, cur, e, hb⟩
theorem Soft.turn {w w' : World} {v : Value} {S : Nat → Prop} (h : Soft w v) (ht : Turn S w w') (hn : ∀ g, IsRow 3 w g → ¬ S g) : Soft w' v := by
  rcases h with h | ⟨g, m, c, cs, e, hg⟩
  · exact .inl h
  · exact .inr ⟨g, m, c, cs, e, rowT ht hg (hn g ⟨cs, _, hg⟩)⟩
theorem Soft.fresh {w w' : World} {v : Value} (h : Soft w v) (hb : Below w.heap.size w w') : Soft w' v :=
  h.turn (below_turn hb fun _ => False) (fun _ _ x => x)
theorem SoftO.turn {w w' : World} {v : Value} {S : Nat → Prop} (h : SoftO w v) (ht : Turn S w w') (hn : ∀ g, IsRow 3 w g → ¬ S g) : SoftO w' v := by
  obtain ⟨a, b, c, d, e, rfl, hs⟩ := h
  exact ⟨a, b, c, d, e, rfl, hs.turn ht hn⟩
theorem SoftO.fresh {w w' : World} {v : Value} (h : SoftO w v) (hb : Below w.heap.size w w') : SoftO w' v :=
  h.turn (below_turn hb fun _ => False) (fun _ _ x => x)
theorem softO0 (w : World) (a b c e : Value) : SoftO w (.agg #[a, b, c, .slice none 0 0, e]) := ⟨_, _, _, _, _, rfl, .inl rfl⟩

set_option maxHeartbeats 400000 in
theorem clone_soft (ok : Nat → Prop) (v : Value) (xs : List Int) (w : World) (h : Ints ok w v xs) :
    Calls Try.prog 93 #[v] w fun e w' => ∃ v', e = .returned v' ∧ IntsR 3 w.heap.size w' v' xs ∧ Soft w' v' ∧ Below w.heap.size w w' := by
  have h0 := Lib.hid h
  obtain ⟨A, cap, rfl, h1, h2, h3, h4, h5⟩ := h
  cases A with
  | none =>
    have hc := h3 rfl
    have hy : xs = [] := List.eq_nil_of_length_eq_zero (by omega)
    subst hc hy
    clear h1 h2 h3 h4 h5
    have hn := fun w => Lib.run_eql_slice_nil (P := Try.prog) w 23 3 none 0 0 0 0 Try.underlying23
    go_enter Try.func93, Try.ntmps93
    go_wp2
    go_ret
    exact ⟨_, rfl, IntsR.nil _ _ _, .inl rfl, Below.refl _ _⟩
  | some ad =>
    have hl := h5.1
    have hw := h5.2
    clear h1 h2 h3 h4 h5
    have Hw := Lib.hid hw
    clear hw
    have hn := fun w => Lib.run_eql_slice_nil (P := Try.prog) w 23 3 (some ad) xs.length cap 0 0 Try.underlying23
    go_enter Try.func93, Try.ntmps93
    go_wp2_with (at_builtin; refine wpList_append_ints _ rfl _ _ 23 rfl w.heap.size 3 Try.underlying23 info3 _ 0 [] rfl (World.ownsRow_made w #[] 0 (Nat.le_refl _) (by simp [maxLen]) rfl) ok _ xs rfl (h0.out.alloc _) (by omega) (by simp) ?_; intro v' w' hown hg)
    go_ret
    exact ⟨_, rfl, intsR_of_row (n := xs.length) (by simpa using hown) (by omega) Hw.out, soft_own (by simpa using hown), ((Below.refl _ _).alloc (Nat.le_refl _) _).grown hg (by simp) (fun k hk => by cases hk; exact Nat.le_refl _)⟩

set_option maxHeartbeats 400000 in
theorem copied_soft (ok : Nat → Prop) (v : Value) (o : Ob) (w : World) (h : ObAt ok w v o) :
    Calls Try.prog 54 #[v] w fun e w' => ∃ v', e = .returned v' ∧ ObR w.heap.size w' v' o ∧ SoftO w' v' ∧ Below w.heap.size w w' := by
  obtain ⟨rv, wv, rfl, h1, h2⟩ := h
  obtain ⟨ra, rc, rfl⟩ := h1.shape
  obtain ⟨wa, wc, rfl⟩ := h2.shape
  have H1 := Lib.hid h1
  have H2 := Lib.hid h2
  clear h1 h2
  go_enter Try.func54, Try.ntmps54
  go_wp2_with fail
  refine (clone_soft ok _ _ _ ((H1.out.alloc _).alloc _)).mono ?_
  rintro e w1 ⟨r1, rfl, i1, s1, b1⟩
  have SF := Lib.hid s1
  clear s1
  obtain ⟨ra1, rc1, rfl⟩ := Ints.shape i1
  have I1 := Lib.hid i1
  clear i1
  have h1 := rowB b1 (new20 _ _ _) (by simp <;> omega)
  have h2 := rowB b1 (new21 _ _ _) (by simp <;> omega)
  have ROW := Lib.hid (show ∀ g, IsRow 3 w1 g → ¬ (g = w.heap.size ∨ g = w.heap.size + 1) from by
    rintro g ⟨cs, f, hg⟩ (rfl | rfl)
    · rw [h1] at hg; simp at hg
    · rw [h2] at hg; simp at hg)
  have bw := below_then (((Below.refl w.heap.size w).alloc (Nat.le_refl _) _).alloc (by simp) _) (by simp <;> omega) b1
  have c1 := cellsH h1
  have c2 := cellsH h2
  have f1 := freeH h1
  have f2 := freeH h2
  go_wp2_with fail
  refine (clone_any ok _ _ _ (H2.out.fresh (bw.setCell (Nat.le_refl _) _))).mono ?_
  rintro e w2 ⟨r2, rfl, i2, b2⟩
  obtain ⟨ra2, rc2, rfl⟩ := Ints.shape i2
  have I2 := Lib.hid i2
  clear i2 c1 c2 f1 f2
  have h3 := rowB b2 (rowSet h1 3 _) (heap_lt (rowSet h1 3 _))
  have h4 := rowB b2 (rowSetNe (k := w.heap.size) h2 (by omega) _) (heap_lt (rowSetNe (k := w.heap.size) (i := 3) h2 (by omega) _))
  clear h1 h2
  have c1 := cellsH h3
  have c2 := cellsH h4
  have f1 := freeH h3
  have f2 := freeH h4
  go_wp2_with fail
  clear c1 c2 f1 f2
  have h5 := rowSet (rowSet (rowSet (rowSet (rowSet (rowSetNe (k := w.heap.size) (i := 4) h4 (by omega) (.slice ra2 o.words.length rc2)) 0 (.int .i64 o.op)) 1 (.int .i64 o.n)) 2 (.int .i64 o.ar)) 3 (.slice ra1 o.refs.length rc1)) 4 (.slice ra2 o.words.length rc2)
  have c5 := cellsH h5
  have z1 : w.heap.size ≤ w1.heap.size := bw.size
  have z2 : w1.heap.size ≤ w2.heap.size := by have := b2.size; simpa using this
  have bF : Below w.heap.size w _ := ((((((below_then (bw.setCell (Nat.le_refl _) (.slice ra1 o.refs.length rc1)) (by simpa using z1) b2).setCell (p := ⟨w.heap.size, 4, none⟩) (Nat.le_refl _) (.slice ra2 o.words.length rc2)).setCell (p := ⟨w.heap.size + 1, 0, none⟩) (by simp) (.int .i64 o.op)).setCell (p := ⟨w.heap.size + 1, 1, none⟩) (by simp) (.int .i64 o.n)).setCell (p := ⟨w.heap.size + 1, 2, none⟩) (by simp) (.int .i64 o.ar)).setCell (p := ⟨w.heap.size + 1, 3, none⟩) (by simp) (.slice ra1 o.refs.length rc1)).setCell (p := ⟨w.heap.size + 1, 4, none⟩) (by simp) (.slice ra2 o.words.length rc2)
  refine bodyPost_ret (v := .agg #[.int .i64 o.op, .int .i64 o.n, .int .i64 o.ar, .slice ra1 o.refs.length rc1, .slice ra2 o.words.length rc2]) (by simp [results, Try.results54, go_sem, c5]) rfl ⟨_, rfl, ⟨_, _, rfl, ?_, ?_⟩, ⟨_, _, _, _, _, rfl, ?_⟩, bF⟩
  · refine IntsR.base (IntsR.turn (S := fun k => k = w.heap.size ∨ k = w.heap.size + 1) I1.out ?_ (fun b hb _ hs => by simp at hb; omega)) (by simp <;> omega)
    exact (((((((Turn.refl _ _).setCell (.inl rfl) _).then b2).setCell (.inl rfl) _).setCell (.inr rfl) _).setCell (.inr rfl) _).setCell (.inr rfl) _).setCell (.inr rfl) _ |>.setCell (.inr rfl) _
  · refine IntsR.base (IntsR.turn (S := fun k => k = w.heap.size ∨ k = w.heap.size + 1) I2.out ?_ (fun b hb _ hs => by have := b1.size; simp at hb this; omega)) (by simp <;> omega)
    exact (((((Turn.refl _ _).setCell (.inl rfl) _).setCell (.inr rfl) _).setCell (.inr rfl) _).setCell (.inr rfl) _).setCell (.inr rfl) _ |>.setCell (.inr rfl) _
  · refine SF.out.turn (S := fun k => k = w.heap.size ∨ k = w.heap.size + 1) (((((((((Turn.refl _ _).setCell (.inl rfl) _).then b2).setCell (.inl rfl) _).setCell (.inr rfl) _).setCell (.inr rfl) _).setCell (.inr rfl) _).setCell (.inr rfl) _).setCell (.inr rfl) _) ?_
    intro g hg
    exact ROW.out g hg

set_option maxHeartbeats 400000 in
theorem get_soft (w : World) (h y a : Nat) (H : HM) (k : Int) (hh : HeapAt w h y a H) :
    Calls Try.prog 18 #[.pointer (some ⟨h, 0, none⟩), .int .i64 k] w fun e w' => ∃ v, e = .returned (.tuple #[v, .int .i64 (H.get k).2]) ∧ ObR w.heap.size w' v (H.get k).1 ∧ SoftO w' v ∧ Below w.heap.size w w' := by
  have hlt := heap_lt hh.row
  have c := cellsH hh.row
  have c0 : w.cell? ⟨h, 0, none⟩ = some (.map (some y)) := c 0
  have c1 : w.cell? ⟨h, 1, none⟩ = some (.map (some a)) := c 1
  clear c
  have c0' := cellAlloc c0
  have c1' := cellAlloc c1
  have M := Lib.hid (fun o => made_any h y (w.alloc o) (c0' o))
  clear c0 c1
  have HH := Lib.hid hh
  obtain ⟨ly, hmy, hky⟩ := hh.young
  obtain ⟨la, hma, hka⟩ := hh.old
  clear hh
  have ly1 := fun o => run_lookup_map (P := Try.prog) (t := 52) (k := 3) (e := 25) Try.underlying52 Try.underlying3 (zero25 _) (hmy.alloc o) k true
  have la1 := fun o p => run_lookup_map (P := Try.prog) (t := 52) (k := 3) (e := 25) Try.underlying52 Try.underlying3 (zero25 _) ((hma.alloc o).alloc p) k true
  rcases hky.get k with ⟨g1, g2⟩ | ⟨v, o, g1, g2, hv⟩
  · simp only [g1, Option.getD_none, Option.isSome_none] at ly1
    rcases hka.get k with ⟨g3, g4⟩ | ⟨v, o, g3, g4, hv⟩
    · have HG := Lib.hid (show H.get k = (ob0, 35) by simp [HM.get, g2, g4])
      simp only [g3, Option.getD_none, Option.isSome_none] at la1
      clear hmy hma hky hka g1 g2 g3 g4
      go_enter Try.func18, Try.ntmps18
      go_wp2_with fail
      refine (M.out _).mono ?_
      rintro e w1 ⟨rfl, rfl⟩
      go_wp2_with fail
      rw [HG.out]
      refine bodyPost_ret (v := .tuple #[.agg #[.int .i64 0, .int .i64 0, .int .i64 0, .slice none 0 0, .slice none 0 0], .int .i64 35]) (by simp [results, Try.results18, go_sem]) rfl ⟨_, rfl, obR0 _ _, softO0 _ _ _ _ _, (((Below.refl w.heap.size w).alloc (Nat.le_refl _) _).alloc (by simp) _).alloc (by simp <;> omega) _⟩
    · have HG := Lib.hid (show H.get k = (o, 0) by simp [HM.get, g2, g4])
      obtain ⟨ra, rc, wa, wc, ev⟩ := hv.open
      have HV := Lib.hid hv
      clear hv hmy hma hky hka g2 g4
      subst ev
      simp only [g3, Option.getD_some, Option.isSome_some] at la1
      clear g1 g3
      go_enter Try.func18, Try.ntmps18
      go_wp2_with fail
      refine (M.out _).mono ?_
      rintro e w1 ⟨rfl, rfl⟩
      go_wp2_with fail
      have b0 : Below w.heap.size w _ := (((Below.refl w.heap.size w).alloc (Nat.le_refl _) (.cells #[.int .i64 0, .int .i64 0, .int .i64 0, .slice none 0 0, .slice none 0 0] 25)).alloc (by simp) (.cells #[.int .i64 0, .int .i64 0, .int .i64 0, .slice none 0 0, .slice none 0 0] 25)).alloc (by simp <;> omega) (.cells #[.int .i64 o.op, .int .i64 o.n, .int .i64 o.ar, .slice ra o.refs.length rc, .slice wa o.words.length wc] 25)
      refine (copied_soft _ _ o _ (HV.out.fresh b0).at).mono ?_
      rintro e w3 ⟨v', rfl, hv', hsv, hb'⟩
      have SV := Lib.hid hsv
      clear hsv
      obtain ⟨ra', rc', wa', wc', ev'⟩ := hv'.open
      have HV' := Lib.hid hv'
      clear hv'
      subst ev'
      have hrow := rowB hb' (new30 _ _ _ _) (by simp <;> omega)
      have B' := Lib.hid hb'
      have B0 := Lib.hid b0
      clear hb' b0
      have c := cellsH hrow
      have f := freeH hrow
      have HR := Lib.hid hrow
      clear hrow
      go_wp2_with fail
      clear c f
      have c := cellsH (set5_row HR.out (.int .i64 o.op) (.int .i64 o.n) (.int .i64 o.ar) (.slice ra' o.refs.length rc') (.slice wa' o.words.length wc'))
      unfold set5 at c
      rw [HG.out]
      refine bodyPost_ret (v := .tuple #[.agg #[.int .i64 o.op, .int .i64 o.n, .int .i64 o.ar, .slice ra' o.refs.length rc', .slice wa' o.words.length wc'], .int .i64 0]) (by simp [results, Try.results18, go_sem, c]) rfl ⟨_, rfl, ?_, ?_, ?_⟩
      · refine ((HV'.out.turn (set5_turn (S := fun k => k = w.heap.size) (Turn.refl _ _) rfl _ _ _ _ _) ?_).base (by simp <;> omega))
        intro b hb _ e
        simp at hb
        omega
      · exact SV.out.turn (set5_turn (S := fun k => k = w.heap.size) (Turn.refl _ _) rfl _ _ _ _ _) (fun g hg e => by
          obtain ⟨cs, f, hg⟩ := hg
          rw [e, HR.out] at hg
          simp at hg)
      · exact set5_below (below_then B0.out (by simp <;> omega) B'.out) (Nat.le_refl _) _ _ _ _ _
  · have HG := Lib.hid (show H.get k = (o, 0) by simp [HM.get, g2])
    obtain ⟨ra, rc, wa, wc, ev⟩ := hv.open
    have HV := Lib.hid hv
    clear hv hmy hma hky hka la1 g2
    subst ev
    simp only [g1, Option.getD_some, Option.isSome_some] at ly1
    clear g1
    go_enter Try.func18, Try.ntmps18
    go_wp2_with fail
    refine (M.out _).mono ?_
    rintro e w1 ⟨rfl, rfl⟩
    go_wp2_with fail
    have b0 : Below w.heap.size w _ := ((Below.refl w.heap.size w).alloc (Nat.le_refl _) (.cells #[.int .i64 0, .int .i64 0, .int .i64 0, .slice none 0 0, .slice none 0 0] 25)).alloc (by simp) (.cells #[.int .i64 o.op, .int .i64 o.n, .int .i64 o.ar, .slice ra o.refs.length rc, .slice wa o.words.length wc] 25)
    refine (copied_soft _ _ o _ (HV.out.fresh b0).at).mono ?_
    rintro e w3 ⟨v', rfl, hv', hsv, hb'⟩
    have SV := Lib.hid hsv
    clear hsv
    obtain ⟨ra', rc', wa', wc', ev'⟩ := hv'.open
    have HV' := Lib.hid hv'
    clear hv'
    subst ev'
    have hrow := rowB hb' (new20 _ _ _) (by simp <;> omega)
    have B' := Lib.hid hb'
    have B0 := Lib.hid b0
    clear hb' b0
    have c := cellsH hrow
    have f := freeH hrow
    have HR := Lib.hid hrow
    clear hrow
    go_wp2_with fail
    clear c f
    have c := cellsH (set5_row HR.out (.int .i64 o.op) (.int .i64 o.n) (.int .i64 o.ar) (.slice ra' o.refs.length rc') (.slice wa' o.words.length wc'))
    unfold set5 at c
    rw [HG.out]
    refine bodyPost_ret (v := .tuple #[.agg #[.int .i64 o.op, .int .i64 o.n, .int .i64 o.ar, .slice ra' o.refs.length rc', .slice wa' o.words.length wc'], .int .i64 0]) (by simp [results, Try.results18, go_sem, c]) rfl ⟨_, rfl, ?_, ?_, ?_⟩
    · refine ((HV'.out.turn (set5_turn (S := fun k => k = w.heap.size) (Turn.refl _ _) rfl _ _ _ _ _) ?_).base (by simp <;> omega))
      intro b hb _ e
      simp at hb
      omega
    · exact SV.out.turn (set5_turn (S := fun k => k = w.heap.size) (Turn.refl _ _) rfl _ _ _ _ _) (fun g hg e => by
        obtain ⟨cs, f, hg⟩ := hg
        rw [e, HR.out] at hg
        simp at hg)
    · exact set5_below (below_then B0.out (by simp <;> omega) B'.out) (Nat.le_refl _) _ _ _ _ _
end Go.Proofs.Ytobniolmielikaa
