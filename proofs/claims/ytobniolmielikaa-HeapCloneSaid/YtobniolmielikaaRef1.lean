/- The reference heap: its copies of objects; no condition. -/
import Derived.Test.YtobniolmielikaaHeap10
namespace Go.Proofs.Ytobniolmielikaa
open Go.RowKit

theorem szA (w : World) (o : Obj) : w.heap.size ≤ (w.alloc o).heap.size := by simp
theorem szAA (w : World) (o p : Obj) : w.heap.size ≤ ((w.alloc o).alloc p).heap.size := by simp <;> omega
theorem szAAA (w : World) (o p q : Obj) : w.heap.size ≤ (((w.alloc o).alloc p).alloc q).heap.size := by simp <;> omega
theorem made2 (w : World) (o p : Obj) : (((w.alloc o).alloc p).alloc (.cells #[] 3)).ownsRow w.heap.size 3 1 (.slice (some ⟨w.heap.size + 1 + 1, 0, none⟩) 0 0) 0 (([] : List Int).map (Value.int .i64)) := by
  have := World.ownsRow_made ((w.alloc o).alloc p) (base := w.heap.size) (e := 3) (size := 1) #[] 0 (szAA _ _ _) (by simp [maxLen]) rfl
  simpa using this
theorem made0 (w : World) (a : Addr) (v : Value) {B : Nat} (hB : B ≤ w.heap.size) : ((w.setCell a v).alloc (.cells #[] 3)).ownsRow B 3 1 (.slice (some ⟨w.heap.size, 0, none⟩) 0 0) 0 (([] : List Int).map (Value.int .i64)) := by
  have := World.ownsRow_made (w.setCell a v) (base := B) (e := 3) (size := 1) #[] 0 (by simpa using hB) (by simp [maxLen]) rfl
  simpa using this
theorem le_sA {B : Nat} {w : World} (hB : B ≤ w.heap.size) (a : Addr) (v : Value) (o : Obj) : B ≤ ((w.setCell a v).alloc o).heap.size := by simp; omega
theorem grown_row {w w' : World} {r g : Nat} {o : Obj} (hg : w.grownBy w' (some r)) (h : w.heap[g]? = some o) (hne : g ≠ r) : w'.heap[g]? = some o :=
  (hg.block g (heap_lt h) (fun e => hne (Option.some.inj e))).trans h
theorem grown_below {B : Nat} {a w w' : World} {r : Option Nat} (h : Below B a w) (hg : w.grownBy w' r) (hB : B ≤ w.heap.size) (hr : ∀ k, r = some k → B ≤ k) : Below B a w' := h.grown hg hB hr

set_option maxHeartbeats 1000000 in
theorem rcopied_any (ok : Nat → Prop) (v : Value) (o : Ob) (w : World) (h : ObAt ok w v o) :
    Calls Try.prog 100 #[v] w fun e w' => ∃ v', e = .returned v' ∧ ObR w.heap.size w' v' o ∧ Below w.heap.size w w' := by
  obtain ⟨rv, wv, rfl, h1, h2⟩ := h
  obtain ⟨ra, rc, rfl⟩ := h1.shape
  obtain ⟨wa, wc, rfl⟩ := h2.shape
  have l1 := h1.len
  have l2 := h2.len
  have H1 := Lib.hid h1
  have H2 := Lib.hid h2
  clear h1 h2
  go_enter Try.func100, Try.ntmps100
  go_upto_region 2 with (at_builtin; go_loud (refine wpList_append_ints _ rfl _ _ 23 rfl w.heap.size 3 Try.underlying23 info3 _ 0 [] rfl (made2 _ _ _) ok _ o.refs rfl (((H1.out.alloc _).alloc _).alloc _) (by omega) (szAAA _ _ _ _) ?_; intro v1 w1 hown hg; replace hg : World.grownBy _ w1 (some (w.heap.size + 1 + 1)) := hg; have i1 : IntsR 3 w.heap.size w1 v1 o.refs := intsR_of_row hown (by omega) H1.out.wf; obtain ⟨A1, k1, rfl⟩ := Ints.shape i1; have r0 := grown_row hg (new30 _ _ _ _) (by omega); have r1 := grown_row hg (new31 _ _ _ _) (by omega); have b1 := Below.grown ((((Below.refl w.heap.size w).alloc (Nat.le_refl _) _).alloc (szA _ _) _).alloc (szAA _ _ _) _) hg (szAAA _ _ _ _) (fun k hk => by cases hk; omega); have z1 := b1.size; have z3 := hg.size; simp only [World.size_alloc] at z3; have I1 := Lib.hid i1; have R0 := Lib.hid r0; have R1 := Lib.hid r1; have B1 := Lib.hid b1; have c0 := cellsH r0; have f0 := freeH r0; clear i1 r0 r1 b1 hown hg))
  clear c0 f0
  have r0 := rowSet R0.out 3 (.slice A1 o.refs.length k1)
  have r1 := rowSetNe (k := w.heap.size) (i := 3) R1.out (by omega) (.slice A1 o.refs.length k1)
  have R0a := Lib.hid r0
  have R1a := Lib.hid r1
  have c0 := cellsH (old1 r0 (.cells #[] 3))
  clear r0 r1
  go_upto_region 3 with (at_builtin; go_loud (refine wpList_append_ints _ rfl _ _ 23 rfl w.heap.size 3 Try.underlying23 info3 _ 0 [] rfl (made0 w1 _ _ z1) ok _ o.words rfl ((H2.out.fresh (B1.out.setCell (Nat.le_refl _) _)).alloc _) (by omega) (le_sA z1 _ _ _) ?_; intro v2 w2 hown hg; replace hg : World.grownBy _ w2 (some w1.heap.size) := hg; have i2 : IntsR 3 w.heap.size w2 v2 o.words := intsR_of_row hown (by omega) H2.out.wf; obtain ⟨A2, k2, rfl⟩ := Ints.shape i2; have r0 := grown_row hg (old1 R0a.out _) (by omega); have r1 := grown_row hg (old1 R1a.out _) (by omega); have b1 := Below.grown ((B1.out.setCell (p := ⟨w.heap.size, 3, none⟩) (Nat.le_refl _) (.slice A1 o.refs.length k1)).alloc (by simpa using z1) (.cells #[] 3)) hg (le_sA z1 _ _ _) (fun k hk => by cases hk; omega); have T2 := Lib.hid (show Turn (fun k => k = w.heap.size) w1 w2 from (((Turn.refl (fun k => k = w.heap.size) w1).setCell (p := ⟨w.heap.size, 3, none⟩) rfl (.slice A1 o.refs.length k1)).alloc (.cells #[] 3)).under (S' := (w1.heap.size ≤ ·)) (turn_of_below ((Below.refl w1.heap.size _).grown hg (by simp) (fun k hk => by cases hk; exact Nat.le_refl _)) (fun k _ hk => hk)) (fun k hk e => by omega)); have z2 := b1.size; have I2 := Lib.hid i2; have Q0 := Lib.hid r0; have Q1 := Lib.hid r1; have B2 := Lib.hid b1; have c1 := cellsH r0; have f1 := freeH r0; have c2 := cellsH r1; have f2 := freeH r1; clear i2 r0 r1 b1 hown hg))
  go_wp2_with fail
  have h5 := rowSet (rowSet (rowSet (rowSet (rowSet (rowSetNe (k := w.heap.size) (i := 4) Q1.out (by omega) (.slice A2 o.words.length k2)) 0 (.int .i64 o.op)) 1 (.int .i64 o.n)) 2 (.int .i64 o.ar)) 3 (.slice A1 o.refs.length k1)) 4 (.slice A2 o.words.length k2)
  clear c1 f1 c2 f2
  have c5 := cellsH h5
  have bF : Below w.heap.size w _ := (((((B2.out.setCell (p := ⟨w.heap.size, 4, none⟩) (Nat.le_refl _) (.slice A2 o.words.length k2)).setCell (p := ⟨w.heap.size + 1, 0, none⟩) (by simp) (.int .i64 o.op)).setCell (p := ⟨w.heap.size + 1, 1, none⟩) (by simp) (.int .i64 o.n)).setCell (p := ⟨w.heap.size + 1, 2, none⟩) (by simp) (.int .i64 o.ar)).setCell (p := ⟨w.heap.size + 1, 3, none⟩) (by simp) (.slice A1 o.refs.length k1)).setCell (p := ⟨w.heap.size + 1, 4, none⟩) (by simp) (.slice A2 o.words.length k2)
  have n0 : ∀ k, IsRow 3 w1 k → ¬ k = w.heap.size := by
    rintro k ⟨cs, f, hk⟩ rfl
    rw [R0.out] at hk
    simp at hk
  have n2 : ∀ k, IsRow 3 w2 k → ¬ (k = w.heap.size ∨ k = w.heap.size + 1) := by
    rintro k ⟨cs, f, hk⟩ (rfl | rfl)
    · rw [Q0.out] at hk
      simp at hk
    · rw [Q1.out] at hk
      simp at hk
  have tF : Turn (fun k => k = w.heap.size ∨ k = w.heap.size + 1) w2 _ := ((((((Turn.refl _ w2).setCell (p := ⟨w.heap.size, 4, none⟩) (.inl rfl) (.slice A2 o.words.length k2)).setCell (p := ⟨w.heap.size + 1, 0, none⟩) (.inr rfl) (.int .i64 o.op)).setCell (p := ⟨w.heap.size + 1, 1, none⟩) (.inr rfl) (.int .i64 o.n)).setCell (p := ⟨w.heap.size + 1, 2, none⟩) (.inr rfl) (.int .i64 o.ar)).setCell (p := ⟨w.heap.size + 1, 3, none⟩) (.inr rfl) (.slice A1 o.refs.length k1)).setCell (p := ⟨w.heap.size + 1, 4, none⟩) (.inr rfl) (.slice A2 o.words.length k2)
  refine bodyPost_ret (v := .agg #[.int .i64 o.op, .int .i64 o.n, .int .i64 o.ar, .slice A1 o.refs.length k1, .slice A2 o.words.length k2]) (by simp [results, Try.results100, go_sem, c5]) rfl ⟨_, rfl, ⟨_, _, rfl, ?_, ?_⟩, bF⟩
  · exact (I1.out.turn T2.out (fun k _ hk => n0 k hk)).turn tF (fun k _ hk => n2 k hk)
  · exact I2.out.turn tF (fun k _ hk => n2 k hk)
end Go.Proofs.Ytobniolmielikaa
