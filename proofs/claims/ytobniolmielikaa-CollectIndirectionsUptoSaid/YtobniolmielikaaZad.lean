/- Texts of the collector's proof, joined: Ref1, Ref2, Ref3, Ref4, Heap4. -/
import Derived.Test.YtobniolmielikaaZac
import Derived.Test.YtobniolmielikaaZab
/- The reference heap: its copies of objects; no condition. -/
namespace Go.Proofs.Ytobniolmielikaa
open Go.RowKit

theorem szA (w : World) (o : Obj) : w.heap.size ≤ (w.alloc o).heap.size := by simp
theorem szAA (w : World) (o p : Obj) : w.heap.size ≤ ((w.alloc o).alloc p).heap.size := by simp <;> omega
theorem szAAA (w : World) (o p q : Obj) : w.heap.size ≤ (((w.alloc o).alloc p).alloc q).heap.size := by simp <;> omega
theorem made2 (w : World) (o p : Obj) : (((w.alloc o).alloc p).alloc (.cells #[] 3)).ownsRow w.heap.size 3 1 (.slice (some ⟨w.heap.size + 1 + 1, 0, none⟩) 0 0) 0 (([] : List Int).map (Value.int .i64)) := by
  have := World.ownsRow_made ((w.alloc o).alloc p) (base := w.heap.size) (e := 3) (size := 1) #[] 0 (szAA _ _ _) (by simp [maxLen]) rfl
  simpa using this
theorem made0 (w : World) (a : Addr) (v : Value) {B : Nat} (hB : B ≤ w.heap.size) : ((w.setCell a v).alloc (.cells #[] 3)).ownsRow B 3 1 (.slice (some ⟨w.heap.size, 0, none⟩) 0 0) 0 (([] : List Int).map (Value.int .i64)) := by
  have := World.ownsRow_made (w.setCell a v) (base := B) (e := 3) (size := 1) #[] 0 (by simpa using hB) (by simp [maxLen]) rfl
  simpa using this
theorem le_sA {B : Nat} {w : World} (hB : B ≤ w.heap.size) (a : Addr) (v : Value) (o : Obj) : B ≤ ((w.setCell a v).alloc o).heap.size := by simp; omega
theorem grown_row {w w' : World} {r g : Nat} {o : Obj} (hg : w.grownBy w' (some r)) (h : w.heap[g]? = some o) (hne : g ≠ r) : w'.heap[g]? = some o :=
  (hg.block g (heap_lt h) (fun e => hne (Option.some.inj e))).trans h
theorem grown_below {B : Nat} {a w w' : World} {r : Option Nat} (h : Below B a w) (hg : w.grownBy w' r) (hB : B ≤ w.heap.size) (hr : ∀ k, r = some k → B ≤ k) : Below B a w' := h.grown hg hB hr

set_option maxHeartbeats 1000000 in
theorem rcopied_any (ok : Nat → Prop) (v : Value) (o : Ob) (w : World) (h : ObAt ok w v o) :
    Calls Try.prog 100 #[v] w fun e w' => ∃ v', e = .returned v' ∧ ObR w.heap.size w' v' o ∧ Below w.heap.size w w' := by
  obtain ⟨rv, wv, rfl, h1, h2⟩ := h
  obtain ⟨ra, rc, rfl⟩ := h1.shape
  obtain ⟨wa, wc, rfl⟩ := h2.shape
  have l1 := h1.len
  have l2 := h2.len
  have H1 := Lib.hid h1
  have H2 := Lib.hid h2
  clear h1 h2
  go_enter Try.func100, Try.ntmps100
  go_upto_region 2 with (at_builtin; go_loud (refine wpList_append_ints _ rfl _ _ 23 rfl w.heap.size 3 Try.underlying23 info3 _ 0 [] rfl (made2 _ _ _) ok _ o.refs rfl (((H1.out.alloc _).alloc _).alloc _) (by omega) (szAAA _ _ _ _) ?_; intro v1 w1 hown hg; replace hg : World.grownBy _ w1 (some (w.heap.size + 1 + 1)) := hg; have i1 : IntsR 3 w.heap.size w1 v1 o.refs := intsR_of_row hown (by omega) H1.out.wf; obtain ⟨A1, k1, rfl⟩ := Ints.shape i1; have r0 := grown_row hg (new30 _ _ _ _) (by omega); have r1 := grown_row hg (new31 _ _ _ _) (by omega); have b1 := Below.grown ((((Below.refl w.heap.size w).alloc (Nat.le_refl _) _).alloc (szA _ _) _).alloc (szAA _ _ _) _) hg (szAAA _ _ _ _) (fun k hk => by cases hk; omega); have z1 := b1.size; have z3 := hg.size; simp only [World.size_alloc] at z3; have I1 := Lib.hid i1; have R0 := Lib.hid r0; have R1 := Lib.hid r1; have B1 := Lib.hid b1; have c0 := cellsH r0; have f0 := freeH r0; clear i1 r0 r1 b1 hown hg))
  clear c0 f0
  have r0 := rowSet R0.out 3 (.slice A1 o.refs.length k1)
  have r1 := rowSetNe (k := w.heap.size) (i := 3) R1.out (by omega) (.slice A1 o.refs.length k1)
  have R0a := Lib.hid r0
  have R1a := Lib.hid r1
  have c0 := cellsH (old1 r0 (.cells #[] 3))
  clear r0 r1
  go_upto_region 3 with (at_builtin; go_loud (refine wpList_append_ints _ rfl _ _ 23 rfl w.heap.size 3 Try.underlying23 info3 _ 0 [] rfl (made0 w1 _ _ z1) ok _ o.words rfl ((H2.out.fresh (B1.out.setCell (Nat.le_refl _) _)).alloc _) (by omega) (le_sA z1 _ _ _) ?_; intro v2 w2 hown hg; replace hg : World.grownBy _ w2 (some w1.heap.size) := hg; have i2 : IntsR 3 w.heap.size w2 v2 o.words := intsR_of_row hown (by omega) H2.out.wf; obtain ⟨A2, k2, rfl⟩ := Ints.shape i2; have r0 := grown_row hg (old1 R0a.out _) (by omega); have r1 := grown_row hg (old1 R1a.out _) (by omega); have b1 := Below.grown ((B1.out.setCell (p := ⟨w.heap.size, 3, none⟩) (Nat.le_refl _) (.slice A1 o.refs.length k1)).alloc (by simpa using z1) (.cells #[] 3)) hg (le_sA z1 _ _ _) (fun k hk => by cases hk; omega); have T2 := Lib.hid (show Turn (fun k => k = w.heap.size) w1 w2 from (((Turn.refl (fun k => k = w.heap.size) w1).setCell (p := ⟨w.heap.size, 3, none⟩) rfl (.slice A1 o.refs.length k1)).alloc (.cells #[] 3)).under (S' := (w1.heap.size ≤ ·)) (turn_of_below ((Below.refl w1.heap.size _).grown hg (by simp) (fun k hk => by cases hk; exact Nat.le_refl _)) (fun k _ hk => hk)) (fun k hk e => by omega)); have z2 := b1.size; have I2 := Lib.hid i2; have Q0 := Lib.hid r0; have Q1 := Lib.hid r1; have B2 := Lib.hid b1; have c1 := cellsH r0; have f1 := freeH r0; have c2 := cellsH r1; have f2 := freeH r1; clear i2 r0 r1 b1 hown hg))
  go_wp2_with fail
  have h5 := rowSet (rowSet (rowSet (rowSet (rowSet (rowSetNe (k := w.heap.size) (i := 4) Q1.out (by omega) (.slice A2 o.words.length k2)) 0 (.int .i64 o.op)) 1 (.int .i64 o.n)) 2 (.int .i64 o.ar)) 3 (.slice A1 o.refs.length k1)) 4 (.slice A2 o.words.length k2)
  clear c1 f1 c2 f2
  have c5 := cellsH h5
  have bF : Below w.heap.size w _ := (((((B2.out.setCell (p := ⟨w.heap.size, 4, none⟩) (Nat.le_refl _) (.slice A2 o.words.length k2)).setCell (p := ⟨w.heap.size + 1, 0, none⟩) (by simp) (.int .i64 o.op)).setCell (p := ⟨w.heap.size + 1, 1, none⟩) (by simp) (.int .i64 o.n)).setCell (p := ⟨w.heap.size + 1, 2, none⟩) (by simp) (.int .i64 o.ar)).setCell (p := ⟨w.heap.size + 1, 3, none⟩) (by simp) (.slice A1 o.refs.length k1)).setCell (p := ⟨w.heap.size + 1, 4, none⟩) (by simp) (.slice A2 o.words.length k2)
  have n0 : ∀ k, IsRow 3 w1 k → ¬ k = w.heap.size := by
    rintro k ⟨cs, f, hk⟩ rfl
    rw [R0.out] at hk
    simp at hk
  have n2 : ∀ k, IsRow 3 w2 k → ¬ (k = w.heap.size ∨ k = w.heap.size + 1) := by
    rintro k ⟨cs, f, hk⟩ (rfl | rfl)
    · rw [Q0.out] at hk
      simp at hk
    · rw [Q1.out] at hk
      simp at hk
  have tF : Turn (fun k => k = w.heap.size ∨ k = w.heap.size + 1) w2 _ := ((((((Turn.refl _ w2).setCell (p := ⟨w.heap.size, 4, none⟩) (.inl rfl) (.slice A2 o.words.length k2)).setCell (p := ⟨w.heap.size + 1, 0, none⟩) (.inr rfl) (.int .i64 o.op)).setCell (p := ⟨w.heap.size + 1, 1, none⟩) (.inr rfl) (.int .i64 o.n)).setCell (p := ⟨w.heap.size + 1, 2, none⟩) (.inr rfl) (.int .i64 o.ar)).setCell (p := ⟨w.heap.size + 1, 3, none⟩) (.inr rfl) (.slice A1 o.refs.length k1)).setCell (p := ⟨w.heap.size + 1, 4, none⟩) (.inr rfl) (.slice A2 o.words.length k2)
  refine bodyPost_ret (v := .agg #[.int .i64 o.op, .int .i64 o.n, .int .i64 o.ar, .slice A1 o.refs.length k1, .slice A2 o.words.length k2]) (by simp [results, Try.results100, go_sem, c5]) rfl ⟨_, rfl, ⟨_, _, rfl, ?_, ?_⟩, bF⟩
  · exact (I1.out.turn T2.out (fun k _ hk => n0 k hk)).turn tF (fun k _ hk => n2 k hk)
  · exact I2.out.turn tF (fun k _ hk => n2 k hk)
end Go.Proofs.Ytobniolmielikaa

/- The reference heap: its items, find and New; no condition. -/
namespace Go.Proofs.Ytobniolmielikaa
open Go.RowKit

/-- An item as it lies in memory. -/
structure It where
  a : Int
  o : Ob
  ra : Option Addr
  rc : Nat
  wa : Option Addr
  wc : Nat
def It.val (x : It) : Value := .agg #[.int .i64 x.o.op, .int .i64 x.o.n, .int .i64 x.o.ar, .slice x.ra x.o.refs.length x.rc, .slice x.wa x.o.words.length x.wc]
def It.cells (x : It) : List Value := [.int .i64 x.a, .int .i64 x.o.op, .int .i64 x.o.n, .int .i64 x.o.ar, .slice x.ra x.o.refs.length x.rc, .slice x.wa x.o.words.length x.wc]
def flat (l : List It) : List Value := l.flatMap It.cells
theorem flat_nil : flat [] = [] := rfl
theorem flat_append (l m : List It) : flat (l ++ m) = flat l ++ flat m := by simp [flat]
theorem flat_one (x : It) : flat [x] = x.cells := by simp [flat]
theorem flat_length : ∀ l : List It, (flat l).length = l.length * 6
  | [] => rfl
  | x :: r => by
    have := flat_length r
    have e : flat (x :: r) = x.cells ++ flat r := by simp [flat]
    rw [e, List.length_append, this, List.length_cons]
    simp [It.cells]
    omega
theorem flat_get : ∀ (l : List It) (k : Nat) (x : It) (j : Nat), l[k]? = some x → j < 6 → (flat l)[k * 6 + j]? = x.cells[j]?
  | [], k, x, j, h, _ => by simp at h
  | y :: r, 0, x, j, h, hj => by
    simp at h
    subst h
    have e : flat (y :: r) = y.cells ++ flat r := by simp [flat]
    have hl : y.cells.length = 6 := rfl
    rw [e, Nat.zero_mul, Nat.zero_add, List.getElem?_append_left (by rw [hl]; exact hj)]
  | y :: r, k + 1, x, j, h, hj => by
    have ih := flat_get r k x j (by simpa using h) hj
    have e : flat (y :: r) = y.cells ++ flat r := by simp [flat]
    have hl : y.cells.length = 6 := rfl
    rw [e, List.getElem?_append_right (by rw [hl]; omega), hl, ← ih]
    congr 1
    omega
theorem flat_one' (l : List It) : ∀ u ∈ flat l, u.oneCell' = true := by
  intro u hu
  obtain ⟨x, _, hx⟩ := List.mem_flatMap.1 hu
  simp [It.cells] at hx
  rcases hx with rfl | rfl | rfl | rfl | rfl | rfl <;> rfl

/-- The cells of an item. -/
structure ItAt (w : World) (b o : Nat) (x : It) : Prop where
  c0 : w.cell? ⟨b, o, none⟩ = some (.int .i64 x.a)
  c1 : w.cell? ⟨b, o + 1, none⟩ = some (.int .i64 x.o.op)
  c2 : w.cell? ⟨b, o + 2, none⟩ = some (.int .i64 x.o.n)
  c3 : w.cell? ⟨b, o + 3, none⟩ = some (.int .i64 x.o.ar)
  c4 : w.cell? ⟨b, o + 4, none⟩ = some (.slice x.ra x.o.refs.length x.rc)
  c5 : w.cell? ⟨b, o + 5, none⟩ = some (.slice x.wa x.o.words.length x.wc)
theorem ItAt.keep {w w' : World} {b o : Nat} {x : It} (h : ItAt w b o x) (hb : w'.heap[b]? = w.heap[b]?) : ItAt w' b o x := by
  have e : ∀ i, w'.cell? ⟨b, i, none⟩ = w.cell? ⟨b, i, none⟩ := fun i => World.cell?_of_block (a := ⟨b, i, none⟩) hb
  exact ⟨(e _).trans h.c0, (e _).trans h.c1, (e _).trans h.c2, (e _).trans h.c3, (e _).trans h.c4, (e _).trans h.c5⟩

/-- v is a slice of the items l. -/
def Raw (ok : Nat → Prop) (w : World) (v : Value) (l : List It) : Prop :=
  ∃ (A : Option Addr) (cap : Nat), v = .slice A l.length cap ∧ l.length ≤ cap ∧ cap ≤ maxLen ∧ (A = none → cap = 0) ∧
    (0 < l.length → ∃ b o, A = some ⟨b, o, none⟩ ∧ ok b ∧ b < w.heap.size ∧ ∀ k x, l[k]? = some x → ItAt w b (o + k * 6) x) ∧ l.length * 80 ≤ 140737488355328
theorem Raw.keep {ok : Nat → Prop} {w w' : World} {v : Value} {l : List It} (h : Raw ok w v l) (hs : w.heap.size ≤ w'.heap.size) (hb : ∀ b, ok b → b < w.heap.size → w'.heap[b]? = w.heap[b]?) : Raw ok w' v l := by
  obtain ⟨A, cap, rfl, h1, h2, h3, h4, h5⟩ := h
  refine ⟨A, cap, rfl, h1, h2, h3, fun h0 => ?_, h5⟩
  obtain ⟨b, o, e, hk, hl, hc⟩ := h4 h0
  exact ⟨b, o, e, hk, by omega, fun k x hx => (hc k x hx).keep (hb b hk hl)⟩
theorem Raw.fresh {ok : Nat → Prop} {w w' : World} {v : Value} {l : List It} (h : Raw ok w v l) (hb : Below w.heap.size w w') : Raw ok w' v l :=
  h.keep hb.size fun b _ hl => hb.block b hl
theorem Raw.turn {ok S : Nat → Prop} {w w' : World} {v : Value} {l : List It} (h : Raw ok w v l) (ht : Turn S w w') (ho : ∀ b, ok b → ¬ S b) : Raw ok w' v l :=
  h.keep ht.size fun b hk hl => ht.block b hl (ho b hk)
theorem Raw.mono {ok ok' : Nat → Prop} {w : World} {v : Value} {l : List It} (h : Raw ok w v l) (ho : ∀ b, b < w.heap.size → ok b → ok' b) : Raw ok' w v l := by
  obtain ⟨A, cap, rfl, h1, h2, h3, h4, h5⟩ := h
  refine ⟨A, cap, rfl, h1, h2, h3, fun h0 => ?_, h5⟩
  obtain ⟨b, o, e, hk, hl, hc⟩ := h4 h0
  exact ⟨b, o, e, ho b hl hk, hl, hc⟩
theorem Raw.shape {ok : Nat → Prop} {w : World} {v : Value} {l : List It} (h : Raw ok w v l) : ∃ A c, v = .slice A l.length c := by
  obtain ⟨A, cap, e, _⟩ := h
  exact ⟨A, cap, e⟩
theorem Raw.len {ok : Nat → Prop} {w : World} {v : Value} {l : List It} (h : Raw ok w v l) : l.length * 80 ≤ 140737488355328 := by
  obtain ⟨A, cap, e, h1, h2, h3, h4, h5⟩ := h
  exact h5
theorem Raw.at {ok : Nat → Prop} {w : World} {A : Option Addr} {n c : Nat} {l : List It} (h : Raw ok w (.slice A n c) l) {k : Nat} {x : It} (hk : l[k]? = some x) : ∃ b o, A = some ⟨b, o, none⟩ ∧ ItAt w b (o + k * 6) x := by
  obtain ⟨A', cap, e, h1, h2, h3, h4, h5⟩ := h
  cases e
  have := (List.getElem?_eq_some_iff.1 hk).1
  obtain ⟨b, o, e, _, _, hc⟩ := h4 (by omega)
  exact ⟨b, o, e, hc k x hk⟩
/-- Such a row of the call's own. -/
abbrev Own (base : Nat) (w : World) (v : Value) (l : List It) : Prop := w.ownsRow base 97 6 v l.length (flat l)
theorem Own.raw {base : Nat} {w : World} {v : Value} {l : List It} (h : Own base w v l) (hl : l.length * 80 ≤ 140737488355328) : Raw (fun b => base ≤ b ∧ IsRow 97 w b) w v l := by
  rcases h.2 with ⟨rfl, h0⟩ | ⟨g, cap, cur, rfl, hg, hb, h1, h2, h3, h4⟩
  · have : l = [] := List.eq_nil_of_length_eq_zero h0
    subst this
    exact ⟨none, 0, rfl, by simp, by simp [maxLen], fun _ => rfl, fun h => by simp at h, by simp⟩
  · refine ⟨_, cap, rfl, h1, h2, (fun h => by cases h), fun _ => ⟨g, 0, rfl, ⟨hg, _, _, hb⟩, heap_lt hb, fun k x hx => ?_⟩, hl⟩
    have hkl := (List.getElem?_eq_some_iff.1 hx).1
    have hc := cellsH hb
    have key : ∀ j, j < 6 → w.cell? ⟨g, 0 + k * 6 + j, none⟩ = x.cells[j]? := by
      intro j hj
      rw [hc, ← flat_get l k x j hx hj, ← h4, List.getElem?_take, if_pos (by omega), Array.getElem?_toList]
      congr 1
      omega
    exact ⟨key 0 (by omega), key 1 (by omega), key 2 (by omega), key 3 (by omega), key 4 (by omega), key 5 (by omega)⟩
theorem Own.kept {base : Nat} {w w' : World} {v : Value} {l : List It} (h : Own base w v l) (hb : ∀ g, v.ownBlock = some g → w'.heap[g]? = w.heap[g]?) : Own base w' v l := by
  refine ⟨h.1, ?_⟩
  rcases h.2 with h0 | ⟨g, cap, cur, rfl, hg, hh, rest⟩
  · exact .inl h0
  · exact .inr ⟨g, cap, cur, rfl, hg, (hb g rfl).trans hh, rest⟩
theorem Own.fresh {base : Nat} {w w' : World} {v : Value} {l : List It} (h : Own base w v l) (hb : Below w.heap.size w w') : Own base w' v l :=
  h.kept fun g hg => hb.block g (h.lt g hg).2

/-- The items by their addresses. -/
def keyed (l : List It) : List (Int × It) := l.map fun x => (x.a, x)
/-- What find answers. -/
def fnd (l : List It) (k : Int) : Int := match ix (keyed l) k with | some (i, _) => i | none => -1
theorem ix_first {β : Type} : ∀ (l : List (Int × β)) (k : Int) (i : Nat) (v : β), l[i]? = some (k, v) → (∀ j, j < i → ∀ p, l[j]? = some p → p.1 ≠ k) → ix l k = some (i, v)
  | [], k, i, v, h, _ => by simp at h
  | p :: r, k, 0, v, h, _ => by
    simp at h
    subst h
    simp [ix]
  | p :: r, k, i + 1, v, h, hn => by
    have h0 := hn 0 (by omega) p rfl
    have ih := ix_first r k i v (by simpa using h) (fun j hj q hq => hn (j + 1) (by omega) q (by simpa using hq))
    simp [ix, Ne.symm h0, ih]
theorem fnd_some {l : List It} {k : Int} {i : Nat} {x : It} (h : l[i]? = some x) (hk : x.a = k) (hn : ∀ j, j < i → ∀ y, l[j]? = some y → y.a ≠ k) : fnd l k = i := by
  have : ix (keyed l) k = some (i, x) := by
    refine ix_first _ _ _ _ (by simp [keyed, h, hk]) ?_
    intro j hj p hp
    simp only [keyed, List.getElem?_map, Option.map_eq_some_iff] at hp
    obtain ⟨y, hy, rfl⟩ := hp
    exact hn j hj y hy
  simp [fnd, this]
theorem fnd_none {l : List It} {k : Int} (hn : ∀ x ∈ l, x.a ≠ k) : fnd l k = -1 := by
  have : ix (keyed l) k = none := by
    refine ix_none.2 fun h => ?_
    simp only [keyed, List.map_map, List.mem_map] at h
    obtain ⟨x, hx, e⟩ := h
    exact hn x hx e
  simp [fnd, this]

set_option maxHeartbeats 400000 in
theorem find_any (ok : Nat → Prop) (w : World) (v : Value) (l : List It) (k : Int) (h : Raw ok w v l) :
    Calls Try.prog 99 #[v, .int .i64 k] w fun e w' => e = .returned (.int .i64 (fnd l k)) ∧ w' = w := by
  obtain ⟨A, c, rfl⟩ := h.shape
  have hlen := h.len
  have H := Lib.hid h
  clear h
  go_enter Try.func99, Try.ntmps99
  go_wp2_with fail
  go_loopw [5] (fun i wr => ∃ n : Nat, n ≤ l.length ∧ i = .int .i64 n ∧ (∀ j, j < n → ∀ y, l[j]? = some y → y.a ≠ k) ∧ wr = w) (fun i _ => l.length - (intOf i).toNat)
  case atStart => exact ⟨0, Nat.zero_le _, rfl, fun j hj => by omega, rfl⟩
  case round =>
    obtain ⟨n, hn, rfl, hno, rfl⟩ := hrel
    have HNO := Lib.hid hno
    clear hno
    by_cases hlt : n < l.length
    · have hx := List.getElem?_eq_getElem hlt
      generalize l[n] = x at hx
      obtain ⟨b, o, rfl, hat⟩ := H.out.at hx
      have c0 := hat.c0
      have HX := Lib.hid hx
      clear hat hx
      by_cases he : x.a = k
      · have HF := Lib.hid (fnd_some HX.out he HNO.out)
        have hb : (x.a == k) = true := by simpa using he
        clear he
        go_wp2_with fail
        go_ret
        exact ⟨by rw [HF.out]; rfl, by first | rfl | trivial⟩
      · have hb : (x.a == k) = false := by simpa using he
        have HE := Lib.hid he
        clear he
        go_wp2_with fail
        go_roundw
        case rel =>
          refine ⟨n + 1, by omega, by go_num, ?_, trivial⟩
          intro j hj y hy
          by_cases hjn : j = n
          · subst hjn
            rw [HX.out] at hy
            cases hy
            exact HE.out
          · exact HNO.out j (by omega) y hy
        case measure => simp [intOf]; omega
    · have he : n = l.length := by omega
      subst he
      have HF := Lib.hid (fnd_none (l := l) (k := k) (fun x hx => by
        obtain ⟨j, hj⟩ := List.getElem?_of_mem hx
        exact HNO.out j (List.getElem?_eq_some_iff.1 hj).1 x hj))
      go_wp2_with fail
      go_ret
      exact ⟨by rw [HF.out]; rfl, by first | rfl | trivial⟩
end Go.Proofs.Ytobniolmielikaa

/- The reference heap: New, Old, Count, Room, Get; no condition. -/
namespace Go.Proofs.Ytobniolmielikaa
open Go.RowKit

/-- The contents of a reference heap. -/
structure RM where
  s0 : Int
  s1 : Int
  next : Int
  n : List It
  a : List It

/-- r: the block of a reference heap, NV and AV: its slices. -/
structure RHeapAt (base : Nat) (w : World) (r : Nat) (NV AV : Value) (R : RM) : Prop where
  row : w.heap[r]? = some (.cells #[.int .i64 R.s0, .int .i64 R.s1, NV, AV, .int .i64 R.next] 92)
  nown : Own base w NV R.n
  aown : Own base w AV R.a
  apart : ∀ g, NV.ownBlock = some g → AV.ownBlock ≠ some g
  nok : ∀ x ∈ R.n, ObR 0 w x.val x.o
  aok : ∀ x ∈ R.a, ObR 0 w x.val x.o
  nsmall : R.n.length ≤ 65536
  asmall : R.a.length ≤ 65536
/-- The blocks of a reference heap. -/
def RB (r : Nat) (NV AV : Value) (k : Nat) : Prop := k = r ∨ NV.ownBlock = some k ∨ AV.ownBlock = some k

theorem Own.row {base : Nat} {w : World} {v : Value} {l : List It} (h : Own base w v l) {g : Nat} (hg : v.ownBlock = some g) : base ≤ g ∧ IsRow 97 w g := by
  rcases h.2 with ⟨rfl, _⟩ | ⟨g', cap, cur, rfl, hb, hh, _⟩
  · simp [Value.ownBlock] at hg
  · simp [Value.ownBlock] at hg
    subst hg
    exact ⟨hb, _, _, hh⟩
theorem IsRow.two {w : World} {k : Nat} {s t : TypeId} (h : IsRow s w k) (h' : IsRow t w k) : s = t := by
  obtain ⟨c, f, h⟩ := h
  obtain ⟨c', f', h'⟩ := h'
  rw [h] at h'
  simp at h'
  exact h'.2.1
theorem Own.shape {base : Nat} {w : World} {v : Value} {l : List It} (h : Own base w v l) : ∃ A c, v = .slice A l.length c := by
  rcases h.2 with ⟨rfl, h0⟩ | ⟨g, cap, cur, rfl, _⟩
  · exact ⟨none, 0, by rw [h0]⟩
  · exact ⟨_, _, rfl⟩
theorem RHeapAt.turn {base : Nat} {S : Nat → Prop} {w w' : World} {r : Nat} {NV AV : Value} {R : RM} (h : RHeapAt base w r NV AV R) (ht : Turn S w w') (h1 : ¬ S r) (h2 : ∀ g, base ≤ g → IsRow 97 w g → ¬ S g) (h3 : ∀ k, IsRow 3 w k → ¬ S k) : RHeapAt base w' r NV AV R :=
  ⟨rowT ht h.row h1, h.nown.kept fun g hg => ht.block g (h.nown.lt g hg).2 (h2 g (h.nown.row hg).1 (h.nown.row hg).2), h.aown.kept fun g hg => ht.block g (h.aown.lt g hg).2 (h2 g (h.aown.row hg).1 (h.aown.row hg).2), h.apart,
    fun x hx => (h.nok x hx).turn ht (fun k _ hk => h3 k hk), fun x hx => (h.aok x hx).turn ht (fun k _ hk => h3 k hk), h.nsmall, h.asmall⟩
theorem RHeapAt.fresh {base : Nat} {w w' : World} {r : Nat} {NV AV : Value} {R : RM} (h : RHeapAt base w r NV AV R) (hb : Below w.heap.size w w') : RHeapAt base w' r NV AV R :=
  h.turn (below_turn hb fun _ => False) (fun x => x) (fun _ _ _ x => x) (fun _ _ x => x)
theorem RHeapAt.lt {base : Nat} {w : World} {r : Nat} {NV AV : Value} {R : RM} (h : RHeapAt base w r NV AV R) : r < w.heap.size := heap_lt h.row
theorem RHeapAt.cells {base : Nat} {w : World} {r : Nat} {NV AV : Value} {R : RM} (h : RHeapAt base w r NV AV R) : w.cell? ⟨r, 0, none⟩ = some (.int .i64 R.s0) ∧ w.cell? ⟨r, 1, none⟩ = some (.int .i64 R.s1) ∧ w.cell? ⟨r, 2, none⟩ = some NV ∧ w.cell? ⟨r, 3, none⟩ = some AV ∧ w.cell? ⟨r, 4, none⟩ = some (.int .i64 R.next) := by
  have c := cellsH h.row
  exact ⟨c 0, c 1, c 2, c 3, c 4⟩
theorem RHeapAt.rawN {base : Nat} {w : World} {r : Nat} {NV AV : Value} {R : RM} (h : RHeapAt base w r NV AV R) : Raw (fun b => base ≤ b ∧ IsRow 97 w b) w NV R.n := h.nown.raw (by have := h.nsmall; omega)
theorem RHeapAt.rawA {base : Nat} {w : World} {r : Nat} {NV AV : Value} {R : RM} (h : RHeapAt base w r NV AV R) : Raw (fun b => base ≤ b ∧ IsRow 97 w b) w AV R.a := h.aown.raw (by have := h.asmall; omega)

theorem fnd_cases (l : List It) (k : Int) : (∃ (i : Nat) (x : It), fnd l k = i ∧ l[i]? = some x ∧ get (keyed l) k = some x ∧ x.a = k) ∨ (fnd l k = -1 ∧ get (keyed l) k = none) := by
  cases h : ix (keyed l) k with
  | none => exact .inr ⟨by simp [fnd, h], by simp [Go.Proofs.Ytobniolmielikaa.get, h]⟩
  | some q =>
    obtain ⟨i, x⟩ := q
    have h1 := ix_get h
    simp only [keyed, List.getElem?_map, Option.map_eq_some_iff, Prod.mk.injEq] at h1
    obtain ⟨y, h2, h3, rfl⟩ := h1
    exact .inl ⟨i, y, by simp [fnd, h], h2, by simp [Go.Proofs.Ytobniolmielikaa.get, h], h3⟩

set_option maxHeartbeats 400000 in
theorem rnew_no (n o : Int) (w : World) (h : newOk n o = false) : Calls Try.prog 56 #[.int .i64 n, .int .i64 o] w fun e w' => e = .returned (.tuple #[.pointer none, .int .i64 39]) ∧ w' = w := by
  have hg : n < 1 ∨ (1 ≤ n ∧ 65536 < n) ∨ (1 ≤ n ∧ n ≤ 65536 ∧ o < 1) ∨ (1 ≤ n ∧ n ≤ 65536 ∧ 1 ≤ o ∧ 65536 < o) := by simp [newOk] at h; omega
  clear h
  rcases hg with g | ⟨g, g'⟩ | ⟨g1, g2, g3⟩ | ⟨g1, g2, g3, g4⟩ <;> (go_enter Try.func56, Try.ntmps56; go_wp2; go_ret2; exact ⟨rfl, rfl⟩)

set_option maxHeartbeats 400000 in
theorem rnew_yes (base : Nat) (n o : Int) (w : World) (h : newOk n o = true) : Calls Try.prog 56 #[.int .i64 n, .int .i64 o] w fun e w' => ∃ r NV AV, e = .returned (.tuple #[.pointer (some ⟨r, 0, none⟩), .int .i64 0]) ∧
    RHeapAt base w' r NV AV ⟨n, o, 0, [], []⟩ ∧ w.heap.size ≤ r ∧ Below w.heap.size w w' := by
  have hg : 1 ≤ n ∧ n ≤ 65536 ∧ 1 ≤ o ∧ o ≤ 65536 := by simp [newOk] at h; omega
  clear h
  obtain ⟨g1, g2, g3, g4⟩ := hg
  go_enter Try.func56, Try.ntmps56
  go_wp2
  go_ret2
  exact ⟨w.heap.size, .slice none 0 0, .slice none 0 0, rfl, ⟨new0 _ _, World.ownsRow_nil _ _ _ _, World.ownsRow_nil _ _ _ _, fun g hg => by simp [Value.ownBlock] at hg, fun x hx => by simp at hx, fun x hx => by simp at hx, by simp, by simp⟩, Nat.le_refl _, (Below.refl _ _).alloc (Nat.le_refl _) _⟩

set_option maxHeartbeats 400000 in
theorem rold_any (base : Nat) (w : World) (r : Nat) (NV AV : Value) (R : RM) (k : Int) (hh : RHeapAt base w r NV AV R) :
    Calls Try.prog 64 #[.pointer (some ⟨r, 0, none⟩), .int .i64 k] w fun e w' => e = .returned (.bool (get (keyed R.a) k).isSome) ∧ w' = w := by
  obtain ⟨-, -, -, c3, -⟩ := hh.cells
  have HA := Lib.hid hh.rawA
  clear hh
  go_enter Try.func64, Try.ntmps64
  go_wp2_with fail
  refine (find_any _ w AV R.a k HA.out).mono ?_
  rintro e w1 ⟨rfl, rfl⟩
  rcases fnd_cases R.a k with ⟨i, x, h1, -, h2, -⟩ | ⟨h1, h2⟩
  · rw [h1]
    have H2 := Lib.hid h2
    clear h1 h2
    go_wp2_with fail
    go_ret
    exact ⟨by rw [H2.out]; simp, by first | rfl | trivial⟩
  · rw [h1]
    have H2 := Lib.hid h2
    clear h1 h2
    go_wp2_with fail
    go_ret
    exact ⟨by rw [H2.out]; rfl, by first | rfl | trivial⟩

set_option maxHeartbeats 400000 in
theorem rcount_any (base : Nat) (w : World) (r : Nat) (NV AV : Value) (R : RM) (hh : RHeapAt base w r NV AV R) :
    Calls Try.prog 59 #[.pointer (some ⟨r, 0, none⟩)] w fun e w' => e = .returned (.tuple #[.int .i64 R.n.length, .int .i64 R.a.length]) ∧ ∃ n, w' = w.drewN n := by
  obtain ⟨-, -, c2, c3, -⟩ := hh.cells
  obtain ⟨A1, k1, rfl⟩ := hh.nown.shape
  obtain ⟨A2, k2, rfl⟩ := hh.aown.shape
  clear hh
  go_enter Try.func59, Try.ntmps59
  go_wp2_with fail
  go_quiet (fail)
  go_wp2_with fail
  go_ret2
  exact ⟨rfl, nq, rfl⟩

set_option maxHeartbeats 400000 in
theorem rroom_any (base : Nat) (w : World) (r : Nat) (NV AV : Value) (R : RM) (hh : RHeapAt base w r NV AV R) :
    Calls Try.prog 60 #[.pointer (some ⟨r, 0, none⟩)] w fun e w' => e = .returned (.int .i64 (wrap64 (R.s0 - R.n.length))) ∧ ∃ n, w' = w.drewN n := by
  obtain ⟨c0, -, c2, -, -⟩ := hh.cells
  obtain ⟨A1, k1, rfl⟩ := hh.nown.shape
  clear hh
  go_enter Try.func60, Try.ntmps60
  go_wp2_with fail
  go_quiet (fail)
  go_wp2_with fail
  go_ret
  exact ⟨rfl, nq, rfl⟩

/-- What Get answers. -/
def RM.get (R : RM) (k : Int) : Ob × Int :=
  match Go.Proofs.Ytobniolmielikaa.get (keyed R.n) k with
  | some x => (x.o, 0)
  | none => match Go.Proofs.Ytobniolmielikaa.get (keyed R.a) k with
    | some x => (x.o, 0)
    | none => (ob0, 35)
end Go.Proofs.Ytobniolmielikaa

/- The reference heap: Get; no condition. -/
namespace Go.Proofs.Ytobniolmielikaa
open Go.RowKit

set_option maxHeartbeats 1000000 in
theorem rget_any (base : Nat) (w : World) (r : Nat) (NV AV : Value) (R : RM) (k : Int) (hh : RHeapAt base w r NV AV R) :
    Calls Try.prog 63 #[.pointer (some ⟨r, 0, none⟩), .int .i64 k] w fun e w' => ∃ v, e = .returned (.tuple #[v, .int .i64 (R.get k).2]) ∧ ObR w.heap.size w' v (R.get k).1 ∧ Below w.heap.size w w' := by
  have hlt := hh.lt
  have HH := Lib.hid hh
  have b0 : Below w.heap.size w (w.alloc (.cells #[.int .i64 0, .int .i64 0, .int .i64 0, .slice none 0 0, .slice none 0 0] 25)) := (Below.refl w.heap.size w).alloc (Nat.le_refl _) _
  have B0 := Lib.hid b0
  have HZ := Lib.hid (new0 w (.cells #[.int .i64 0, .int .i64 0, .int .i64 0, .slice none 0 0, .slice none 0 0] 25))
  have hz : (w.alloc (.cells #[.int .i64 0, .int .i64 0, .int .i64 0, .slice none 0 0, .slice none 0 0] 25)).heap.size = w.heap.size + 1 := by simp
  have hh2 := hh.fresh b0
  obtain ⟨-, -, c2, c3, -⟩ := hh2.cells
  have HN := Lib.hid hh2.rawN
  have HA := Lib.hid hh2.rawA
  obtain ⟨A1, k1, rfl⟩ := hh.nown.shape
  obtain ⟨A2, k2, rfl⟩ := hh.aown.shape
  clear hh hh2 b0
  have cz := cellsH HZ.out
  have fz := freeH HZ.out
  generalize hwz : w.alloc (.cells #[.int .i64 0, .int .i64 0, .int .i64 0, .slice none 0 0, .slice none 0 0] 25) = wz at *
  have HWZ := Lib.hid hwz
  clear hwz
  go_enter Try.func63, Try.ntmps63
  go_upto_region 1 with fail
  rw [HWZ.out]
  go_wp2_with fail
  refine (find_any _ wz _ R.n k HN.out).mono ?_
  rintro e w1 ⟨rfl, rfl⟩
  rcases fnd_cases R.n k with ⟨i, x, g1, g2, g3, -⟩ | ⟨g1, g3⟩
  · rw [g1]
    clear g1
    · clear c3
      obtain ⟨b, p, eA, hat⟩ := HN.out.at g2
      subst eA
      obtain ⟨_, d1, d2, d3, d4, d5⟩ := hat
      have HO := Lib.hid (HH.out.nok x (List.mem_of_getElem? g2))
      have HG := Lib.hid (show R.get k = (x.o, 0) by simp [RM.get, g3])
      have hi := (List.getElem?_eq_some_iff.1 g2).1
      clear g2 g3
      go_wp2_with fail
      refine (rcopied_any _ _ x.o _ (HO.out.fresh B0.out).at).mono ?_
      rintro e w3 ⟨v', rfl, hv', hb'⟩
      obtain ⟨ra', rc', wa', wc', ev'⟩ := hv'.open
      have HV' := Lib.hid hv'
      clear hv' d1 d2 d3 d4 d5
      subst ev'
      have hrow := rowB hb' HZ.out (heap_lt HZ.out)
      have B' := Lib.hid hb'
      clear hb'
      have c := cellsH hrow
      have f := freeH hrow
      have HR := Lib.hid hrow
      clear hrow
      go_wp2_with fail
      clear c f
      have c := cellsH (set5_row HR.out (.int .i64 x.o.op) (.int .i64 x.o.n) (.int .i64 x.o.ar) (.slice ra' x.o.refs.length rc') (.slice wa' x.o.words.length wc'))
      unfold set5 at c
      rw [HG.out]
      refine bodyPost_ret (v := .tuple #[.agg #[.int .i64 x.o.op, .int .i64 x.o.n, .int .i64 x.o.ar, .slice ra' x.o.refs.length rc', .slice wa' x.o.words.length wc'], .int .i64 0]) (by simp [results, Try.results63, go_sem, c]) rfl ⟨_, rfl, ?_, ?_⟩
      · refine ((HV'.out.turn (set5_turn (S := fun k => k = w.heap.size) (Turn.refl _ _) rfl _ _ _ _ _) ?_).base (by omega))
        intro b hb _ e
        omega
      · exact set5_below (below_then B0.out (by omega) B'.out) (Nat.le_refl _) _ _ _ _ _
  · rw [g1]
    clear g1
    have G3 := Lib.hid g3
    clear g3
    go_wp2_with fail
    refine (find_any _ w1 _ R.a k HA.out).mono ?_
    rintro e w2 ⟨rfl, rfl⟩
    rcases fnd_cases R.a k with ⟨i, x, g1, g2, g3, -⟩ | ⟨g1, g3⟩
    · rw [g1]
      clear g1
      obtain ⟨b, p, eA, hat⟩ := HA.out.at g2
      subst eA
      obtain ⟨_, d1, d2, d3, d4, d5⟩ := hat
      have HO := Lib.hid (HH.out.aok x (List.mem_of_getElem? g2))
      have HG := Lib.hid (show R.get k = (x.o, 0) by simp [RM.get, G3.out, g3])
      have hi := (List.getElem?_eq_some_iff.1 g2).1
      clear g2 g3
      go_wp2_with fail
      refine (rcopied_any _ _ x.o _ (HO.out.fresh B0.out).at).mono ?_
      rintro e w3 ⟨v', rfl, hv', hb'⟩
      obtain ⟨ra', rc', wa', wc', ev'⟩ := hv'.open
      have HV' := Lib.hid hv'
      clear hv' d1 d2 d3 d4 d5
      subst ev'
      have hrow := rowB hb' HZ.out (heap_lt HZ.out)
      have B' := Lib.hid hb'
      clear hb'
      have c := cellsH hrow
      have f := freeH hrow
      have HR := Lib.hid hrow
      clear hrow
      go_wp2_with fail
      clear c f
      have c := cellsH (set5_row HR.out (.int .i64 x.o.op) (.int .i64 x.o.n) (.int .i64 x.o.ar) (.slice ra' x.o.refs.length rc') (.slice wa' x.o.words.length wc'))
      unfold set5 at c
      rw [HG.out]
      refine bodyPost_ret (v := .tuple #[.agg #[.int .i64 x.o.op, .int .i64 x.o.n, .int .i64 x.o.ar, .slice ra' x.o.refs.length rc', .slice wa' x.o.words.length wc'], .int .i64 0]) (by simp [results, Try.results63, go_sem, c]) rfl ⟨_, rfl, ?_, ?_⟩
      · refine ((HV'.out.turn (set5_turn (S := fun k => k = w.heap.size) (Turn.refl _ _) rfl _ _ _ _ _) ?_).base (by omega))
        intro b hb _ e
        omega
      · exact set5_below (below_then B0.out (by omega) B'.out) (Nat.le_refl _) _ _ _ _ _
    · rw [g1]
      have HG := Lib.hid (show R.get k = (ob0, 35) by simp [RM.get, G3.out, g3])
      clear g1 g3 c2 c3
      go_wp2_with fail
      clear cz fz
      have c := cellsH (set5_row HZ.out (.int .i64 0) (.int .i64 0) (.int .i64 0) (.slice none 0 0) (.slice none 0 0))
      unfold set5 at c
      rw [HG.out]
      refine bodyPost_ret (v := .tuple #[.agg #[.int .i64 0, .int .i64 0, .int .i64 0, .slice none 0 0, .slice none 0 0], .int .i64 35]) (by simp [results, Try.results63, go_sem, c]) rfl ⟨_, rfl, obR0 _ _, ?_⟩
      exact set5_below B0.out (Nat.le_refl _) _ _ _ _ _
end Go.Proofs.Ytobniolmielikaa

/- Contracts of the reference's comparisons, where both sides are the same; the reference's look at an object; no condition. -/
namespace Go.Proofs.Ytobniolmielikaa
open Go.RowKit

/-- One cell of a slice of ints. -/
theorem Ints.cell {ok : Nat → Prop} {w : World} {A : Option Addr} {n c : Nat} {xs : List Int} (h : Ints ok w (.slice A n c) xs) {k : Nat} (hk : k < xs.length) : ∃ ad, A = some ad ∧ w.cell? (ad.add k) = some (.int .i64 xs[k]) := by
  obtain ⟨A', cap, e, _, _, _, h4, _⟩ := h
  cases e
  obtain ⟨ad, rfl, _, _, hc⟩ := h4 (by omega)
  exact ⟨ad, rfl, hc k _ (List.getElem?_eq_getElem hk)⟩

set_option maxHeartbeats 400000 in
theorem sameInts_any (ok ok' : Nat → Prop) (w : World) (u v : Value) (xs : List Int) (h : Ints ok w u xs) (h' : Ints ok' w v xs) :
    Calls Try.prog 26 #[u, v] w fun e w' => e = .returned (.bool true) ∧ ∃ n, w' = w.drewN n := by
  obtain ⟨A, c, rfl⟩ := h.shape
  obtain ⟨A', c', rfl⟩ := h'.shape
  have H := Lib.hid h
  have H' := Lib.hid h'
  have hl := h.len
  clear h h'
  go_enter Try.func26, Try.ntmps26
  go_wp2_with fail
  go_loopw [5] (fun i wr => ∃ k n : Nat, k ≤ xs.length ∧ i = .int .i64 k ∧ wr = w.drewN n) (fun i _ => xs.length - (intOf i).toNat)
  case atStart => exact ⟨0, 0, Nat.zero_le _, rfl, rfl⟩
  case round =>
    obtain ⟨k, n, hk, rfl, rfl⟩ := hrel
    by_cases hlt : k < xs.length
    · obtain ⟨ad, rfl, c1⟩ := H.out.cell hlt
      obtain ⟨ad', rfl, c1'⟩ := H'.out.cell hlt
      generalize xs[k] = x at *
      go_wp2_with fail
      go_quiet (fail)
      go_wp2_with fail
      go_roundw
      case rel => exact ⟨k + 1, n + nq, by omega, by go_num, rfl⟩
      case measure => simp [intOf]; omega
    · go_wp2_with fail
      go_ret
      exact ⟨rfl, n, rfl⟩
set_option maxHeartbeats 400000 in
theorem sameObj_any (ok ok' : Nat → Prop) (w : World) (u v : Value) (o : Ob) (h : ObAt ok w u o) (h' : ObAt ok' w v o) :
    Calls Try.prog 21 #[u, v] w fun e w' => e = .returned (.bool true) ∧ Below w.heap.size w w' := by
  obtain ⟨rv, wv, rfl, h1, h2⟩ := h
  obtain ⟨rv', wv', rfl, h1', h2'⟩ := h'
  obtain ⟨A, c, rfl⟩ := h1.shape
  obtain ⟨A', c', rfl⟩ := h1'.shape
  obtain ⟨B, d, rfl⟩ := h2.shape
  obtain ⟨B', d', rfl⟩ := h2'.shape
  have H1 := Lib.hid h1
  have H2 := Lib.hid h2
  have H1' := Lib.hid h1'
  have H2' := Lib.hid h2'
  clear h1 h2 h1' h2'
  have b0 : ∀ p q : Obj, Below w.heap.size w ((w.alloc p).alloc q) := fun p q => ((Below.refl w.heap.size w).alloc (Nat.le_refl _) p).alloc (by simp) q
  have B0 := Lib.hid b0
  clear b0
  go_enter Try.func21, Try.ntmps21
  go_wp2_with fail
  refine (sameInts_any ok ok' _ _ _ o.refs (H1.out.fresh (B0.out _ _)) (H1'.out.fresh (B0.out _ _))).mono ?_
  rintro e w' ⟨rfl, n, rfl⟩
  go_wp2_with fail
  refine (sameInts_any ok ok' _ _ _ o.words (H2.out.fresh (below_drewN (B0.out _ _) _)) (H2'.out.fresh (below_drewN (B0.out _ _) _))).mono ?_
  rintro e w' ⟨rfl, m, rfl⟩
  go_wp2_with fail
  go_ret
  exact ⟨rfl, below_drewN (B0.out _ _) _⟩
theorem vld_bad' {op n ar : Int} {refs words : List Int} (h : ¬ HeadOk op ar) : vld ⟨op, n, ar, refs, words⟩ = false := vld_bad h
set_option maxHeartbeats 2000000 in
theorem refValid_any (ok : Nat → Prop) (v : Value) (o : Ob) (w : World) (h : ObAt ok w v o) :
    Calls Try.prog 19 #[v] w fun e w' => e = .returned (.bool (vld o)) ∧ Below w.heap.size w w' := by
  obtain ⟨rv, wv, rfl, h1, h2⟩ := h
  obtain ⟨wa, wc, ewv⟩ := h2.shape
  obtain ⟨ra, rc, erv⟩ := h1.shape
  subst erv ewv
  have hl := h1.len
  have H1 := Lib.hid h1
  clear h1 h2
  obtain ⟨op, n, ar, refs, words⟩ := o
  dsimp only at *
  by_cases hbad : op < 1 ∨ (1 ≤ op ∧ 10 < op)
  · have HV := Lib.hid (vld_bad' (n := n) (refs := refs) (words := words) (show ¬ HeadOk op ar by unfold HeadOk; omega))
    rcases hbad with g | ⟨g, g'⟩ <;> (go_enter Try.func19, Try.ntmps19; go_wp2_with fail; go_ret; exact ⟨by rw [HV.out]; rfl, (Below.refl _ _).alloc (Nat.le_refl _) _⟩)
  · have hg1 : 1 ≤ op := by omega
    have hg2 : op ≤ 10 := by omega
    clear hbad
    go_enter Try.func19, Try.ntmps19
    go_wp2_with fail
    go_loop [3] (fun i => ∃ k : Nat, k ≤ refs.length ∧ i = .int .i64 k ∧ NonNeg (refs.take k)) (fun i => refs.length - (intOf i).toNat)
    case atStart => exact ⟨0, Nat.zero_le _, rfl, by simp [NonNeg]⟩
    case round =>
      obtain ⟨k, hk, rfl, hnn⟩ := hrel
      have HN := Lib.hid hnn
      clear hnn
      by_cases hlt : k < refs.length
      · obtain ⟨ad, rfl, hck⟩ := H1.out.cell hlt
        have hck' := cellAlloc hck
        generalize hr : refs[k] = r at hck hck'
        have HR := Lib.hid hr
        clear hr hck
        by_cases hneg : r < 0
        · go_wp2_with fail
          go_ret
          refine ⟨by rw [vld_neg hlt HR.out hneg]; rfl, (Below.refl _ _).alloc (Nat.le_refl _) _⟩
        · go_wp2_with fail
          go_round
          case rel => exact ⟨k + 1, by omega, by go_num, nonNeg_succ hlt HN.out (by rw [HR.out]; omega)⟩
          case measure => simp [intOf]; omega
      · have he : k = refs.length := by omega
        have HV0 : Hid (NonNeg refs) := by rw [he, List.take_length] at HN; exact HN
        clear he HN
        have hop : op = 1 ∨ op = 2 ∨ op = 3 ∨ op = 4 ∨ op = 5 ∨ op = 6 ∨ op = 7 ∨ op = 8 ∨ op = 9 ∨ op = 10 := by omega
        clear hg1 hg2
        rcases hop with rfl | rfl | rfl | rfl | rfl | rfl | rfl | rfl | rfl | rfl
        · by_cases a0 : ar = 0
          · subst a0
            have HB := Lib.hid (show vld ⟨1, n, 0, refs, words⟩ = ((refs.length : Int) == 0) from (vld_good (by unfold HeadOk; omega) HV0.out).trans (by simp [vTail, *]))
            clear HV0
            go_wp2_with fail
            go_ret
            exact ⟨by rw [HB.out]; first | rfl | simp, (Below.refl _ _).alloc (Nat.le_refl _) _⟩
          · have a1 : (ar == 0) = false := by simpa using a0
            have a2 : (ar != 0) = true := by simpa using a0
            have HB := Lib.hid (show vld ⟨1, n, ar, refs, words⟩ = false from vld_bad' (by unfold HeadOk; omega))
            clear HV0 a0
            go_wp2_with fail
            go_ret
            exact ⟨by rw [HB.out]; first | rfl | simp, (Below.refl _ _).alloc (Nat.le_refl _) _⟩
        · by_cases a0 : ar = 0
          · subst a0
            by_cases n0 : n < 0
            · have HB := Lib.hid (show vld ⟨2, n, 0, refs, words⟩ = false from (vld_good (by unfold HeadOk; omega) HV0.out).trans (by simp [vTail]; omega))
              clear HV0
              go_wp2_with fail
              go_ret
              exact ⟨by rw [HB.out]; first | rfl | simp, (Below.refl _ _).alloc (Nat.le_refl _) _⟩
            · have n1 : 0 ≤ n := by omega
              clear n0
              by_cases n2 : 255 < n
              · have HB := Lib.hid (show vld ⟨2, n, 0, refs, words⟩ = false from (vld_good (by unfold HeadOk; omega) HV0.out).trans (by simp [vTail]; omega))
                clear HV0
                go_wp2_with fail
                go_ret
                exact ⟨by rw [HB.out]; first | rfl | simp, (Below.refl _ _).alloc (Nat.le_refl _) _⟩
              · have n3 : n ≤ 255 := by omega
                clear n2
                have HB := Lib.hid (show vld ⟨2, n, 0, refs, words⟩ = ((refs.length : Int) == 0) from (vld_good (by unfold HeadOk; omega) HV0.out).trans (by simp [vTail, *]))
                clear HV0
                go_wp2_with fail
                go_ret
                exact ⟨by rw [HB.out]; first | rfl | simp, (Below.refl _ _).alloc (Nat.le_refl _) _⟩
          · have a1 : (ar == 0) = false := by simpa using a0
            have a2 : (ar != 0) = true := by simpa using a0
            have HB := Lib.hid (show vld ⟨2, n, ar, refs, words⟩ = false from vld_bad' (by unfold HeadOk; omega))
            clear HV0 a0
            go_wp2_with fail
            go_ret
            exact ⟨by rw [HB.out]; first | rfl | simp, (Below.refl _ _).alloc (Nat.le_refl _) _⟩
        · by_cases a0 : ar = 0
          · subst a0
            by_cases n0 : n < 0
            · have HB := Lib.hid (show vld ⟨3, n, 0, refs, words⟩ = false from (vld_good (by unfold HeadOk; omega) HV0.out).trans (by simp [vTail]; omega))
              clear HV0
              go_wp2_with fail
              go_ret
              exact ⟨by rw [HB.out]; first | rfl | simp, (Below.refl _ _).alloc (Nat.le_refl _) _⟩
            · have n1 : 0 ≤ n := by omega
              clear n0
              have HB := Lib.hid (show vld ⟨3, n, 0, refs, words⟩ = true from (vld_good (by unfold HeadOk; omega) HV0.out).trans (by simp [vTail, *]))
              clear HV0
              go_wp2_with fail
              go_ret
              exact ⟨by rw [HB.out]; first | rfl | simp, (Below.refl _ _).alloc (Nat.le_refl _) _⟩
          · have a1 : (ar == 0) = false := by simpa using a0
            have a2 : (ar != 0) = true := by simpa using a0
            have HB := Lib.hid (show vld ⟨3, n, ar, refs, words⟩ = false from vld_bad' (by unfold HeadOk; omega))
            clear HV0 a0
            go_wp2_with fail
            go_ret
            exact ⟨by rw [HB.out]; first | rfl | simp, (Below.refl _ _).alloc (Nat.le_refl _) _⟩
        · by_cases a0 : ar < 1
          · have HB := Lib.hid (show vld ⟨4, n, ar, refs, words⟩ = false from vld_bad' (by unfold HeadOk; omega))
            clear HV0
            go_wp2_with fail
            go_ret
            exact ⟨by rw [HB.out]; first | rfl | simp, (Below.refl _ _).alloc (Nat.le_refl _) _⟩
          · have a1 : 1 ≤ ar := by omega
            clear a0
            by_cases n0 : n < 0
            · have HB := Lib.hid (show vld ⟨4, n, ar, refs, words⟩ = false from (vld_good (by unfold HeadOk; omega) HV0.out).trans (by simp [vTail]; omega))
              clear HV0
              go_wp2_with fail
              go_ret
              exact ⟨by rw [HB.out]; first | rfl | simp, (Below.refl _ _).alloc (Nat.le_refl _) _⟩
            · have n1 : 0 ≤ n := by omega
              clear n0
              have HB := Lib.hid (show vld ⟨4, n, ar, refs, words⟩ = true from (vld_good (by unfold HeadOk; omega) HV0.out).trans (by simp [vTail, *]))
              clear HV0
              go_wp2_with fail
              go_ret
              exact ⟨by rw [HB.out]; first | rfl | simp, (Below.refl _ _).alloc (Nat.le_refl _) _⟩
        · by_cases a0 : ar = 0
          · subst a0
            by_cases n0 : n < 0
            · have HB := Lib.hid (show vld ⟨5, n, 0, refs, words⟩ = false from (vld_good (by unfold HeadOk; omega) HV0.out).trans (by simp [vTail]; omega))
              clear HV0
              go_wp2_with fail
              go_ret
              exact ⟨by rw [HB.out]; first | rfl | simp, (Below.refl _ _).alloc (Nat.le_refl _) _⟩
            · have n1 : 0 ≤ n := by omega
              clear n0
              have HB := Lib.hid (show vld ⟨5, n, 0, refs, words⟩ = true from (vld_good (by unfold HeadOk; omega) HV0.out).trans (by simp [vTail, *]))
              clear HV0
              go_wp2_with fail
              go_ret
              exact ⟨by rw [HB.out]; first | rfl | simp, (Below.refl _ _).alloc (Nat.le_refl _) _⟩
          · have a1 : (ar == 0) = false := by simpa using a0
            have a2 : (ar != 0) = true := by simpa using a0
            have HB := Lib.hid (show vld ⟨5, n, ar, refs, words⟩ = false from vld_bad' (by unfold HeadOk; omega))
            clear HV0 a0
            go_wp2_with fail
            go_ret
            exact ⟨by rw [HB.out]; first | rfl | simp, (Below.refl _ _).alloc (Nat.le_refl _) _⟩
        · by_cases a0 : ar = 0
          · subst a0
            by_cases n0 : n < 0
            · have HB := Lib.hid (show vld ⟨6, n, 0, refs, words⟩ = false from (vld_good (by unfold HeadOk; omega) HV0.out).trans (by simp [vTail]; omega))
              clear HV0
              go_wp2_with fail
              go_ret
              exact ⟨by rw [HB.out]; first | rfl | simp, (Below.refl _ _).alloc (Nat.le_refl _) _⟩
            · have n1 : 0 ≤ n := by omega
              clear n0
              have HB := Lib.hid (show vld ⟨6, n, 0, refs, words⟩ = decide (2 ≤ (refs.length : Int)) from (vld_good (by unfold HeadOk; omega) HV0.out).trans (by simp [vTail, *]))
              clear HV0
              go_wp2_with fail
              go_ret
              exact ⟨by rw [HB.out]; first | rfl | simp, (Below.refl _ _).alloc (Nat.le_refl _) _⟩
          · have a1 : (ar == 0) = false := by simpa using a0
            have a2 : (ar != 0) = true := by simpa using a0
            have HB := Lib.hid (show vld ⟨6, n, ar, refs, words⟩ = false from vld_bad' (by unfold HeadOk; omega))
            clear HV0 a0
            go_wp2_with fail
            go_ret
            exact ⟨by rw [HB.out]; first | rfl | simp, (Below.refl _ _).alloc (Nat.le_refl _) _⟩
        · by_cases a0 : ar = 0
          · subst a0
            by_cases n0 : n < 0
            · have HB := Lib.hid (show vld ⟨7, n, 0, refs, words⟩ = false from (vld_good (by unfold HeadOk; omega) HV0.out).trans (by simp [vTail]; omega))
              clear HV0
              go_wp2_with fail
              go_ret
              exact ⟨by rw [HB.out]; first | rfl | simp, (Below.refl _ _).alloc (Nat.le_refl _) _⟩
            · have n1 : 0 ≤ n := by omega
              clear n0
              have HB := Lib.hid (show vld ⟨7, n, 0, refs, words⟩ = ((refs.length : Int) == 1) from (vld_good (by unfold HeadOk; omega) HV0.out).trans (by simp [vTail, *]))
              clear HV0
              go_wp2_with fail
              go_ret
              exact ⟨by rw [HB.out]; first | rfl | simp, (Below.refl _ _).alloc (Nat.le_refl _) _⟩
          · have a1 : (ar == 0) = false := by simpa using a0
            have a2 : (ar != 0) = true := by simpa using a0
            have HB := Lib.hid (show vld ⟨7, n, ar, refs, words⟩ = false from vld_bad' (by unfold HeadOk; omega))
            clear HV0 a0
            go_wp2_with fail
            go_ret
            exact ⟨by rw [HB.out]; first | rfl | simp, (Below.refl _ _).alloc (Nat.le_refl _) _⟩
        · by_cases a0 : ar = 0
          · subst a0
            by_cases n0 : n < 0
            · have HB := Lib.hid (show vld ⟨8, n, 0, refs, words⟩ = false from (vld_good (by unfold HeadOk; omega) HV0.out).trans (by simp [vTail]; omega))
              clear HV0
              go_wp2_with fail
              go_ret
              exact ⟨by rw [HB.out]; first | rfl | simp, (Below.refl _ _).alloc (Nat.le_refl _) _⟩
            · have n1 : 0 ≤ n := by omega
              clear n0
              have HB := Lib.hid (show vld ⟨8, n, 0, refs, words⟩ = true from (vld_good (by unfold HeadOk; omega) HV0.out).trans (by simp [vTail, *]))
              clear HV0
              go_wp2_with fail
              go_ret
              exact ⟨by rw [HB.out]; first | rfl | simp, (Below.refl _ _).alloc (Nat.le_refl _) _⟩
          · have a1 : (ar == 0) = false := by simpa using a0
            have a2 : (ar != 0) = true := by simpa using a0
            have HB := Lib.hid (show vld ⟨8, n, ar, refs, words⟩ = false from vld_bad' (by unfold HeadOk; omega))
            clear HV0 a0
            go_wp2_with fail
            go_ret
            exact ⟨by rw [HB.out]; first | rfl | simp, (Below.refl _ _).alloc (Nat.le_refl _) _⟩
        · by_cases a0 : ar = 0
          · subst a0
            by_cases n0 : n < 0
            · have HB := Lib.hid (show vld ⟨9, n, 0, refs, words⟩ = false from (vld_good (by unfold HeadOk; omega) HV0.out).trans (by simp [vTail]; omega))
              clear HV0
              go_wp2_with fail
              go_ret
              exact ⟨by rw [HB.out]; first | rfl | simp, (Below.refl _ _).alloc (Nat.le_refl _) _⟩
            · have n1 : 0 ≤ n := by omega
              clear n0
              have HB := Lib.hid (show vld ⟨9, n, 0, refs, words⟩ = ((refs.length : Int) == 1) from (vld_good (by unfold HeadOk; omega) HV0.out).trans (by simp [vTail, *]))
              clear HV0
              go_wp2_with fail
              go_ret
              exact ⟨by rw [HB.out]; first | rfl | simp, (Below.refl _ _).alloc (Nat.le_refl _) _⟩
          · have a1 : (ar == 0) = false := by simpa using a0
            have a2 : (ar != 0) = true := by simpa using a0
            have HB := Lib.hid (show vld ⟨9, n, ar, refs, words⟩ = false from vld_bad' (by unfold HeadOk; omega))
            clear HV0 a0
            go_wp2_with fail
            go_ret
            exact ⟨by rw [HB.out]; first | rfl | simp, (Below.refl _ _).alloc (Nat.le_refl _) _⟩
        · by_cases a0 : ar = 0
          · subst a0
            by_cases n0 : n < 0
            · have HB := Lib.hid (show vld ⟨10, n, 0, refs, words⟩ = false from (vld_good (by unfold HeadOk; omega) HV0.out).trans (by simp [vTail]; omega))
              clear HV0
              go_wp2_with fail
              go_ret
              exact ⟨by rw [HB.out]; first | rfl | simp, (Below.refl _ _).alloc (Nat.le_refl _) _⟩
            · have n1 : 0 ≤ n := by omega
              clear n0
              have HB := Lib.hid (show vld ⟨10, n, 0, refs, words⟩ = true from (vld_good (by unfold HeadOk; omega) HV0.out).trans (by simp [vTail, *]))
              clear HV0
              go_wp2_with fail
              go_ret
              exact ⟨by rw [HB.out]; first | rfl | simp, (Below.refl _ _).alloc (Nat.le_refl _) _⟩
          · have a1 : (ar == 0) = false := by simpa using a0
            have a2 : (ar != 0) = true := by simpa using a0
            have HB := Lib.hid (show vld ⟨10, n, ar, refs, words⟩ = false from vld_bad' (by unfold HeadOk; omega))
            clear HV0 a0
            go_wp2_with fail
            go_ret
            exact ⟨by rw [HB.out]; first | rfl | simp, (Below.refl _ _).alloc (Nat.le_refl _) _⟩

end Go.Proofs.Ytobniolmielikaa

