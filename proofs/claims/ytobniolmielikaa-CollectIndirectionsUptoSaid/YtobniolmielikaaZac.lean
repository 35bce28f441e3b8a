/- Texts of the collector's proof, joined: Heap6, Heap7, Heap8, Heap9, Heap10, Heap11, Heap12. -/
import Derived.Test.YtobniolmielikaaZab
import Derived.Deep.LoopGhost
import Derived.Deep.RegionHeld3
import Derived.Deep.CutRange
/- Lists of keys and values whose order is free; no condition. -/
namespace Go.Proofs.Ytobniolmielikaa
open Go.RowKit

section lists
variable {β : Type}

theorem nodup_val {l : List (Int × β)} (h : (l.map (·.1)).Nodup) {k : Int} {v v' : β} (h1 : (k, v) ∈ l) (h2 : (k, v') ∈ l) : v = v' := by
  induction l with
  | nil => cases h1
  | cons p r ih =>
    rw [List.map_cons, List.nodup_cons] at h
    rcases List.mem_cons.1 h1 with h1 | h1 <;> rcases List.mem_cons.1 h2 with h2 | h2
    · exact (Prod.mk.inj (h1.trans h2.symm)).2
    · exact absurd (List.mem_map_of_mem (f := (·.1)) h2) (by rw [← h1] at h; exact h.1)
    · exact absurd (List.mem_map_of_mem (f := (·.1)) h1) (by rw [← h2] at h; exact h.1)
    · exact ih h.2 h1 h2
theorem ix_mem {l : List (Int × β)} (h : (l.map (·.1)).Nodup) {k : Int} {v : β} (h1 : (k, v) ∈ l) : ∃ i, ix l k = some (i, v) ∧ l[i]? = some (k, v) := by
  cases he : ix l k with
  | none => exact absurd (List.mem_map_of_mem (f := (·.1)) h1) (ix_none.1 he)
  | some q =>
    obtain ⟨i, v'⟩ := q
    have h2 := ix_get he
    have := nodup_val h h1 (List.mem_of_getElem? h2)
    subst this
    exact ⟨i, rfl, h2⟩
theorem get_mem {l : List (Int × β)} (h : (l.map (·.1)).Nodup) {k : Int} {v : β} : get l k = some v ↔ (k, v) ∈ l := by
  constructor
  · intro h1
    unfold get at h1
    obtain ⟨⟨i, v'⟩, h2, rfl⟩ := Option.map_eq_some_iff.1 h1
    exact List.mem_of_getElem? (ix_get h2)
  · intro h1
    obtain ⟨i, h2, _⟩ := ix_mem h h1
    simp [get, h2]
theorem get_perm {l m : List (Int × β)} (hp : l.Perm m) (h : (l.map (·.1)).Nodup) (k : Int) : get l k = get m k := by
  have h' : (m.map (·.1)).Nodup := (hp.map _).nodup_iff.1 h
  cases h1 : get l k with
  | none =>
    refine (get_none.2 fun h2 => ?_).symm
    exact get_none.1 h1 ((hp.map (·.1)).mem_iff.2 h2)
  | some v =>
    exact ((get_mem h').2 (hp.mem_iff.1 ((get_mem h).1 h1))).symm
theorem perm_erase : ∀ (l : List (Int × β)) (i : Nat) (x : Int × β), l[i]? = some x → (x :: l.eraseIdx i).Perm l
  | [], i, x, h => by simp at h
  | y :: l, 0, x, h => by simp at h; subst h; simp
  | y :: l, i + 1, x, h => by
    have ih := perm_erase l i x (by simpa using h)
    rw [List.eraseIdx_cons_succ]
    exact (List.Perm.swap y x _).trans (ih.cons y)
theorem del_perm {l todo : List (Int × β)} (hp : l.Perm todo) (h : (l.map (·.1)).Nodup) {j : Nat} {x : Int} {v : β} (hj : todo[j]? = some (x, v)) : (del l x).Perm (todo.eraseIdx j) := by
  have hm : (x, v) ∈ l := hp.mem_iff.2 (List.mem_of_getElem? hj)
  obtain ⟨i, h1, h2⟩ := ix_mem h hm
  have e : del l x = l.eraseIdx i := by simp [del, h1]
  rw [e]
  exact List.Perm.cons_inv ((perm_erase l i _ h2).trans (hp.trans (perm_erase todo j _ hj).symm))
theorem erase_key {todo : List (Int × β)} (h : (todo.map (·.1)).Nodup) {j : Nat} {x : Int} {v : β} (hj : todo[j]? = some (x, v)) : x ∉ (todo.eraseIdx j).map (·.1) := by
  have hp := (perm_erase todo j _ hj).map (·.1)
  have := hp.nodup_iff.2 h
  rw [List.map_cons, List.nodup_cons] at this
  exact this.1
theorem put_new {l : List (Int × β)} {k : Int} (h : k ∉ l.map (·.1)) (v : β) : put l k v = l ++ [(k, v)] := by
  have := ix_none.2 h
  simp [put, this]
theorem put_map {l : List (Int × β)} (h : (l.map (·.1)).Nodup) {k : Int} (hk : k ∈ l.map (·.1)) (v : β) : put l k v = l.map fun p => if p.1 = k then (k, v) else p := by
  obtain ⟨⟨k', v0⟩, h0, rfl⟩ := List.mem_map.1 hk
  obtain ⟨i, h1, h2⟩ := ix_mem h h0
  have e : put l k' v = l.set i (k', v) := by simp [put, h1]
  dsimp only
  rw [e]
  refine List.ext_getElem? fun j => ?_
  rw [List.getElem?_map, List.getElem?_set]
  by_cases hj : i = j
  · subst hj
    have := (List.getElem?_eq_some_iff.1 h2).1
    rw [if_pos rfl, if_pos this, h2]
    simp
  · rw [if_neg hj]
    cases h3 : l[j]? with
    | none => rfl
    | some p =>
      have hne : p.1 ≠ k' := by
        intro e'
        have hi := (List.getElem?_eq_some_iff.1 h2).1
        have hj' := (List.getElem?_eq_some_iff.1 h3).1
        have a1 := (List.getElem?_eq_some_iff.1 h2).2
        have a2 := (List.getElem?_eq_some_iff.1 h3).2
        have hp := List.pairwise_iff_getElem.1 h
        rcases Nat.lt_or_gt_of_ne hj with hl | hl
        · exact hp i j (by simpa using hi) (by simpa using hj') hl (by simp [a1, a2, e'])
        · exact hp j i (by simpa using hj') (by simpa using hi) hl (by simp [a1, a2, e'])
      simp [hne]
theorem put_perm {l m : List (Int × β)} (hp : l.Perm m) (h : (l.map (·.1)).Nodup) (k : Int) (v : β) : (put l k v).Perm (put m k v) := by
  have h' : (m.map (·.1)).Nodup := (hp.map _).nodup_iff.1 h
  by_cases hk : k ∈ l.map (·.1)
  · rw [put_map h hk, put_map h' ((hp.map (·.1)).mem_iff.1 hk)]
    exact hp.map _
  · rw [put_new hk, put_new (fun x => hk ((hp.map (·.1)).mem_iff.2 x))]
    exact hp.append_right _

/-- The number behind the greatest key. -/
def nxt (m : List (Int × β)) : Int := m.foldl (fun n p => max n (p.1 + 1)) 0
theorem nxt_snoc (m : List (Int × β)) (p : Int × β) : nxt (m ++ [p]) = max (nxt m) (p.1 + 1) := by simp [nxt]
theorem nxt_perm {l m : List (Int × β)} (hp : l.Perm m) : nxt l = nxt m := by
  unfold nxt
  refine hp.foldl_eq' (fun x _ y _ z => ?_) 0
  omega
theorem nxt_lt (m : List (Int × β)) : (∀ p ∈ m, p.1 < nxt m) ∧ 0 ≤ nxt m ∧ (∀ b : Int, 0 ≤ b → (∀ p ∈ m, p.1 < b) → nxt m ≤ b) := by
  have go : ∀ (m : List (Int × β)) (n : Int), n ≤ m.foldl (fun n p => max n (p.1 + 1)) n ∧ (∀ p ∈ m, p.1 < m.foldl (fun n p => max n (p.1 + 1)) n) ∧ (∀ b : Int, n ≤ b → (∀ p ∈ m, p.1 < b) → m.foldl (fun n p => max n (p.1 + 1)) n ≤ b) := by
    intro m
    induction m with
    | nil => intro n; exact ⟨Int.le_refl _, by simp, fun b h _ => h⟩
    | cons q r ih =>
      intro n
      obtain ⟨h1, h2, h3⟩ := ih (max n (q.1 + 1))
      refine ⟨?_, ?_, ?_⟩
      · simp only [List.foldl_cons]; omega
      · intro p hp
        rcases List.mem_cons.1 hp with rfl | hp
        · simp only [List.foldl_cons]; omega
        · exact h2 p hp
      · intro b hb hall
        have := hall q (List.mem_cons_self ..)
        exact h3 b (by omega) (fun p hp => hall p (List.mem_cons_of_mem _ hp))
  obtain ⟨h1, h2, h3⟩ := go m 0
  exact ⟨h2, h1, h3⟩
end lists
end Go.Proofs.Ytobniolmielikaa

/- Contracts of the heap's methods Old, Count, Limits; no condition. -/
namespace Go.Proofs.Ytobniolmielikaa
open Go.RowKit

set_option maxHeartbeats 400000 in
theorem old_any (w : World) (h y a : Nat) (H : HM) (k : Int) (hh : HeapAt w h y a H) :
    Calls Try.prog 27 #[.pointer (some ⟨h, 0, none⟩), .int .i64 k] w fun e w' => e = .returned (.bool (Go.Proofs.Ytobniolmielikaa.get H.la k).isSome) ∧ Below w.heap.size w w' := by
  have hlt := heap_lt hh.row
  have c := cellsH hh.row
  have c0 : w.cell? ⟨h, 0, none⟩ = some (.map (some y)) := c 0
  have c1 : w.cell? ⟨h, 1, none⟩ = some (.map (some a)) := c 1
  clear c
  have M := Lib.hid (made_any h y w c0)
  clear c0
  obtain ⟨la, hma, hka⟩ := hh.old
  clear hh
  have la1 := fun p => run_lookup_map (P := Try.prog) (t := 52) (k := 3) (e := 25) Try.underlying52 Try.underlying3 (zero25 _) (hma.alloc p) k true
  have la0 := run_lookup_map (P := Try.prog) (t := 52) (k := 3) (e := 25) Try.underlying52 Try.underlying3 (zero25 _) hma k true
  rcases hka.get k with ⟨g3, g4⟩ | ⟨v, o, g3, g4, hv⟩
  · have HG := Lib.hid g4
    simp only [g3, Option.getD_none, Option.isSome_none] at la1 la0
    clear hma hka g3 g4
    go_enter Try.func27, Try.ntmps27
    go_wp2_with fail
    refine M.out.mono ?_
    rintro e w1 ⟨rfl, rfl⟩
    go_wp2_with fail
    go_ret
    exact ⟨by rw [HG.out]; rfl, (Below.refl _ _).alloc (Nat.le_refl _) _⟩
  · obtain ⟨ra, rc, wa, wc, rfl⟩ := hv.open
    have HG := Lib.hid g4
    simp only [g3, Option.getD_some, Option.isSome_some] at la1 la0
    clear hma hka g3 g4 hv
    go_enter Try.func27, Try.ntmps27
    go_wp2_with fail
    refine M.out.mono ?_
    rintro e w1 ⟨rfl, rfl⟩
    go_wp2_with fail
    go_ret
    exact ⟨by rw [HG.out]; rfl, (Below.refl _ _).alloc (Nat.le_refl _) _⟩

set_option maxHeartbeats 400000 in
theorem count_any (w : World) (h y a : Nat) (H : HM) (hh : HeapAt w h y a H) :
    Calls Try.prog 32 #[.pointer (some ⟨h, 0, none⟩)] w fun e w' => e = .returned (.tuple #[.int .i64 H.ly.length, .int .i64 H.la.length]) ∧ ∃ n, w' = w.drewN n := by
  obtain ⟨ly, hm, hk⟩ := hh.young
  obtain ⟨la, hm2, hk2⟩ := hh.old
  have hl := hk.length
  have hl2 := hk2.length
  have c := cellsH hh.row
  have c0 : w.cell? ⟨h, 0, none⟩ = some (.map (some y)) := c 0
  have c1 : w.cell? ⟨h, 1, none⟩ = some (.map (some a)) := c 1
  have M := Lib.hid (made_any h y w c0)
  rw [← hl, ← hl2]
  clear hl hk hl2 hk2 hh c
  have hlen := fun n ty => run_len_map (P := Try.prog) (k := 3) (e := 25) Try.underlying52 (hm.drewN n) ty
  have hlen0 := fun ty => run_len_map (P := Try.prog) (k := 3) (e := 25) Try.underlying52 hm ty
  have hlen2 := fun n ty => run_len_map (P := Try.prog) (k := 3) (e := 25) Try.underlying52 (hm2.drewN n) ty
  have hlen3 := fun ty => run_len_map (P := Try.prog) (k := 3) (e := 25) Try.underlying52 hm2 ty
  clear hm hm2
  go_enter Try.func32, Try.ntmps32
  go_wp2_with fail
  refine M.out.mono ?_
  rintro e w' ⟨rfl, rfl⟩
  go_wp2_with fail
  go_quiet (fail)
  go_wp2_with fail
  go_ret2
  exact ⟨rfl, nq, rfl⟩

set_option maxHeartbeats 400000 in
theorem limits_any (w : World) (h y a : Nat) (H : HM) (hh : HeapAt w h y a H) :
    Calls Try.prog 33 #[.pointer (some ⟨h, 0, none⟩)] w fun e w' => e = .returned (.tuple #[.int .i64 H.nur, .int .i64 H.eld]) ∧ ∃ n, w' = w.drewN n := by
  have c := cellsH hh.row
  have c0 : w.cell? ⟨h, 0, none⟩ = some (.map (some y)) := c 0
  have c2 : w.cell? ⟨h, 2, none⟩ = some (.int .i64 H.nur) := c 2
  have c3 : w.cell? ⟨h, 3, none⟩ = some (.int .i64 H.eld) := c 3
  have M := Lib.hid (made_any h y w c0)
  clear hh c
  go_enter Try.func33, Try.ntmps33
  go_wp2_with fail
  refine M.out.mono ?_
  rintro e w' ⟨rfl, rfl⟩
  go_wp2_with fail
  go_quiet (fail)
  go_wp2_with fail
  go_ret2
  exact ⟨rfl, nq, rfl⟩
end Go.Proofs.Ytobniolmielikaa

/- The contract of the heap's refill; no condition. -/
namespace Go.Proofs.Ytobniolmielikaa
open Go.RowKit

/-- An iterator over a map of objects: those that are still to come read as todo. -/
def ObIter (w : World) (r b : Nat) (m todo : List (Int × Ob)) : Prop := ∃ l tv, IterAt w r b l tv ∧ Kin (ObR 0 w) l m ∧ Kin (ObR 0 w) tv todo
theorem ObIter.map {w : World} {r b : Nat} {m todo : List (Int × Ob)} (h : ObIter w r b m todo) : ObjMap w b m := by
  obtain ⟨l, tv, h1, h2, _⟩ := h
  exact ⟨l, h1.map, h2⟩
theorem ObIter.turn {S : Nat → Prop} {w w' : World} {r b : Nat} {m todo : List (Int × Ob)} (h : ObIter w r b m todo) (ht : Turn S w w') (h1 : ¬ S b) (h2 : ¬ S r) (hn : ∀ k, IsRow 3 w k → ¬ S k) : ObIter w' r b m todo := by
  obtain ⟨l, tv, a1, a2, a3⟩ := h
  exact ⟨l, tv, a1.turn ht h1 h2, a2.imp fun x y q => q.turn ht (fun k _ hk => hn k hk), a3.imp fun x y q => q.turn ht (fun k _ hk => hn k hk)⟩
theorem ObIter.fresh {w w' : World} {r b : Nat} {m todo : List (Int × Ob)} (h : ObIter w r b m todo) (hb : Below w.heap.size w w') : ObIter w' r b m todo :=
  h.turn (below_turn hb fun _ => False) (fun x => x) (fun x => x) (fun _ _ x => x)
theorem ObIter.lt {w : World} {r b : Nat} {m todo : List (Int × Ob)} (h : ObIter w r b m todo) : r < w.heap.size := by
  obtain ⟨l, tv, h1, _⟩ := h
  exact h1.lt
theorem ObIter.notRow {w : World} {r b : Nat} {m todo : List (Int × Ob)} (h : ObIter w r b m todo) : ¬ IsRow 3 w r := by
  obtain ⟨l, tv, ⟨es, clock, si, se, la, _, _, h1, _⟩, _⟩ := h
  rintro ⟨cs, f, h2⟩
  rw [h1] at h2
  simp at h2
theorem ObjMap.notRow {w : World} {b : Nat} {m : List (Int × Ob)} (h : ObjMap w b m) : ¬ IsRow 3 w b := by
  obtain ⟨l, ⟨es, c, h1, _⟩, _⟩ := h
  rintro ⟨cs, f, h2⟩
  rw [h1] at h2
  simp at h2
theorem ObjMap.lt {w : World} {b : Nat} {m : List (Int × Ob)} (h : ObjMap w b m) : b < w.heap.size := by
  obtain ⟨l, h1, _⟩ := h
  exact h1.lt
theorem ObjMap.nodup {w : World} {b : Nat} {m : List (Int × Ob)} (h : ObjMap w b m) : (m.map (·.1)).Nodup := by
  obtain ⟨l, h1, h2⟩ := h
  rw [← h2.keys]
  exact h1.nodup
theorem ob_range {w : World} {b : Nat} {m : List (Int × Ob)} (h : ObjMap w b m) :
    ∃ w', (Instr.range 52 (.map (some b))).run Try.prog w = .ok (.pointer (some ⟨w.heap.size, 0, none⟩)) w' ∧ ObIter w' w.heap.size b m m ∧ Below w.heap.size w w' ∧ w'.heap.size = w.heap.size + 1 := by
  obtain ⟨l, h1, h2⟩ := h
  obtain ⟨w', a1, a2, a3, a4⟩ := run_range_map (P := Try.prog) (t := 52) (k := 3) (e := 25) Try.underlying52 h1
  have h2' : Kin (ObR 0 w') l m := h2.imp fun x y q => q.fresh a3
  exact ⟨w', a1, ⟨l, l, a2, h2', h2'⟩, a3, a4⟩
theorem ob_next {w : World} {r b : Nat} {m todo : List (Int × Ob)} (h : ObIter w r b m todo) (ty : TypeId) :
    (todo = [] ∧ (Instr.next (.pointer (some ⟨r, 0, none⟩)) false ty).run Try.prog w = .ok (.tuple #[.bool false]) w) ∨
    ∃ (i : Nat) (x : Int) (o : Ob) (ra wa : Option Addr) (rc wc : Nat) (w' : World), todo[i]? = some (x, o) ∧
      ObR 0 w' (.agg #[.int .i64 o.op, .int .i64 o.n, .int .i64 o.ar, .slice ra o.refs.length rc, .slice wa o.words.length wc]) o ∧
      (Instr.next (.pointer (some ⟨r, 0, none⟩)) false ty).run Try.prog w = .ok (.tuple #[.bool true, .int .i64 x, .agg #[.int .i64 o.op, .int .i64 o.n, .int .i64 o.ar, .slice ra o.refs.length rc, .slice wa o.words.length wc]]) w' ∧
      ObIter w' r b m (todo.eraseIdx i) ∧ Turn (· = r) w w' ∧ w'.heap.size = w.heap.size ∧
      (Instr.entry (.pointer (some ⟨r, 0, none⟩))).run Try.prog w' = .ok (.tuple #[.int .i64 x, .agg #[.int .i64 o.op, .int .i64 o.n, .int .i64 o.ar, .slice ra o.refs.length rc, .slice wa o.words.length wc]]) w' := by
  have hnr := h.notRow
  obtain ⟨l, tv, h1, h2, h3⟩ := h
  rcases run_next_map (P := Try.prog) h1 ty with ⟨h0, hrun⟩ | ⟨i, x, v, w', h4, hrun, hit, ht, hs, hentry⟩
  · left
    refine ⟨?_, hrun⟩
    have := h3.length
    rw [h0] at this
    exact List.eq_nil_of_length_eq_zero this.symm
  · right
    obtain ⟨⟨x', o⟩, h5, hx, ho⟩ := forall2_get h3 h4
    dsimp only at hx ho
    subst hx
    have hk : ∀ k, IsRow 3 w k → ¬ k = r := by
      rintro k hk rfl
      exact hnr hk
    have ho' := ho.turn ht (fun k _ h => hk k h)
    obtain ⟨ra, rc, wa, wc, rfl⟩ := ho.open
    exact ⟨i, x, o, ra, wa, rc, wc, w', h5, ho', hrun, ⟨l, tv.eraseIdx i, hit, h2.imp fun p q g => g.turn ht (fun k _ h => hk k h), forall2_erase (h3.imp fun p q g => g.turn ht (fun k _ h => hk k h)) i⟩, ht, hs, hentry⟩

theorem Turn.under {S S' : Nat → Prop} {a b c : World} (h : Turn S a b) (k : Turn S' b c) (hs : ∀ k, k < a.heap.size → S' k → S k) : Turn S a c :=
  ((h.mono (S' := fun k => S k ∨ S' k) fun _ _ => .inl).trans (k.mono fun _ _ => .inr)).mono fun k hk h => h.elim id (hs k hk)

/-- Where the second loop of refill stands. -/
structure FillAt (w : World) (b b' r : Nat) (m' done todo : List (Int × Ob)) (W : World) : Prop where
  «to» : ObjMap W b done
  it : ObIter W r b' m' todo
  perm : (done ++ todo).Perm m'
  turn : Turn (· = b) w W

set_option maxHeartbeats 1000000 in
theorem refill_any (w : World) (b b' : Nat) (m m' : List (Int × Ob)) (hb : ObjMap w b m) (hb' : ObjMap w b' m') (hne : b ≠ b') (hk : ∀ p ∈ m', 0 ≤ p.1 ∧ p.1 < 9223372036854775807) :
    Calls Try.prog 65 #[.map (some b), .map (some b')] w fun e w' => e = .returned (.int .i64 (nxt m')) ∧ ∃ m2, m2.Perm m' ∧ ObjMap w' b m2 ∧ Turn (· = b) w w' := by
  have hnd := hb'.nodup
  have hltb := hb.lt
  have NR := Lib.hid (show ∀ k, IsRow 3 w k → ¬ k = b from fun k hk e => hb.notRow (e ▸ hk))
  obtain ⟨l0, hm0, hk0⟩ := hb
  obtain ⟨wi, hrun, hit, hwb, hws⟩ := run_range_map (P := Try.prog) (t := 52) (k := 3) (e := 25) Try.underlying52 hm0
  have hnd1 := hm0.nodup
  have HB' := Lib.hid hb'
  have HN := Lib.hid hnd
  have HN1 := Lib.hid hnd1
  have HK := Lib.hid hk
  have HIT := Lib.hid hit
  have HWB := Lib.hid hwb
  clear hb' hnd hk hit hwb hm0 hk0 hws hnd1
  go_enter Try.func65, Try.ntmps65
  go_wp2_with fail
  clear hrun
  go_loopg [] l0.length (fun g W => ∃ l todo : List (Int × Value), g = todo.length ∧ l.Perm todo ∧ (l.map (·.1)).Nodup ∧ IterAt W w.heap.size b l todo ∧ Turn (· = b) w W)
  case atStart => exact ⟨l0, l0, rfl, .refl _, HN1.out, HIT.out, below_turn HWB.out _⟩
  case round =>
    obtain ⟨l, todo, rfl, hp, hnl, hit, ht0⟩ := hrel
    rcases run_next_map (P := Try.prog) hit 0 with ⟨h0, hrun⟩ | ⟨i, x, v, w', h1, hrun, hit', ht, hs, hentry⟩
    · subst h0
      have hl : l = [] := List.Perm.eq_nil hp
      subst hl
      have hm : ObjMap wr b [] := ⟨[], hit.map, .nil⟩
      have hb2 : ObjMap wr b' m' := HB'.out.turn ht0 (fun e => hne e.symm) NR.out
      obtain ⟨w2, hrun2, hit2, hwb2, hws2⟩ := ob_range hb2
      have hsz := ht0.size
      have HST := Lib.hid (show FillAt w b b' wr.heap.size m' [] m' w2 from ⟨hm.fresh hwb2, hit2, .refl _, ht0.then hwb2⟩)
      clear hp hnl hit ht0 hm hb2 hit2 hwb2 hws2
      go_wp2_with fail
      clear hrun hrun2
      generalize wr.heap.size = n1 at HST hsz
      go_loopg [6] m'.length (fun g u W => ∃ done todo : List (Int × Ob), g = todo.length ∧ u = .int .i64 (nxt done) ∧ FillAt w b b' n1 m' done todo W)
      case atStart => exact ⟨[], m', rfl, rfl, HST.out⟩
      case round =>
        obtain ⟨done, todo, rfl, rfl, hst⟩ := hrel
        rcases ob_next hst.it 0 with ⟨h0, hrun⟩ | ⟨i, x, o, ra, wa, rc, wc, w', h1, hob, hrun, hit', ht, hs, hentry⟩
        · subst h0
          have hperm : done.Perm m' := by simpa using hst.perm
          rw [nxt_perm hperm]
          have HS := Lib.hid hst
          have HP := Lib.hid hperm
          clear hst hperm
          go_wp2_with fail
          go_ret
          exact ⟨rfl, done, HP.out, HS.out.to, HS.out.turn⟩
        · have hx := HK.out (x, o) (hst.perm.mem_iff.1 (List.mem_append_right _ (List.mem_of_getElem? h1)))
          obtain ⟨hx1, hx2⟩ := hx
          dsimp only at hx1 hx2
          have hnx := nxt_snoc done (x, o)
          have HNX := Lib.hid hnx
          have hw : wrap64 (x + 1) = x + 1 := by unfold wrap64; omega
          have hnew : x ∉ done.map (·.1) := by
            have h2 := ((hst.perm.map (·.1)).nodup_iff).2 HN.out
            rw [List.map_append, List.nodup_append] at h2
            intro h3
            exact h2.2.2 x h3 x (List.mem_map_of_mem (f := (·.1)) (List.mem_of_getElem? h1)) rfl
          have HNEW := Lib.hid hnew
          have to1 := (hst.to.turn ht (by omega) (fun k hk e => hst.it.notRow (e ▸ hk))).fresh ((Below.refl _ _).alloc (Nat.le_refl _) (.cells #[.int .i64 o.op, .int .i64 o.n, .int .i64 o.ar, .slice ra o.refs.length rc, .slice wa o.words.length wc] 25))
          have TO1 := Lib.hid to1
          have HS := Lib.hid hst
          have HO := Lib.hid hob
          have HI := Lib.hid hit'
          have HT := Lib.hid ht
          have H1 := Lib.hid h1
          clear hst hob hit' ht h1 hnx hnew to1
          go_wp2_with fail
          refine (copied_any _ _ o _ (HO.out.fresh ((Below.refl _ _).alloc (Nat.le_refl _) _)).at).mono ?_
          rintro e w3 ⟨v3, rfl, ho3, hb3⟩
          obtain ⟨ra3, rc3, wa3, wc3, rfl⟩ := ho3.open
          have to3 := TO1.out.fresh hb3
          have hnr3 := to3.notRow
          obtain ⟨L, hm3, hk3⟩ := to3
          have HM3 := Lib.hid hm3
          have HK3 := Lib.hid hk3
          have HO3 := Lib.hid ho3
          have HB3 := Lib.hid hb3
          have NR3 := Lib.hid hnr3
          clear hm3 hk3 ho3 hb3 hnr3
          go_wp2_with (at_mapUpdate; refine wpList_update_map _ rfl _ _ _ 52 3 25 rfl Try.underlying52 Try.underlying3 b _ rfl x rfl _ rfl HM3.out ?_; intro w4 hm4 ht4 hs4; have HM4 := Lib.hid hm4; have HT4 := Lib.hid ht4; clear hm4 ht4)
          all_goals (
            go_roundg (todo.eraseIdx i).length
            case measure =>
              have := (List.getElem?_eq_some_iff.1 H1.out).1
              rw [List.length_eraseIdx_of_lt this]; omega
            case rel =>
              have hnL : x ∉ L.map (·.1) := by rw [HK3.out.keys]; exact HNEW.out
              have hnb : ∀ k, IsRow 3 w3 k → ¬ k = b := fun k hk e => NR3.out (e ▸ hk)
              have hm4 := HM4.out
              rw [put_new hnL] at hm4
              refine ⟨done ++ [(x, o)], todo.eraseIdx i, rfl, ?_, ⟨⟨_, hm4, ?_⟩, ?_, ?_, ?_⟩⟩
              · rw [HNX.out]
                exact congrArg (Value.int IntKind.i64) (by omega)
              · exact forall2_append (HK3.out.imp fun p q g => g.turn HT4.out (fun k _ h => hnb k h)) (.cons ⟨rfl, (HO3.out.base (Nat.zero_le _)).turn HT4.out (fun k _ h => hnb k h)⟩ .nil)
              · exact (((HI.out.fresh ((Below.refl _ _).alloc (Nat.le_refl _) _)).fresh HB3.out)).turn HT4.out (fun e => hne e.symm) (by omega) hnb
              · rw [List.append_assoc]
                exact ((perm_erase todo i _ H1.out).append_left done).trans HS.out.perm
              · exact ((((HS.out.turn.under HT.out (fun k hk e => by omega)).alloc _).then HB3.out)).trans HT4.out)
    · have hnot := erase_key ((hp.map _).nodup_iff.1 hnl) h1
      obtain ⟨w2, hdel, hit2, ht2, hs2⟩ := run_delete_iter (P := Try.prog) (t := 52) (k := 3) (e := 25) Try.underlying52 Try.underlying3 hit' x hnot 0 3
      have HP := Lib.hid hp
      have HNL := Lib.hid hnl
      have HI2 := Lib.hid hit2
      have HT0 := Lib.hid ht0
      have HT := Lib.hid ht
      have HT2 := Lib.hid ht2
      have H1 := Lib.hid h1
      clear hp hnl hit2 ht0 ht ht2 h1 hnot hit'
      go_wp2_with fail
      go_roundg (todo.eraseIdx i).length
      case measure =>
        have := (List.getElem?_eq_some_iff.1 H1.out).1
        rw [List.length_eraseIdx_of_lt this]; omega
      case rel =>
        refine ⟨_, todo.eraseIdx i, rfl, del_perm HP.out HNL.out H1.out, ?_, HI2.out, (HT0.out.under HT.out (fun k hk e => by omega)).trans HT2.out⟩
        have := (perm_erase todo i _ H1.out).map (·.1)
        have h3 := (((del_perm HP.out HNL.out H1.out).map (·.1))).nodup_iff
        rw [h3]
        have h4 := (this.trans (HP.out.map (·.1)).symm).nodup_iff.2 HNL.out
        rw [List.map_cons, List.nodup_cons] at h4
        exact h4.2
end Go.Proofs.Ytobniolmielikaa

/- The contract of the heap's fits; no condition. -/
namespace Go.Proofs.Ytobniolmielikaa
open Go.RowKit

/-- Whether an entry may be put into a heap. -/
def fit1 (p : Int × Ob) : Bool := decide (0 ≤ p.1) && decide (p.1 ≤ 4611686018427387903) && vld p.2
def fitB (m : List (Int × Ob)) : Bool := m.all fit1
theorem fitB_perm {l m : List (Int × Ob)} (h : l.Perm m) : fitB l = fitB m := by
  unfold fitB
  rw [Bool.eq_iff_iff, List.all_eq_true, List.all_eq_true]
  exact ⟨fun a x hx => a x (h.mem_iff.2 hx), fun a x hx => a x (h.mem_iff.1 hx)⟩
theorem fitB_no {m : List (Int × Ob)} {p : Int × Ob} (hp : p ∈ m) (h : fit1 p = false) : fitB m = false := by
  unfold fitB
  rw [List.all_eq_false]
  exact ⟨p, hp, by simp [h]⟩

set_option maxHeartbeats 1000000 in
theorem fits_any (w : World) (b : Nat) (m : List (Int × Ob)) (hb : ObjMap w b m) :
    Calls Try.prog 66 #[.map (some b)] w fun e w' => e = .returned (.bool (fitB m)) ∧ Below w.heap.size w w' := by
  have hlt := hb.lt
  obtain ⟨wi, hrun, hit, hwb, hws⟩ := ob_range hb
  have HIT := Lib.hid hit
  have HWB := Lib.hid hwb
  clear hit hwb hws hb
  go_enter Try.func66, Try.ntmps66
  go_wp2_with fail
  clear hrun
  go_loopg [] m.length (fun g W => ∃ done todo : List (Int × Ob), g = todo.length ∧ (done ++ todo).Perm m ∧ fitB done = true ∧ ObIter W w.heap.size b m todo ∧ Below w.heap.size w W)
  case atStart => exact ⟨[], m, rfl, .refl _, rfl, HIT.out, HWB.out⟩
  case round =>
    obtain ⟨done, todo, rfl, hp, hd, hit, hb⟩ := hrel
    rcases ob_next hit 0 with ⟨h0, hrun⟩ | ⟨i, x, o, ra, wa, rc, wc, w', h1, hob, hrun, hit', ht, hs, hentry⟩
    · subst h0
      have hm := fitB_perm hp
      rw [List.append_nil, hd] at hm
      have HM := Lib.hid hm
      have HB := Lib.hid hb
      clear hp hd hit hb hm
      go_wp2_with fail
      go_ret
      exact ⟨by rw [← HM.out]; rfl, HB.out⟩
    · have hmem : (x, o) ∈ m := hp.mem_iff.1 (List.mem_append_right _ (List.mem_of_getElem? h1))
      have hb' : Below w.heap.size w w' := hb.trans (ht.below (by have := hb.size; omega) (fun k e => by omega))
      have hp' : ((done ++ [(x, o)]) ++ todo.eraseIdx i).Perm m := by
        rw [List.append_assoc]
        exact ((perm_erase todo i _ h1).append_left done).trans hp
      have hlen : (todo.eraseIdx i).length < todo.length := by
        have := (List.getElem?_eq_some_iff.1 h1).1
        rw [List.length_eraseIdx_of_lt this]; omega
      have HMEM := Lib.hid hmem
      have HP := Lib.hid hp'
      have HD := Lib.hid hd
      have HB := Lib.hid hb'
      have HI := Lib.hid hit'
      have HO := Lib.hid hob
      have hsz := hb'.size
      clear hmem hp hp' hd hb hb' hit hit' hob h1 ht
      by_cases c1 : x < 0
      · have HF := Lib.hid (fitB_no HMEM.out (show fit1 (x, o) = false by simp [fit1]; omega))
        go_wp2_with fail
        go_ret
        exact ⟨by rw [HF.out]; rfl, HB.out.alloc (by omega) _⟩
      · by_cases c2 : 4611686018427387903 < x
        · have HF := Lib.hid (fitB_no HMEM.out (show fit1 (x, o) = false by simp [fit1]; omega))
          go_wp2_with fail
          go_ret
          exact ⟨by rw [HF.out]; rfl, HB.out.alloc (by omega) _⟩
        · go_wp2_with fail
          refine (valid_any _ _ o _ (HO.out.fresh ((Below.refl _ _).alloc (Nat.le_refl _) _)).at).mono ?_
          rintro e w3 ⟨rfl, hb3⟩
          have HB3 := Lib.hid hb3
          clear hb3
          cases hv : vld o with
          | false =>
            have HF := Lib.hid (fitB_no HMEM.out (show fit1 (x, o) = false by simp [fit1, hv]))
            clear hv
            go_wp2_with fail
            go_ret
            exact ⟨by rw [HF.out]; rfl, below_then (HB.out.alloc (by omega) _) (by simp; omega) HB3.out⟩
          | true =>
            have HV := Lib.hid hv
            clear hv
            go_wp2_with fail
            go_roundg (todo.eraseIdx i).length
            case measure => exact hlen
            case rel =>
              refine ⟨done ++ [(x, o)], todo.eraseIdx i, rfl, HP.out, ?_, (HI.out.fresh ((Below.refl _ _).alloc (Nat.le_refl _) _)).fresh HB3.out, below_then (HB.out.alloc (by omega) _) (by simp; omega) HB3.out⟩
              have := HD.out
              simp only [fitB, List.all_append, Bool.and_eq_true] at this ⊢
              refine ⟨this, ?_⟩
              simp [fit1, HV.out]
              omega
end Go.Proofs.Ytobniolmielikaa

/- The contract of the heap's Clone; no condition. -/
namespace Go.Proofs.Ytobniolmielikaa
open Go.RowKit

theorem HeapAt.drew {w : World} {h y a : Nat} {H : HM} (hh : HeapAt w h y a H) : HeapAt w.drew h y a H := ⟨hh.row, hh.young, hh.old, hh.ne⟩
theorem HeapAt.drewN {w : World} {h y a : Nat} {H : HM} (hh : HeapAt w h y a H) (n : Nat) : HeapAt (w.drewN n) h y a H := ⟨hh.row, hh.young, hh.old, hh.ne⟩
theorem HeapAt.alloc {w : World} {h y a : Nat} {H : HM} (hh : HeapAt w h y a H) (o : Obj) : HeapAt (w.alloc o) h y a H := hh.fresh ((Below.refl _ _).alloc (Nat.le_refl _) _)
theorem HeapAt.reYoung {w w' : World} {h y a : Nat} {H : HM} {l : List (Int × Ob)} (hh : HeapAt w h y a H) (ht : Turn (· = y) w w') (hm : ObjMap w' y l) : HeapAt w' h y a { H with ly := l } :=
  ⟨rowT ht hh.row hh.hy, hm, hh.old.turn ht (fun e => hh.ne e.symm) (fun _ hk e => hh.young.notRow (e ▸ hk)), hh.ne⟩
theorem HeapAt.reOld {w w' : World} {h y a : Nat} {H : HM} {l : List (Int × Ob)} (hh : HeapAt w h y a H) (ht : Turn (· = a) w w') (hm : ObjMap w' a l) : HeapAt w' h y a { H with la := l } :=
  ⟨rowT ht hh.row hh.ha, hh.young.turn ht hh.ne (fun _ hk e => hh.old.notRow (e ▸ hk)), hm, hh.ne⟩
theorem HeapAt.cells {w : World} {h y a : Nat} {H : HM} (hh : HeapAt w h y a H) : w.cell? ⟨h, 0, none⟩ = some (.map (some y)) ∧ w.cell? ⟨h, 1, none⟩ = some (.map (some a)) ∧ w.cell? ⟨h, 2, none⟩ = some (.int .i64 H.nur) ∧ w.cell? ⟨h, 3, none⟩ = some (.int .i64 H.eld) ∧ w.cell? ⟨h, 4, none⟩ = some (.int .i64 H.next) := by
  have c := cellsH hh.row
  exact ⟨c 0, c 1, c 2, c 3, c 4⟩
theorem HeapAt.lt {w : World} {h y a : Nat} {H : HM} (hh : HeapAt w h y a H) : h < w.heap.size ∧ y < w.heap.size ∧ a < w.heap.size := ⟨heap_lt hh.row, hh.young.lt, hh.old.lt⟩
/-- What may stand as a key. -/
def KeysIn (m : List (Int × Ob)) : Prop := ∀ p ∈ m, 0 ≤ p.1 ∧ p.1 < 9223372036854775807

set_option maxHeartbeats 1000000 in
theorem clone39_any (w : World) (h y a : Nat) (H : HM) (hh : HeapAt w h y a H) (hky : KeysIn H.ly) (hka : KeysIn H.la) :
    Calls Try.prog 30 #[.pointer (some ⟨h, 0, none⟩)] w fun e w' => ∃ h' y' a' ly la, e = .returned (.pointer (some ⟨h', 0, none⟩)) ∧ HeapAt w' h' y' a' ⟨H.nur, H.eld, H.next, ly, la⟩ ∧ ly.Perm H.ly ∧ la.Perm H.la ∧
      w.heap.size ≤ h' ∧ w.heap.size ≤ y' ∧ w.heap.size ≤ a' ∧ Below w.heap.size w w' := by
  obtain ⟨hl1, hl2, hl3⟩ := hh.lt
  obtain ⟨c0, c1, c2, c3, c4⟩ := hh.cells
  have M := Lib.hid (made_any h y w c0)
  have HH := Lib.hid hh
  have KY := Lib.hid hky
  have KA := Lib.hid hka
  clear hh hky hka
  have hmm := @run_makeMap Try.prog
  go_enter Try.func30, Try.ntmps30
  go_wp2_with fail
  refine M.out.mono ?_
  rintro e w1 ⟨rfl, rfl⟩
  go_upto_region 3 with (fail)
  go_cut [3] from 7 to 22 (fun s wx => ∃ h' y' a', s = .pointer (some ⟨h', 0, none⟩) ∧ HeapAt wx h' y' a' ⟨H.nur, H.eld, H.next, [], []⟩ ∧ HeapAt wx h y a H ∧ w1.heap.size ≤ h' ∧ w1.heap.size ≤ y' ∧ w1.heap.size ≤ a' ∧ Below w1.heap.size w1 wx)
  case first =>
    go_region_held3 (fun w' => w'.cell? ⟨h, 2, none⟩ = some (.int .i64 H.nur) ∧ w'.cell? ⟨h, 3, none⟩ = some (.int .i64 H.eld) ∧ w'.cell? ⟨h, 4, none⟩ = some (.int .i64 H.next)) (first | exact ⟨c2, c3, c4⟩ | exact ⟨cellAlloc c2 _, cellAlloc c3 _, cellAlloc c4 _⟩ | exact ⟨cellAlloc (cellAlloc c2 _) _, cellAlloc (cellAlloc c3 _) _, cellAlloc (cellAlloc c4 _) _⟩ | exact ⟨cellAlloc (cellAlloc (cellAlloc c2 _) _) _, cellAlloc (cellAlloc (cellAlloc c3 _) _) _, cellAlloc (cellAlloc (cellAlloc c4 _) _) _⟩) (first | fail)
    · go_wp2_with fail
      go_meet
      case rel =>
        refine ⟨_, w1.heap.size, w1.heap.size + 1, rfl, ⟨new32 _ _ _ _, ⟨[], (((MapAt.made w1).alloc _).alloc _), .nil⟩, ⟨[], ?_, .nil⟩, by omega⟩, (((HH.out.alloc _).alloc _).alloc _).drew, by omega, by omega, by omega, ((((Below.refl w1.heap.size w1).alloc (Nat.le_refl _) _).alloc (by simp) _).alloc (by simp <;> omega) _).drew⟩
        have := (MapAt.made (w1.alloc (.map #[] 0))).alloc (.cells #[.map (some w1.heap.size), .map (some (w1.heap.size + 1)), .int .i64 H.nur, .int .i64 H.eld, .int .i64 H.next] 54)
        exact MapAt.drew (by simpa using this)
    · go_wp2_with fail
      go_meet
      case rel =>
        refine ⟨_, w1.heap.size + 1, w1.heap.size, rfl, ⟨new32 _ _ _ _, ⟨[], ?_, .nil⟩, ⟨[], (((MapAt.made w1).alloc _).alloc _), .nil⟩, by omega⟩, (((HH.out.alloc _).alloc _).alloc _).drew, by omega, by omega, by omega, ((((Below.refl w1.heap.size w1).alloc (Nat.le_refl _) _).alloc (by simp) _).alloc (by simp <;> omega) _).drew⟩
        have := (MapAt.made (w1.alloc (.map #[] 0))).alloc (.cells #[.map (some (w1.heap.size + 1)), .map (some w1.heap.size), .int .i64 H.nur, .int .i64 H.eld, .int .i64 H.next] 54)
        exact MapAt.drew (by simpa using this)
  case rest =>
    obtain ⟨h', y', a', rfl, hn, hh, z1, z2, z3, hb⟩ := hcut
    have HN := Lib.hid hn
    have HH1 := Lib.hid hh
    have HB1 := Lib.hid hb
    obtain ⟨d0, -, -, -, -⟩ := hn.cells
    obtain ⟨e0, -, -, -, -⟩ := hh.cells
    clear hn hh hb HH c0 c1 c2 c3 c4
    go_upto_region 4 with (fail)
    go_region_held3 (fun w' => w'.cell? ⟨h', 0, none⟩ = some (.map (some y')) ∧ w'.cell? ⟨h, 0, none⟩ = some (.map (some y))) (first | exact ⟨d0, e0⟩ | exact ⟨dd0, ee0⟩)
      (first | (go_at_call 65; refine (refill_any _ y' y [] H.ly HN.out.drew.young HH1.out.drew.young (by omega) KY.out).mono ?_; rintro e w2 ⟨rfl, ly, hpy, hmy, hty⟩; have HPY := Lib.hid hpy; have HN2 := Lib.hid (HeapAt.reYoung HN.out.drew hty hmy); have HH2 := Lib.hid (HeapAt.turn HH1.out.drew hty (by omega) (by omega) (by omega) (fun k hk e => HN.out.young.notRow (e ▸ hk))); have HB2 := Lib.hid (HB1.out.drew.trans (hty.below (by have := HB1.out.size; simpa using this) (fun k e => by omega))); obtain ⟨dd0, dd1, -, -, -⟩ := HN2.out.cells; obtain ⟨ee0, ee1, -, -, -⟩ := HH2.out.cells; clear hpy hmy hty))
    clear d0 e0 dd0 ee0 HN HH1 HB1
    rename_i hHeld
    clear hHeld
    go_upto_region 5 with (fail)
    go_region_held3 (fun w' => w'.cell? ⟨h', 1, none⟩ = some (.map (some a')) ∧ w'.cell? ⟨h, 1, none⟩ = some (.map (some a))) (first | exact ⟨dd1, ee1⟩ | exact ⟨dd2, ee2⟩)
      (first | (go_at_call 65; refine (refill_any _ a' a [] H.la HN2.out.drew.old HH2.out.drew.old (by omega) KA.out).mono ?_; rintro e w3 ⟨rfl, la, hpa, hma, hta⟩; have HPA := Lib.hid hpa; have HN3 := Lib.hid (HeapAt.reOld HN2.out.drew hta hma); have HB3 := Lib.hid (HB2.out.drew.trans (hta.below (by have := HB2.out.size; simpa using this) (fun k e => by omega))); have HH3 := Lib.hid (HeapAt.turn HH2.out.drew hta (by omega) (by omega) (by omega) (fun k hk e => HN2.out.old.notRow (e ▸ hk))); obtain ⟨-, dd2, -, -, -⟩ := HN3.out.cells; obtain ⟨-, ee2, -, -, -⟩ := HH3.out.cells; clear hpa hma hta))
    go_wp2_with fail
    go_ret
    exact ⟨h', y', a', ly, la, rfl, HN3.out, HPY.out, HPA.out, z1, z2, z3, HB3.out⟩
end Go.Proofs.Ytobniolmielikaa

/- What the heap's Replace answers; no condition. -/
namespace Go.Proofs.Ytobniolmielikaa
open Go.RowKit

/-- Whether two lists have a key in common. -/
def meets (m1 m2 : List (Int × Ob)) : Bool := m1.any fun p => (Go.Proofs.Ytobniolmielikaa.get m2 p.1).isSome
/-- What Replace answers. -/
def HM.repl (H : HM) (m1 m2 : List (Int × Ob)) : Int :=
  if fitB m1 = true ∧ fitB m2 = true ∧ meets m1 m2 = false then (if H.nur < m1.length ∨ H.eld < m2.length then 33 else 0) else 1
theorem meets_perm {l m m2 : List (Int × Ob)} (h : l.Perm m) : meets l m2 = meets m m2 := by
  unfold meets
  rw [Bool.eq_iff_iff, List.any_eq_true, List.any_eq_true]
  exact ⟨fun ⟨x, hx, a⟩ => ⟨x, h.mem_iff.1 hx, a⟩, fun ⟨x, hx, a⟩ => ⟨x, h.mem_iff.2 hx, a⟩⟩
theorem fitB_keys {m : List (Int × Ob)} (h : fitB m = true) : KeysIn m := by
  intro p hp
  have := List.all_eq_true.1 h p hp
  simp [fit1] at this
  omega

theorem HeapAt.setNext {w : World} {h y a : Nat} {H : HM} (hh : HeapAt w h y a H) (x : Int) : HeapAt (w.setCell ⟨h, 4, none⟩ (.int .i64 x)) h y a { H with next := x } := by
  have ht : Turn (· = h) w (w.setCell ⟨h, 4, none⟩ (.int .i64 x)) := (Turn.refl (· = h) w).setCell (p := ⟨h, 4, none⟩) rfl _
  have hn : ∀ k, IsRow 3 w k → ¬ k = h := fun k hk e => hh.notRow k hk (.inl e)
  exact ⟨rowSet hh.row 4 _, hh.young.turn ht (fun e => hh.hy e.symm) hn, hh.old.turn ht (fun e => hh.ha e.symm) hn, hh.ne⟩

/-- What is known behind Replace. -/
structure Repl (H : HM) (m1 m2 : List (Int × Ob)) (H' : HM) : Prop where
  no : H.repl m1 m2 ≠ 0 → H' = H
  yes : H.repl m1 m2 = 0 → H'.nur = H.nur ∧ H'.eld = H.eld ∧ H'.ly.Perm m1 ∧ H'.la.Perm m2 ∧ H'.next = max (max H.next (nxt m1)) (nxt m2)

end Go.Proofs.Ytobniolmielikaa

/- The heap's refill and fits on maps whose objects lie in given blocks; no condition. -/
namespace Go.Proofs.Ytobniolmielikaa
open Go.RowKit

/-- Block b is a map of objects that reads as m, their ints in blocks that meet ok. -/
def ObjMapO (ok : Nat → Prop) (w : World) (b : Nat) (m : List (Int × Ob)) : Prop := ∃ l, MapAt w b l ∧ Kin (ObAt ok w) l m
theorem ObjMapO.turn {ok S : Nat → Prop} {w w' : World} {b : Nat} {m : List (Int × Ob)} (h : ObjMapO ok w b m) (ht : Turn S w w') (hb : ¬ S b) (hn : ∀ k, ok k → ¬ S k) : ObjMapO ok w' b m := by
  obtain ⟨l, h1, h2⟩ := h
  exact ⟨l, h1.turn ht hb, h2.imp fun x y r => r.turn ht hn⟩
theorem ObjMapO.fresh {ok : Nat → Prop} {w w' : World} {b : Nat} {m : List (Int × Ob)} (h : ObjMapO ok w b m) (hb : Below w.heap.size w w') : ObjMapO ok w' b m :=
  h.turn (below_turn hb fun _ => False) (fun x => x) (fun _ _ x => x)
theorem ObjMapO.lt {ok : Nat → Prop} {w : World} {b : Nat} {m : List (Int × Ob)} (h : ObjMapO ok w b m) : b < w.heap.size := by
  obtain ⟨l, h1, _⟩ := h
  exact h1.lt
theorem ObjMapO.nodup {ok : Nat → Prop} {w : World} {b : Nat} {m : List (Int × Ob)} (h : ObjMapO ok w b m) : (m.map (·.1)).Nodup := by
  obtain ⟨l, h1, h2⟩ := h
  rw [← h2.keys]
  exact h1.nodup
theorem ObAt.open {ok : Nat → Prop} {w : World} {v : Value} {o : Ob} (h : ObAt ok w v o) : ∃ ra rc wa wc, v = .agg #[.int .i64 o.op, .int .i64 o.n, .int .i64 o.ar, .slice ra o.refs.length rc, .slice wa o.words.length wc] := by
  obtain ⟨rv, wv, rfl, h1, h2⟩ := h
  obtain ⟨ra, rc, rfl⟩ := h1.shape
  obtain ⟨wa, wc, rfl⟩ := h2.shape
  exact ⟨_, _, _, _, rfl⟩
/-- An iterator over such a map: those that are still to come read as todo. -/
def ObIterO (ok : Nat → Prop) (w : World) (r b : Nat) (m todo : List (Int × Ob)) : Prop := ∃ l tv, IterAt w r b l tv ∧ Kin (ObAt ok w) l m ∧ Kin (ObAt ok w) tv todo
theorem ObIterO.map {ok : Nat → Prop} {w : World} {r b : Nat} {m todo : List (Int × Ob)} (h : ObIterO ok w r b m todo) : ObjMapO ok w b m := by
  obtain ⟨l, tv, h1, h2, _⟩ := h
  exact ⟨l, h1.map, h2⟩
theorem ObIterO.turn {ok S : Nat → Prop} {w w' : World} {r b : Nat} {m todo : List (Int × Ob)} (h : ObIterO ok w r b m todo) (ht : Turn S w w') (h1 : ¬ S b) (h2 : ¬ S r) (hn : ∀ k, ok k → ¬ S k) : ObIterO ok w' r b m todo := by
  obtain ⟨l, tv, a1, a2, a3⟩ := h
  exact ⟨l, tv, a1.turn ht h1 h2, a2.imp fun x y q => q.turn ht hn, a3.imp fun x y q => q.turn ht hn⟩
theorem ObIterO.fresh {ok : Nat → Prop} {w w' : World} {r b : Nat} {m todo : List (Int × Ob)} (h : ObIterO ok w r b m todo) (hb : Below w.heap.size w w') : ObIterO ok w' r b m todo :=
  h.turn (below_turn hb fun _ => False) (fun x => x) (fun x => x) (fun _ _ x => x)
theorem ObIterO.lt {ok : Nat → Prop} {w : World} {r b : Nat} {m todo : List (Int × Ob)} (h : ObIterO ok w r b m todo) : r < w.heap.size := by
  obtain ⟨l, tv, h1, _⟩ := h
  exact h1.lt
theorem ObIterO.notRow {ok : Nat → Prop} {w : World} {r b : Nat} {m todo : List (Int × Ob)} (h : ObIterO ok w r b m todo) : ¬ IsRow 3 w r := by
  obtain ⟨l, tv, ⟨es, clock, si, se, la, _, _, h1, _⟩, _⟩ := h
  rintro ⟨cs, f, h2⟩
  rw [h1] at h2
  simp at h2
theorem ob_rangeO {ok : Nat → Prop} {w : World} {b : Nat} {m : List (Int × Ob)} (h : ObjMapO ok w b m) :
    ∃ w', (Instr.range 52 (.map (some b))).run Try.prog w = .ok (.pointer (some ⟨w.heap.size, 0, none⟩)) w' ∧ ObIterO ok w' w.heap.size b m m ∧ Below w.heap.size w w' ∧ w'.heap.size = w.heap.size + 1 := by
  obtain ⟨l, h1, h2⟩ := h
  obtain ⟨w', a1, a2, a3, a4⟩ := run_range_map (P := Try.prog) (t := 52) (k := 3) (e := 25) Try.underlying52 h1
  have h2' : Kin (ObAt ok w') l m := h2.imp fun x y q => q.fresh a3
  exact ⟨w', a1, ⟨l, l, a2, h2', h2'⟩, a3, a4⟩
theorem ob_nextO {ok : Nat → Prop} {w : World} {r b : Nat} {m todo : List (Int × Ob)} (h : ObIterO ok w r b m todo) (hk : ∀ k, ok k → ¬ k = r) (ty : TypeId) :
    (todo = [] ∧ (Instr.next (.pointer (some ⟨r, 0, none⟩)) false ty).run Try.prog w = .ok (.tuple #[.bool false]) w) ∨
    ∃ (i : Nat) (x : Int) (o : Ob) (ra wa : Option Addr) (rc wc : Nat) (w' : World), todo[i]? = some (x, o) ∧
      ObAt ok w' (.agg #[.int .i64 o.op, .int .i64 o.n, .int .i64 o.ar, .slice ra o.refs.length rc, .slice wa o.words.length wc]) o ∧
      (Instr.next (.pointer (some ⟨r, 0, none⟩)) false ty).run Try.prog w = .ok (.tuple #[.bool true, .int .i64 x, .agg #[.int .i64 o.op, .int .i64 o.n, .int .i64 o.ar, .slice ra o.refs.length rc, .slice wa o.words.length wc]]) w' ∧
      ObIterO ok w' r b m (todo.eraseIdx i) ∧ Turn (· = r) w w' ∧ w'.heap.size = w.heap.size ∧
      (Instr.entry (.pointer (some ⟨r, 0, none⟩))).run Try.prog w' = .ok (.tuple #[.int .i64 x, .agg #[.int .i64 o.op, .int .i64 o.n, .int .i64 o.ar, .slice ra o.refs.length rc, .slice wa o.words.length wc]]) w' := by
  obtain ⟨l, tv, h1, h2, h3⟩ := h
  rcases run_next_map (P := Try.prog) h1 ty with ⟨h0, hrun⟩ | ⟨i, x, v, w', h4, hrun, hit, ht, hs, hentry⟩
  · left
    refine ⟨?_, hrun⟩
    have := h3.length
    rw [h0] at this
    exact List.eq_nil_of_length_eq_zero this.symm
  · right
    obtain ⟨⟨x', o⟩, h5, hx, ho⟩ := forall2_get h3 h4
    dsimp only at hx ho
    subst hx
    have ho' := ho.turn ht hk
    obtain ⟨ra, rc, wa, wc, rfl⟩ := ho.open
    exact ⟨i, x, o, ra, wa, rc, wc, w', h5, ho', hrun, ⟨l, tv.eraseIdx i, hit, h2.imp fun p q g => g.turn ht hk, forall2_erase (h3.imp fun p q g => g.turn ht hk) i⟩, ht, hs, hentry⟩

/-- Where the second loop of refill stands. -/
structure FillAtO (ok : Nat → Prop) (w : World) (b b' r : Nat) (m' done todo : List (Int × Ob)) (W : World) : Prop where
  dst : ObjMap W b done
  it : ObIterO ok W r b' m' todo
  perm : (done ++ todo).Perm m'
  turn : Turn (· = b) w W

set_option maxHeartbeats 1000000 in
theorem refillO_any (ok : Nat → Prop) (w : World) (b b' : Nat) (m m' : List (Int × Ob)) (hb : ObjMap w b m) (hb' : ObjMapO ok w b' m') (hok1 : ∀ k, ok k → k < w.heap.size) (hok2 : ∀ k, ok k → k ≠ b) (hne : b ≠ b') (hk : ∀ p ∈ m', 0 ≤ p.1 ∧ p.1 < 9223372036854775807) :
    Calls Try.prog 65 #[.map (some b), .map (some b')] w fun e w' => e = .returned (.int .i64 (nxt m')) ∧ ∃ m2, m2.Perm m' ∧ ObjMap w' b m2 ∧ Turn (· = b) w w' := by
  have hnd := hb'.nodup
  have hltb := hb.lt
  have hltb2 := hb'.lt
  have OK1 := Lib.hid hok1
  have OK2 := Lib.hid hok2
  clear hok1 hok2
  have NR := Lib.hid (show ∀ k, IsRow 3 w k → ¬ k = b from fun k hk e => hb.notRow (e ▸ hk))
  obtain ⟨l0, hm0, hk0⟩ := hb
  obtain ⟨wi, hrun, hit, hwb, hws⟩ := run_range_map (P := Try.prog) (t := 52) (k := 3) (e := 25) Try.underlying52 hm0
  have hnd1 := hm0.nodup
  have HB' := Lib.hid hb'
  have HN := Lib.hid hnd
  have HN1 := Lib.hid hnd1
  have HK := Lib.hid hk
  have HIT := Lib.hid hit
  have HWB := Lib.hid hwb
  clear hb' hnd hk hit hwb hm0 hk0 hws hnd1
  go_enter Try.func65, Try.ntmps65
  go_wp2_with fail
  clear hrun
  go_loopg [] l0.length (fun g W => ∃ l todo : List (Int × Value), g = todo.length ∧ l.Perm todo ∧ (l.map (·.1)).Nodup ∧ IterAt W w.heap.size b l todo ∧ Turn (· = b) w W)
  case atStart => exact ⟨l0, l0, rfl, .refl _, HN1.out, HIT.out, below_turn HWB.out _⟩
  case round =>
    obtain ⟨l, todo, rfl, hp, hnl, hit, ht0⟩ := hrel
    rcases run_next_map (P := Try.prog) hit 0 with ⟨h0, hrun⟩ | ⟨i, x, v, w', h1, hrun, hit', ht, hs, hentry⟩
    · subst h0
      have hl : l = [] := List.Perm.eq_nil hp
      subst hl
      have hm : ObjMap wr b [] := ⟨[], hit.map, .nil⟩
      have hb2 : ObjMapO ok wr b' m' := HB'.out.turn ht0 (fun e => hne e.symm) OK2.out
      obtain ⟨w2, hrun2, hit2, hwb2, hws2⟩ := ob_rangeO hb2
      have hsz := ht0.size
      have HST := Lib.hid (show FillAtO ok w b b' wr.heap.size m' [] m' w2 from ⟨hm.fresh hwb2, hit2, .refl _, ht0.then hwb2⟩)
      clear hp hnl hit ht0 hm hb2 hit2 hwb2 hws2
      go_wp2_with fail
      clear hrun hrun2
      generalize wr.heap.size = n1 at HST hsz
      go_loopg [6] m'.length (fun g u W => ∃ done todo : List (Int × Ob), g = todo.length ∧ u = .int .i64 (nxt done) ∧ FillAtO ok w b b' n1 m' done todo W)
      case atStart => exact ⟨[], m', rfl, rfl, HST.out⟩
      case round =>
        obtain ⟨done, todo, rfl, rfl, hst⟩ := hrel
        rcases ob_nextO hst.it (fun k hk e => by have := OK1.out k hk; omega) 0 with ⟨h0, hrun⟩ | ⟨i, x, o, ra, wa, rc, wc, w', h1, hob, hrun, hit', ht, hs, hentry⟩
        · subst h0
          have hperm : done.Perm m' := by simpa using hst.perm
          rw [nxt_perm hperm]
          have HS := Lib.hid hst
          have HP := Lib.hid hperm
          clear hst hperm
          go_wp2_with fail
          go_ret
          exact ⟨rfl, done, HP.out, HS.out.dst, HS.out.turn⟩
        · have hx := HK.out (x, o) (hst.perm.mem_iff.1 (List.mem_append_right _ (List.mem_of_getElem? h1)))
          obtain ⟨hx1, hx2⟩ := hx
          dsimp only at hx1 hx2
          have hnx := nxt_snoc done (x, o)
          have HNX := Lib.hid hnx
          have hw : wrap64 (x + 1) = x + 1 := by unfold wrap64; omega
          have hnew : x ∉ done.map (·.1) := by
            have h2 := ((hst.perm.map (·.1)).nodup_iff).2 HN.out
            rw [List.map_append, List.nodup_append] at h2
            intro h3
            exact h2.2.2 x h3 x (List.mem_map_of_mem (f := (·.1)) (List.mem_of_getElem? h1)) rfl
          have HNEW := Lib.hid hnew
          have to1 := (hst.dst.turn ht (by omega) (fun k hk e => hst.it.notRow (e ▸ hk))).fresh ((Below.refl _ _).alloc (Nat.le_refl _) (.cells #[.int .i64 o.op, .int .i64 o.n, .int .i64 o.ar, .slice ra o.refs.length rc, .slice wa o.words.length wc] 25))
          have TO1 := Lib.hid to1
          have HS := Lib.hid hst
          have HO := Lib.hid hob
          have HI := Lib.hid hit'
          have HT := Lib.hid ht
          have H1 := Lib.hid h1
          clear hst hob hit' ht h1 hnx hnew to1
          go_wp2_with fail
          refine (copied_any ok _ o _ (HO.out.fresh ((Below.refl _ _).alloc (Nat.le_refl _) _))).mono ?_
          rintro e w3 ⟨v3, rfl, ho3, hb3⟩
          obtain ⟨ra3, rc3, wa3, wc3, rfl⟩ := ho3.open
          have to3 := TO1.out.fresh hb3
          have hnr3 := to3.notRow
          obtain ⟨L, hm3, hk3⟩ := to3
          have HM3 := Lib.hid hm3
          have HK3 := Lib.hid hk3
          have HO3 := Lib.hid ho3
          have HB3 := Lib.hid hb3
          have NR3 := Lib.hid hnr3
          clear hm3 hk3 ho3 hb3 hnr3
          go_wp2_with (at_mapUpdate; refine wpList_update_map _ rfl _ _ _ 52 3 25 rfl Try.underlying52 Try.underlying3 b _ rfl x rfl _ rfl HM3.out ?_; intro w4 hm4 ht4 hs4; have HM4 := Lib.hid hm4; have HT4 := Lib.hid ht4; clear hm4 ht4)
          all_goals (
            go_roundg (todo.eraseIdx i).length
            case measure =>
              have := (List.getElem?_eq_some_iff.1 H1.out).1
              rw [List.length_eraseIdx_of_lt this]; omega
            case rel =>
              have hnL : x ∉ L.map (·.1) := by rw [HK3.out.keys]; exact HNEW.out
              have hnb : ∀ k, IsRow 3 w3 k → ¬ k = b := fun k hk e => NR3.out (e ▸ hk)
              have hm4 := HM4.out
              rw [put_new hnL] at hm4
              refine ⟨done ++ [(x, o)], todo.eraseIdx i, rfl, ?_, ⟨⟨_, hm4, ?_⟩, ?_, ?_, ?_⟩⟩
              · rw [HNX.out]
                exact congrArg (Value.int IntKind.i64) (by omega)
              · exact forall2_append (HK3.out.imp fun p q g => g.turn HT4.out (fun k _ h => hnb k h)) (.cons ⟨rfl, (HO3.out.base (Nat.zero_le _)).turn HT4.out (fun k _ h => hnb k h)⟩ .nil)
              · exact (((HI.out.fresh ((Below.refl _ _).alloc (Nat.le_refl _) _)).fresh HB3.out)).turn HT4.out (fun e => hne e.symm) (by omega) OK2.out
              · rw [List.append_assoc]
                exact ((perm_erase todo i _ H1.out).append_left done).trans HS.out.perm
              · exact ((((HS.out.turn.under HT.out (fun k hk e => by omega)).alloc _).then HB3.out)).trans HT4.out)
    · have hnot := erase_key ((hp.map _).nodup_iff.1 hnl) h1
      obtain ⟨w2, hdel, hit2, ht2, hs2⟩ := run_delete_iter (P := Try.prog) (t := 52) (k := 3) (e := 25) Try.underlying52 Try.underlying3 hit' x hnot 0 3
      have HP := Lib.hid hp
      have HNL := Lib.hid hnl
      have HI2 := Lib.hid hit2
      have HT0 := Lib.hid ht0
      have HT := Lib.hid ht
      have HT2 := Lib.hid ht2
      have H1 := Lib.hid h1
      clear hp hnl hit2 ht0 ht ht2 h1 hnot hit'
      go_wp2_with fail
      go_roundg (todo.eraseIdx i).length
      case measure =>
        have := (List.getElem?_eq_some_iff.1 H1.out).1
        rw [List.length_eraseIdx_of_lt this]; omega
      case rel =>
        refine ⟨_, todo.eraseIdx i, rfl, del_perm HP.out HNL.out H1.out, ?_, HI2.out, (HT0.out.under HT.out (fun k hk e => by omega)).trans HT2.out⟩
        have := (perm_erase todo i _ H1.out).map (·.1)
        have h3 := (((del_perm HP.out HNL.out H1.out).map (·.1))).nodup_iff
        rw [h3]
        have h4 := (this.trans (HP.out.map (·.1)).symm).nodup_iff.2 HNL.out
        rw [List.map_cons, List.nodup_cons] at h4
        exact h4.2

set_option maxHeartbeats 1000000 in
theorem fitsO_any (ok : Nat → Prop) (w : World) (b : Nat) (m : List (Int × Ob)) (hb : ObjMapO ok w b m) (hok1 : ∀ k, ok k → k < w.heap.size) :
    Calls Try.prog 66 #[.map (some b)] w fun e w' => e = .returned (.bool (fitB m)) ∧ Below w.heap.size w w' := by
  have hlt := hb.lt
  have OK1 := Lib.hid hok1
  clear hok1
  obtain ⟨wi, hrun, hit, hwb, hws⟩ := ob_rangeO hb
  have HIT := Lib.hid hit
  have HWB := Lib.hid hwb
  clear hit hwb hws hb
  go_enter Try.func66, Try.ntmps66
  go_wp2_with fail
  clear hrun
  go_loopg [] m.length (fun g W => ∃ done todo : List (Int × Ob), g = todo.length ∧ (done ++ todo).Perm m ∧ fitB done = true ∧ ObIterO ok W w.heap.size b m todo ∧ Below w.heap.size w W)
  case atStart => exact ⟨[], m, rfl, .refl _, rfl, HIT.out, HWB.out⟩
  case round =>
    obtain ⟨done, todo, rfl, hp, hd, hit, hb⟩ := hrel
    rcases ob_nextO hit (fun k hk e => by have := OK1.out k hk; omega) 0 with ⟨h0, hrun⟩ | ⟨i, x, o, ra, wa, rc, wc, w', h1, hob, hrun, hit', ht, hs, hentry⟩
    · subst h0
      have hm := fitB_perm hp
      rw [List.append_nil, hd] at hm
      have HM := Lib.hid hm
      have HB := Lib.hid hb
      clear hp hd hit hb hm
      go_wp2_with fail
      go_ret
      exact ⟨by rw [← HM.out]; rfl, HB.out⟩
    · have hmem : (x, o) ∈ m := hp.mem_iff.1 (List.mem_append_right _ (List.mem_of_getElem? h1))
      have hb' : Below w.heap.size w w' := hb.trans (ht.below (by have := hb.size; omega) (fun k e => by omega))
      have hp' : ((done ++ [(x, o)]) ++ todo.eraseIdx i).Perm m := by
        rw [List.append_assoc]
        exact ((perm_erase todo i _ h1).append_left done).trans hp
      have hlen : (todo.eraseIdx i).length < todo.length := by
        have := (List.getElem?_eq_some_iff.1 h1).1
        rw [List.length_eraseIdx_of_lt this]; omega
      have HMEM := Lib.hid hmem
      have HP := Lib.hid hp'
      have HD := Lib.hid hd
      have HB := Lib.hid hb'
      have HI := Lib.hid hit'
      have HO := Lib.hid hob
      have hsz := hb'.size
      clear hmem hp hp' hd hb hb' hit hit' hob h1 ht
      by_cases c1 : x < 0
      · have HF := Lib.hid (fitB_no HMEM.out (show fit1 (x, o) = false by simp [fit1]; omega))
        go_wp2_with fail
        go_ret
        exact ⟨by rw [HF.out]; rfl, HB.out.alloc (by omega) _⟩
      · by_cases c2 : 4611686018427387903 < x
        · have HF := Lib.hid (fitB_no HMEM.out (show fit1 (x, o) = false by simp [fit1]; omega))
          go_wp2_with fail
          go_ret
          exact ⟨by rw [HF.out]; rfl, HB.out.alloc (by omega) _⟩
        · go_wp2_with fail
          refine (valid_any ok _ o _ (HO.out.fresh ((Below.refl _ _).alloc (Nat.le_refl _) _))).mono ?_
          rintro e w3 ⟨rfl, hb3⟩
          have HB3 := Lib.hid hb3
          clear hb3
          cases hv : vld o with
          | false =>
            have HF := Lib.hid (fitB_no HMEM.out (show fit1 (x, o) = false by simp [fit1, hv]))
            clear hv
            go_wp2_with fail
            go_ret
            exact ⟨by rw [HF.out]; rfl, below_then (HB.out.alloc (by omega) _) (by simp; omega) HB3.out⟩
          | true =>
            have HV := Lib.hid hv
            clear hv
            go_wp2_with fail
            go_roundg (todo.eraseIdx i).length
            case measure => exact hlen
            case rel =>
              refine ⟨done ++ [(x, o)], todo.eraseIdx i, rfl, HP.out, ?_, (HI.out.fresh ((Below.refl _ _).alloc (Nat.le_refl _) _)).fresh HB3.out, below_then (HB.out.alloc (by omega) _) (by simp; omega) HB3.out⟩
              have := HD.out
              simp only [fitB, List.all_append, Bool.and_eq_true] at this ⊢
              refine ⟨this, ?_⟩
              simp [fit1, HV.out]
              omega
end Go.Proofs.Ytobniolmielikaa

