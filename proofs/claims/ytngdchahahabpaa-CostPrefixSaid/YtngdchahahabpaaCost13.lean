/- The reference's Open; it answers as the program's does; no condition. -/
import Derived.Test.YtngdchahahabpaaCost12
namespace Go.Proofs.Ytngdchahahabpaa
open Go.RowKit

/-- The reference's list. -/
def ropF (l : List Ev) (out : List Int) (e : Ev) : List Int := if bgn l e.id = true then ins out e.id else out
def ropn (l : List Ev) : List Int := l.foldl (ropF l) []
theorem ropF_length (l : List Ev) (out : List Int) (e : Ev) : (ropF l out e).length ≤ out.length + 1 := by
  unfold ropF
  split
  · exact ins_length _ _
  · omega

set_option maxHeartbeats 2000000 in
theorem ropen_any (w : World) (v : Value) (l : List Ev) (h : Evs w v l) :
    Calls Try.prog 27 #[v] w fun e w' => ∃ u, e = .returned u ∧ Ints (w.heap.size ≤ ·) w' u (ropn l) ∧ Below w.heap.size w w' := by
  have hwf := h.wf
  obtain ⟨A, c, rfl⟩ := h.shape
  have hl := h.len
  have H := Lib.hid h
  have HW := Lib.hid hwf
  clear h hwf
  go_enter Try.func27, Try.ntmps27
  go_wp2_with fail
  go_loopw [3, 4] (fun u i wr => ∃ k : Nat, k ≤ l.length ∧ i = .int .i64 k ∧ Ints (w.heap.size ≤ ·) wr u ((l.take k).foldl (ropF l) []) ∧ ((l.take k).foldl (ropF l) []).length ≤ k ∧ Below w.heap.size w wr) (fun _ i _ => l.length - (intOf i).toNat)
  case atStart => exact ⟨0, Nat.zero_le _, rfl, ⟨_, 0, rfl, by simp, by simp [maxLen], (fun h => by cases h), fun h => by simp at h, by simp, by simp⟩, by simp, (Below.refl _ _).alloc (Nat.le_refl _) _⟩
  case round =>
    obtain ⟨k, hk, rfl, hi, hlen, hbel⟩ := hrel
    have HB := Lib.hid hbel
    have hbs := hbel.size
    by_cases hlt : k < l.length
    · have hev := (H.out.fresh hbel)
      obtain ⟨b, o, rfl, c1, c2, c3⟩ := hev.cell hlt
      have hf := fold_take (ropF l) [] l hlt
      have hid := (HW.out l[k] (List.getElem_mem _)).2.1
      generalize (l.take k).foldl (ropF l) [] = S at hi hlen hf
      generalize l[k] = ev at c1 c2 c3 hf hid
      have hlen' := ropF_length l S ev
      obtain ⟨op, id, step⟩ := ev
      dsimp only at c1 c2 c3 hid
      have HF := Lib.hid hf
      have HI := Lib.hid hi
      have HD := Lib.hid hid
      have HE := Lib.hid hev
      have HL := Lib.hid (show ((l.take (k + 1)).foldl (ropF l) []).length ≤ k + 1 by rw [hf]; omega)
      clear hf hi hid hev hbel hlen'
      cases hb : bgn l id with
      | true =>
        have HN := Lib.hid (show ropF l S ⟨op, id, step⟩ = ins S id by simp [ropF, hb])
        have HBG := Lib.hid hb
        clear hb
        go_wp2_with fail
        refine (begins_any _ _ l id HE.out).mono ?_
        rintro e w1 ⟨rfl, rfl⟩
        rw [HBG.out]
        go_wp2_with fail
        refine (insert_any _ _ _ S id HI.out HD.out (by omega)).mono ?_
        rintro e w2 ⟨u, rfl, hu, hb2⟩
        have HU := Lib.hid hu
        have HB2 := Lib.hid hb2
        clear hu hb2
        go_wp2_with fail
        go_roundw
        case rel => exact ⟨k + 1, by omega, by go_num, by rw [HF.out, HN.out]; exact Ints.mono HU.out (fun b _ hb => Nat.le_trans HB.out.size hb), HL.out, below_then HB.out HB.out.size HB2.out⟩
        case measure => simp [intOf]; omega
      | false =>
        have HN := Lib.hid (show ropF l S ⟨op, id, step⟩ = S by simp [ropF, hb])
        have HBG := Lib.hid hb
        clear hb
        go_wp2_with fail
        refine (begins_any _ _ l id HE.out).mono ?_
        rintro e w1 ⟨rfl, rfl⟩
        rw [HBG.out]
        go_wp2_with fail
        go_roundw
        case rel => exact ⟨k + 1, by omega, by go_num, by rw [HF.out, HN.out]; exact HI.out, HL.out, HB.out⟩
        case measure => simp [intOf]; omega
    · have he : k = l.length := by omega
      have HN := Lib.hid (show Ints (w.heap.size ≤ ·) wr u3 (ropn l) by rw [he, List.take_length] at hi; exact hi)
      clear he hi hbel hlen
      go_wp2_with fail
      go_ret
      exact ⟨_, rfl, HN.out, HB.out⟩

/-! ### both lists are one -/
def upF (b : Option Bool) (id : Int) (e : Ev) : Option Bool :=
  if e.id = id then (if e.op = 2 ∨ e.op = 6 then some true else if e.op = 3 ∨ e.op = 4 ∨ e.op = 5 then some false else b) else b
theorem get_onF (M : List (Int × Bool)) (e : Ev) (id : Int) : get (onF M e) id = upF (get M id) id e := by
  unfold onF upF
  by_cases h : e.id = id
  · subst h
    rw [if_pos rfl]
    split
    · rw [get_put, if_pos rfl]
    · split
      · rw [get_put, if_pos rfl]
      · rfl
  · rw [if_neg h]
    split
    · rw [get_put, if_neg (fun x => h x.symm)]
    · split
      · rw [get_put, if_neg (fun x => h x.symm)]
      · rfl
theorem upF_getD (b : Option Bool) (id : Int) (e : Ev) : (upF b id e).getD false = bgnF id (b.getD false) e := by
  unfold upF bgnF
  split
  · split
    · rfl
    · split <;> rfl
  · rfl
theorem get_onL (l : List Ev) (id : Int) : (get (onL l) id).getD false = bgn l id := by
  have go : ∀ (l : List Ev) (M : List (Int × Bool)), (get (l.foldl onF M) id).getD false = l.foldl (bgnF id) ((get M id).getD false) := by
    intro l
    induction l with
    | nil => intro M; rfl
    | cons e r ih =>
      intro M
      simp only [List.foldl_cons]
      rw [ih, get_onF, upF_getD]
  exact go l []
/-- The keys of a map with one key stored. -/
theorem put_keys {β : Type} (m : List (Int × β)) (k : Int) (v : β) : (put m k v).map (·.1) = if k ∈ m.map (·.1) then m.map (·.1) else m.map (·.1) ++ [k] := by
  unfold put
  split
  · rename_i q hq
    obtain ⟨i, x⟩ := q
    have hx := ix_get hq
    have hmem : k ∈ m.map (·.1) := List.mem_map_of_mem (f := (·.1)) (List.mem_of_getElem? hx)
    rw [if_pos hmem, List.map_set]
    apply List.ext_getElem?
    intro j
    rw [List.getElem?_set]
    split
    · rename_i e
      subst e
      split
      · simp [hx]
      · rename_i hlt
        have := (List.getElem?_eq_some_iff.1 hx).1
        simp at hlt
        omega
    · rfl
  · rename_i hq
    rw [if_neg (ix_none.1 hq)]
    simp
theorem put_nodup {β : Type} (m : List (Int × β)) (k : Int) (v : β) (h : (m.map (·.1)).Nodup) : ((put m k v).map (·.1)).Nodup := by
  rw [put_keys]
  split
  · exact h
  · rename_i hk
    rw [List.nodup_append]
    refine ⟨h, by simp, ?_⟩
    intro a ha b hb
    simp at hb
    subst hb
    intro e
    exact hk (e ▸ ha)
theorem onL_nodup (l : List Ev) : ((onL l).map (·.1)).Nodup := by
  have go : ∀ (l : List Ev) (M : List (Int × Bool)), (M.map (·.1)).Nodup → ((l.foldl onF M).map (·.1)).Nodup := by
    intro l
    induction l with
    | nil => intro M h; exact h
    | cons e r ih =>
      intro M h
      refine ih _ ?_
      unfold onF
      split
      · exact put_nodup _ _ _ h
      · split
        · exact put_nodup _ _ _ h
        · exact h
  exact go l [] (by simp)
theorem get_mem {β : Type} : ∀ {m : List (Int × β)} {k : Int} {v : β}, (m.map (·.1)).Nodup → (get m k = some v ↔ (k, v) ∈ m)
  | [], k, v, _ => by simp [get_nil]
  | p :: r, k, v, h => by
    simp only [List.map_cons, List.nodup_cons] at h
    have ih := get_mem (m := r) (k := k) (v := v) h.2
    unfold get ix
    by_cases e : k = p.1
    · rw [if_pos e]
      constructor
      · intro h1
        simp at h1
        rw [e, ← h1]
        exact List.mem_cons_self ..
      · intro h1
        rcases List.mem_cons.1 h1 with h2 | h2
        · rw [← h2]; rfl
        · exact absurd (by rw [← e]; exact List.mem_map_of_mem (f := (·.1)) h2) h.1
    · rw [if_neg e]
      have h3 : (Option.map (fun q => (q.1 + 1, q.2)) (ix r k)).map (·.2) = get r k := by
        unfold get
        cases ix r k <;> rfl
      rw [h3, ih]
      constructor
      · exact List.mem_cons_of_mem _
      · intro h1
        rcases List.mem_cons.1 h1 with h2 | h2
        · exact absurd (by rw [← h2]) e
        · exact h2
theorem mem_trues {m : List (Int × Bool)} (h : (m.map (·.1)).Nodup) (x : Int) : x ∈ trues m ↔ (get m x).getD false = true := by
  have h1 : x ∈ trues m ↔ (x, true) ∈ m := by
    simp only [trues, List.mem_map, List.mem_filter]
    constructor
    · rintro ⟨⟨a, b⟩, ⟨hp, hb⟩, rfl⟩
      simp at hb
      subst hb
      exact hp
    · intro hp
      exact ⟨_, ⟨hp, rfl⟩, rfl⟩
  rw [h1, ← get_mem h]
  cases get m x with
  | none => simp
  | some b => simp
theorem trues_nodup {m : List (Int × Bool)} (h : (m.map (·.1)).Nodup) : (trues m).Nodup := h.sublist ((List.filter_sublist).map _)

theorem ins_sorted (n : Int) : ∀ xs : List Int, xs.Pairwise (· < ·) → (ins xs n).Pairwise (· < ·)
  | [], _ => by simp [ins]
  | x :: r, h => by
    obtain ⟨h1, h2⟩ := List.pairwise_cons.1 h
    unfold ins
    split
    · rename_i hx
      refine List.pairwise_cons.2 ⟨fun y hy => ?_, ins_sorted n r h2⟩
      rcases (mem_ins n r y).1 hy with rfl | hy
      · exact hx
      · exact h1 y hy
    · split
      · rename_i e
        subst e
        exact h
      · refine List.pairwise_cons.2 ⟨fun y hy => ?_, h⟩
        rcases List.mem_cons.1 hy with rfl | hy
        · omega
        · have := h1 y hy
          omega
theorem ropn_sorted (l : List Ev) : (ropn l).Pairwise (· < ·) := by
  have go : ∀ (r : List Ev) (out : List Int), out.Pairwise (· < ·) → (r.foldl (ropF l) out).Pairwise (· < ·) := by
    intro r
    induction r with
    | nil => intro out h; exact h
    | cons e r ih =>
      intro out h
      refine ih _ ?_
      unfold ropF
      split
      · exact ins_sorted _ _ h
      · exact h
  exact go l [] List.Pairwise.nil
theorem mem_ropn (l : List Ev) (x : Int) : x ∈ ropn l ↔ ∃ e ∈ l, bgn l e.id = true ∧ e.id = x := by
  have go : ∀ (r : List Ev) (out : List Int), x ∈ r.foldl (ropF l) out ↔ x ∈ out ∨ ∃ e ∈ r, bgn l e.id = true ∧ e.id = x := by
    intro r
    induction r with
    | nil => intro out; simp
    | cons e r ih =>
      intro out
      rw [List.foldl_cons, ih]
      have h1 : x ∈ ropF l out e ↔ x ∈ out ∨ (bgn l e.id = true ∧ e.id = x) := by
        unfold ropF
        split
        · rename_i hb
          rw [mem_ins]
          constructor
          · rintro (rfl | h)
            · exact .inr ⟨hb, rfl⟩
            · exact .inl h
          · rintro (h | ⟨_, rfl⟩)
            · exact .inr h
            · exact .inl rfl
        · rename_i hb
          constructor
          · exact .inl
          · rintro (h | ⟨h, _⟩)
            · exact h
            · exact absurd h hb
      rw [h1]
      simp only [List.mem_cons]
      constructor
      · rintro ((h | h) | ⟨e', h2, h3⟩)
        · exact .inl h
        · exact .inr ⟨e, .inl rfl, h⟩
        · exact .inr ⟨e', .inr h2, h3⟩
      · rintro (h | ⟨e', rfl | h2, h3⟩)
        · exact .inl (.inl h)
        · exact .inl (.inr h3)
        · exact .inr ⟨e', h2, h3⟩
  have := go l []
  simpa [ropn] using this
theorem bgn_met (l : List Ev) (id : Int) (h : bgn l id = true) : ∃ e ∈ l, e.id = id := by
  have go : ∀ (r : List Ev) (b : Bool), (∀ e ∈ r, e.id ≠ id) → r.foldl (bgnF id) b = b := by
    intro r
    induction r with
    | nil => intro b _; rfl
    | cons e r ih =>
      intro b hr
      rw [List.foldl_cons]
      have : bgnF id b e = b := by
        unfold bgnF
        rw [if_neg (hr e (List.mem_cons_self ..))]
      rw [this]
      exact ih b fun e he => hr e (List.mem_cons_of_mem _ he)
  apply Classical.byContradiction
  intro hn
  have := go l false fun e he h2 => hn ⟨e, he, h2⟩
  unfold bgn at h
  rw [this] at h
  cases h
theorem opn_ropn (l : List Ev) : opn l = ropn l := by
  have hs := ropn_sorted l
  have hp : ∀ l : List Int, (srt l).Pairwise (fun x y => decide (x ≤ y) = true) := fun l =>
    List.pairwise_mergeSort (fun a b c h1 h2 => by simp at *; omega) (fun a b => by simp; omega) l
  refine List.Perm.eq_of_pairwise (le := fun x y => decide (x ≤ y) = true) ?_ (hp _) (hs.imp fun h => by simp; omega) ?_
  · intro x y _ _ h1 h2
    simp at h1 h2
    omega
  · refine (List.mergeSort_perm _ _).trans ((List.perm_ext_iff_of_nodup (trues_nodup (onL_nodup l)) (hs.imp fun h => by omega)).2 fun x => ?_)
    rw [mem_trues (onL_nodup l), get_onL, mem_ropn]
    constructor
    · intro h
      obtain ⟨e, he, rfl⟩ := bgn_met l x h
      exact ⟨e, he, h, rfl⟩
    · rintro ⟨e, _, h, rfl⟩
      exact h
end Go.Proofs.Ytngdchahahabpaa
