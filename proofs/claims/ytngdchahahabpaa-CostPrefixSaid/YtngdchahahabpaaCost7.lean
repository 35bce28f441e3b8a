/- The program's open thunks: the list that it makes, sorted; no condition. -/
import Derived.Test.YtngdchahahabpaaCost6
import Derived.Deep.LoopGhost
namespace Go.Proofs.Ytngdchahahabpaa
open Go.RowKit

/-- Which evaluations go on. -/
def onF (m : List (Int × Bool)) (e : Ev) : List (Int × Bool) :=
  if e.op = 2 ∨ e.op = 6 then put m e.id true else if e.op = 3 ∨ e.op = 4 ∨ e.op = 5 then put m e.id false else m
def onL (l : List Ev) : List (Int × Bool) := l.foldl onF []
/-- The keys of the entries that hold. -/
def trues (m : List (Int × Bool)) : List Int := (m.filter (·.2)).map (·.1)
/-- The open thunks, ascending. -/
def opn (l : List Ev) : List Int := srt (trues (onL l))

theorem perm_erase {α : Type} : ∀ (l : List α) (i : Nat) (x : α), l[i]? = some x → (x :: l.eraseIdx i).Perm l
  | [], i, x, h => by simp at h
  | y :: l, 0, x, h => by simp at h; subst h; simp
  | y :: l, i + 1, x, h => by
    have ih := perm_erase l i x (by simpa using h)
    rw [List.eraseIdx_cons_succ]
    exact (List.Perm.swap y x _).trans (ih.cons y)
theorem srt_perm {a b : List Int} (h : a.Perm b) : srt a = srt b := by
  have hp : ∀ l : List Int, (srt l).Pairwise (fun x y => decide (x ≤ y) = true) := fun l =>
    List.pairwise_mergeSort (fun a b c h1 h2 => by simp at *; omega) (fun a b => by simp; omega) l
  refine List.Perm.eq_of_pairwise (le := fun x y => decide (x ≤ y) = true) ?_ (hp a) (hp b) ?_
  · intro x y _ _ h1 h2
    simp at h1 h2
    omega
  · exact (List.mergeSort_perm _ _).trans (h.trans (List.mergeSort_perm _ _).symm)
theorem trues_perm {a b : List (Int × Bool)} (h : a.Perm b) : (trues a).Perm (trues b) := (h.filter _).map _
theorem trues_cons_true (x : Int) (m : List (Int × Bool)) : trues ((x, true) :: m) = x :: trues m := by simp [trues]
theorem trues_cons_false (x : Int) (m : List (Int × Bool)) : trues ((x, false) :: m) = trues m := by simp [trues]
theorem vals_erase {α β : Type} (f : α → β) (l : List (Int × α)) (i : Nat) : (vals f l).eraseIdx i = vals f (l.eraseIdx i) := by
  simp [vals, map_eraseIdx']
theorem vals_get {α β : Type} (f : α → β) (l : List (Int × α)) (i : Nat) : (vals f l)[i]? = (l[i]?).map fun p => (p.1, f p.2) := by
  simp [vals]
/-- What the keys have in common. -/
theorem onF_keys (p : Int → Prop) (m : List (Int × Bool)) (e : Ev) (hm : ∀ k ∈ m.map (·.1), p k) (he : p e.id) : ∀ k ∈ (onF m e).map (·.1), p k := by
  have hput : ∀ v, ∀ k ∈ (put m e.id v).map (·.1), p k := by
    intro v k hk
    by_cases hke : k = e.id
    · exact hke ▸ he
    · have h1 : get (put m e.id v) k ≠ none := fun h => (get_none.1 h) hk
      rw [get_put, if_neg hke] at h1
      exact hm k (Classical.byContradiction fun h => h1 (get_none.2 h))
  unfold onF
  split
  · exact hput _
  · split
    · exact hput _
    · exact hm
theorem onL_keys (p : Int → Prop) (l : List Ev) (h : ∀ e ∈ l, p e.id) : ∀ k ∈ (onL l).map (·.1), p k := by
  have go : ∀ (l : List Ev) (m : List (Int × Bool)), (∀ e ∈ l, p e.id) → (∀ k ∈ m.map (·.1), p k) → ∀ k ∈ (l.foldl onF m).map (·.1), p k := by
    intro l
    induction l with
    | nil => intro m _ hm; exact hm
    | cons e l ih =>
      intro m hl hm
      exact ih _ (fun e he => hl e (List.mem_cons_of_mem _ he)) (onF_keys p m e hm (hl e (List.mem_cons_self ..)))
  exact go l [] h (by simp)
theorem put_length {β : Type} (m : List (Int × β)) (k : Int) (v : β) : (put m k v).length ≤ m.length + 1 := by
  unfold put
  split <;> simp
theorem onF_length (m : List (Int × Bool)) (e : Ev) : (onF m e).length ≤ m.length + 1 := by
  unfold onF
  split
  · exact put_length _ _ _
  · split
    · exact put_length _ _ _
    · omega
theorem onL_length (l : List Ev) : (onL l).length ≤ l.length := by
  have go : ∀ (l : List Ev) (m : List (Int × Bool)), (l.foldl onF m).length ≤ m.length + l.length := by
    intro l
    induction l with
    | nil => intro m; simp
    | cons e l ih =>
      intro m
      have := ih (onF m e)
      have := onF_length m e
      simp only [List.foldl_cons, List.length_cons]
      omega
  have := go l []
  simpa [onL] using this
theorem trues_length (m : List (Int × Bool)) : (trues m).length ≤ m.length := by
  simp only [trues, List.length_map]
  exact List.length_filter_le _ _

theorem own_turn {S : Nat → Prop} {w w' : World} {base n : Nat} {e : TypeId} {v : Value} {xs : List Value} (h : w.ownsRow base e 1 v n xs) (ht : Turn S w w') (hn : ∀ g, base ≤ g → ¬ S g) : w'.ownsRow base e 1 v n xs := by
  refine ⟨h.1, ?_⟩
  rcases h.2 with h0 | ⟨g, cap, cur, rfl, hg, hb, h1, h2, h3, h4⟩
  · exact .inl h0
  · exact .inr ⟨g, cap, cur, rfl, hg, (ht.block g (heap_lt hb) (hn g hg)).trans hb, h1, h2, h3, h4⟩
/-- Where the second loop stands. -/
structure OpenAt (w : World) (n1 : Nat) (M : List (Int × Bool)) (xs : List Int) (todo : List (Int × Bool)) (v : Value) (W : World) : Prop where
  own : W.ownsRow (n1 + 1) 3 1 v xs.length (xs.map (Value.int .i64))
  it : IterAt W n1 w.heap.size (vals vb M) (vals vb todo)
  perm : (xs ++ trues todo).Perm (trues M)
  bel : Below w.heap.size w W

set_option maxHeartbeats 2000000 in
theorem open_any (w : World) (v : Value) (l : List Ev) (h : Evs w v l) :
    Calls Try.prog 26 #[v] w fun e w' => ∃ u, e = .returned u ∧ Ints (w.heap.size ≤ ·) w' u (opn l) ∧ Below w.heap.size w w' := by
  have hwf := h.wf
  obtain ⟨A, c, rfl⟩ := h.shape
  have hl := h.len
  have H := Lib.hid h
  have HW := Lib.hid hwf
  clear h hwf
  have hmm := @run_makeMap Try.prog
  go_enter Try.func26, Try.ntmps26
  go_wp2_with fail
  go_loopw [12] (fun i wr => ∃ k : Nat, k ≤ l.length ∧ i = .int .i64 k ∧ MapAt wr w.heap.size (vals vb ((l.take k).foldl onF [])) ∧ Below w.heap.size w wr) (fun i _ => l.length - (intOf i).toNat)
  case atStart => exact ⟨0, Nat.zero_le _, rfl, by simpa [vals] using MapAt.made w, (Below.refl _ _).alloc (Nat.le_refl _) _⟩
  case round =>
    obtain ⟨k, hk, rfl, hm, hb⟩ := hrel
    have hbs := hb.size
    have hms := hm.lt
    by_cases hlt : k < l.length
    · obtain ⟨b, o, rfl, c1, c2, c3⟩ := (H.out.fresh hb).cell hlt
      have hf := fold_take onF [] l hlt
      generalize (l.take k).foldl onF [] = M at hm hf
      generalize l[k] = ev at c1 c2 c3 hf
      have HF := Lib.hid hf
      have HB := Lib.hid hb
      have HM := Lib.hid hm
      obtain ⟨op, id, step⟩ := ev
      dsimp only at c1 c2 c3
      clear hf hb hm
      by_cases hy : op = 2 ∨ op = 6
      · have HN := Lib.hid (show onF M ⟨op, id, step⟩ = put M id true by simp [onF, hy])
        rcases hy with rfl | rfl <;>
        · go_wp2_with (at_mapUpdate; refine wpList_update_map _ rfl _ _ _ 56 3 4 rfl Try.underlying56 Try.underlying3 w.heap.size _ rfl id rfl (vb true) rfl (HM.out.alloc _) ?_; intro w' hm' ht' hs'; have HM' := Lib.hid hm'; have HT' := Lib.hid ht'; have HS' := Lib.hid hs'; clear hm' ht' hs')
          go_roundw
          case rel =>
            refine ⟨k + 1, by omega, by go_num, ?_, ?_⟩
            · rw [HF.out, HN.out, ← put_vals]; exact HM'.out
            · exact (HB.out.alloc hbs _).trans (HT'.out.below (by simp; omega) (fun q hq => by omega))
          case measure => simp [intOf]; omega
      · by_cases hn : op = 3 ∨ op = 4 ∨ op = 5
        · have HN := Lib.hid (show onF M ⟨op, id, step⟩ = put M id false by simp only [onF, if_neg hy, if_pos hn])
          clear hy
          rcases hn with rfl | rfl | rfl <;>
          · go_wp2_with (at_mapUpdate; refine wpList_update_map _ rfl _ _ _ 56 3 4 rfl Try.underlying56 Try.underlying3 w.heap.size _ rfl id rfl (vb false) rfl (HM.out.alloc _) ?_; intro w' hm' ht' hs'; have HM' := Lib.hid hm'; have HT' := Lib.hid ht'; have HS' := Lib.hid hs'; clear hm' ht' hs')
            go_roundw
            case rel =>
              refine ⟨k + 1, by omega, by go_num, ?_, ?_⟩
              · rw [HF.out, HN.out, ← put_vals]; exact HM'.out
              · exact (HB.out.alloc hbs _).trans (HT'.out.below (by simp; omega) (fun q hq => by omega))
            case measure => simp [intOf]; omega
        · have HN := Lib.hid (show onF M ⟨op, id, step⟩ = M by simp only [onF, if_neg hy, if_neg hn])
          have t2 : (op == 2) = false := by simp; omega
          have t6 : (op == 6) = false := by simp; omega
          have t3 : (op == 3) = false := by simp; omega
          have t4 : (op == 4) = false := by simp; omega
          have t5 : (op == 5) = false := by simp; omega
          clear hy hn
          go_wp2_with fail
          go_roundw
          case rel => exact ⟨k + 1, by omega, by go_num, by rw [HF.out, HN.out]; exact HM.out.alloc _, HB.out.alloc hbs _⟩
          case measure => simp [intOf]; omega
    · have he : k = l.length := by omega
      have hbl : onL l = (l.take k).foldl onF [] := by rw [he, List.take_length]; rfl
      rw [← hbl] at hm
      clear hbl
      have hon := hm
      generalize hML : onL l = M at hm hon
      have HML := Lib.hid hML
      obtain ⟨wi, hrun, hit, hwb, hws⟩ := run_range_map (P := Try.prog) (t := 56) (k := 3) (e := 4) Try.underlying56 hm
      have hn1 : w.heap.size < wr.heap.size := hms
      have HST := Lib.hid (show OpenAt w wr.heap.size M [] M (.slice none 0 0) wi from ⟨row_of_nil _ _ _, hit, by simp, hb.trans (hwb.mono (by omega))⟩)
      clear he hm hb hon hit hwb hws hML
      go_wp2_with fail
      clear hrun hms hbs
      generalize wr.heap.size = n1 at hn1 HST
      go_loopg [6] M.length (fun g u W => ∃ (xs : List Int) (todo : List (Int × Bool)), g = todo.length ∧ OpenAt w n1 M xs todo u W)
      case atStart => exact ⟨[], M, rfl, HST.out⟩
      case round =>
        obtain ⟨xs, todo, rfl, hst⟩ := hrel
        rcases run_next_map (P := Try.prog) hst.it 0 with ⟨h0, hrun⟩ | ⟨i, x0, y, w', h1, hrun, hit, ht, hs, hentry⟩
        · have ht0 : todo = [] := by simpa [vals] using h0
          subst ht0
          have HST := Lib.hid hst
          clear hst h0
          have hbel := HST.out.bel
          have hperm : xs.Perm (trues M) := by simpa [trues] using HST.out.perm
          have hlx : xs.length ≤ l.length := by
            have h1 := hperm.length_eq
            have h2 := trues_length M
            have h3 := onL_length l
            rw [HML.out] at h3
            omega
          have hsx := sort_any (n1 + 1) xs.length u6 xs wr HST.out.own (by omega)
          have HP := Lib.hid hperm
          have HBE := Lib.hid hbel
          clear hperm hbel
          go_wp2_with fail
          refine hsx.mono ?_
          rintro e w2 ⟨rfl, hown2, hg2⟩
          have HO2 := Lib.hid hown2
          have HG2 := Lib.hid hg2
          clear hown2 hg2
          go_wp2_with fail
          go_ret
          have hop : opn l = srt xs := by rw [opn, HML.out]; exact (srt_perm HP.out).symm
          refine ⟨_, rfl, ?_, ?_⟩
          · rw [hop]
            refine Ints.mono (ints_of_row HO2.out (by omega) ?_) (fun b _ hb => by omega)
            intro x hx
            have hx1 : x ∈ trues M := HP.out.mem_iff.1 ((List.mem_mergeSort).1 hx)
            have hx2 : x ∈ (onL l).map (·.1) := by
              rw [HML.out]
              simp only [trues, List.mem_map, List.mem_filter] at hx1
              obtain ⟨p, ⟨hp, _⟩, rfl⟩ := hx1
              exact List.mem_map_of_mem hp
            exact onL_keys (fun k => (Lit.int .i64 k).wf = true) l (fun e he => (HW.out e he).2.1) x hx2
          · refine HBE.out.grown HG2.out HBE.out.size ?_
            intro q hq
            have := (HST.out.own.lt q hq).1
            omega
        · rw [vals_get] at h1
          obtain ⟨⟨x, z⟩, hi, he⟩ := Option.map_eq_some_iff.1 h1
          cases he
          rw [vals_erase] at hit
          have hlen : (todo.eraseIdx i).length < todo.length := by
            have := (List.getElem?_eq_some_iff.1 hi).1
            rw [List.length_eraseIdx_of_lt this]; omega
          have HST := Lib.hid hst
          have HI := Lib.hid hi
          have HIT := Lib.hid hit
          have HT := Lib.hid ht
          have HS := Lib.hid hs
          clear hst hi hit ht hs h1
          cases z with
          | false =>
            go_wp2_with fail
            go_roundg (todo.eraseIdx i).length
            case measure => exact hlen
            case rel =>
              refine ⟨xs, todo.eraseIdx i, rfl, own_turn HST.out.own HT.out (by omega), HIT.out, ?_, HST.out.bel.trans (HT.out.below (by have := HST.out.bel.size; omega) (fun q hq => by omega))⟩
              have h1 := trues_perm (perm_erase todo i _ HI.out)
              rw [trues_cons_false] at h1
              exact (h1.append_left xs).trans HST.out.perm
          | true =>
            have hxl : xs.length + 1 ≤ l.length := by
              have h1 := HST.out.perm.length_eq
              have h2 := trues_length M
              have h3 := onL_length l
              have h4 := (trues_perm (perm_erase todo i _ HI.out)).length_eq
              rw [trues_cons_true] at h4
              rw [HML.out] at h3
              simp at h1 h4
              omega
            have hxw : (Lit.int .i64 x).wf = true := by
              refine onL_keys (fun k => (Lit.int .i64 k).wf = true) l (fun e he => (HW.out e he).2.1) x ?_
              rw [HML.out]
              have h1 := HST.out.perm.mem_iff (a := x)
              have h2 := (trues_perm (perm_erase todo i _ HI.out)).mem_iff (a := x)
              rw [trues_cons_true] at h2
              have h3 : x ∈ trues M := h1.1 (List.mem_append_right _ (h2.1 (List.mem_cons_self ..)))
              simp only [trues, List.mem_map, List.mem_filter] at h3
              obtain ⟨p, ⟨hp, _⟩, rfl⟩ := h3
              exact List.mem_map_of_mem hp
            have hbig : n1 < wr.heap.size := HST.out.it.lt
            go_wp2_with (at_builtin; refine wpList_append_ints _ rfl _ _ 38 rfl (n1 + 1) 3 Try.underlying38 info3 _ xs.length xs rfl ((own_turn HST.out.own HT.out (by omega)).alloc _) (fun _ => True) _ [x] rfl (ints_oneAt (new0 _ _) hxw) (by simp <;> omega) (by have := HS.out; simp <;> omega) ?_; intro st' w3 hown' hg'; have HO := Lib.hid hown'; have HG := Lib.hid hg'; clear hown' hg')
            go_roundg (todo.eraseIdx i).length
            case measure => exact hlen
            case rel =>
              have hb3 : Below (n1 + 1) (w'.alloc (.cells #[.int .i64 x] 3)) w3 := (Below.refl _ _).grown HG.out (by have := HS.out; simp <;> omega) (fun q hq => (HST.out.own.lt q hq).1)
              refine ⟨xs ++ [x], todo.eraseIdx i, rfl, ?_, (HIT.out.alloc _).below hb3 (by omega) (by omega), ?_, ?_⟩
              · have := HO.out
                simpa using this
              · have h1 := trues_perm (perm_erase todo i _ HI.out)
                rw [trues_cons_true] at h1
                rw [List.append_assoc]
                exact (h1.append_left xs).trans HST.out.perm
              · exact ((HST.out.bel.trans (HT.out.below (by have := HST.out.bel.size; omega) (fun q hq => by omega))).alloc (by have := HS.out; have := HST.out.bel.size; omega) _).trans (hb3.mono (by omega))
end Go.Proofs.Ytngdchahahabpaa
