/- The contract of the heap's Addrs; no condition. -/
import Derived.Test.YtobniolmielikaaHeap12
import Derived.Test.YtobniolmielikaaSort
namespace Go.Proofs.Ytobniolmielikaa
open Go.RowKit

theorem ObjMap.toO {w : World} {b : Nat} {m : List (Int × Ob)} (h : ObjMap w b m) : ObjMapO (· < w.heap.size) w b m := by
  obtain ⟨l, h1, h2⟩ := h
  exact ⟨l, h1, h2.imp fun x y q => q.at.mono fun b hb _ => hb⟩
theorem wf_key {x : Int} (h : 0 ≤ x ∧ x < 9223372036854775807) : (Lit.int .i64 x).wf = true := by
  have a : IntKind.i64.min = -9223372036854775808 := by kernel_rfl
  have b : IntKind.i64.max = 9223372036854775807 := by kernel_rfl
  simp only [Lit.wf, Bool.and_eq_true, decide_eq_true_eq, a, b]
  omega
theorem own_keep {w w' : World} {base n : Nat} {e : TypeId} {v : Value} {xs : List Value} (h : w.ownsRow base e 1 v n xs) (hb : ∀ g, v.ownBlock = some g → w'.heap[g]? = w.heap[g]?) : w'.ownsRow base e 1 v n xs := by
  refine ⟨h.1, ?_⟩
  rcases h.2 with h0 | ⟨g, cap, cur, rfl, hg, hh, rest⟩
  · exact .inl h0
  · exact .inr ⟨g, cap, cur, rfl, hg, (hb g rfl).trans hh, rest⟩
theorem own_row {w : World} {base n : Nat} {e : TypeId} {v : Value} {xs : List Value} (h : w.ownsRow base e 1 v n xs) {g : Nat} (hg : v.ownBlock = some g) : base ≤ g ∧ IsRow e w g := by
  rcases h.2 with ⟨rfl, _⟩ | ⟨g', cap, cur, rfl, hb, hh, _⟩
  · simp [Value.ownBlock] at hg
  · simp [Value.ownBlock] at hg
    subst hg
    exact ⟨hb, _, _, hh⟩
/-- The keys of a heap, ascending. -/
def keysOf (m : List (Int × Ob)) : List Int := m.map (·.1)
def HM.addrs (H : HM) : List Int := srt (keysOf H.ly ++ keysOf H.la)
theorem srt_perm {a b : List Int} (h : a.Perm b) : srt a = srt b := by
  have hp : ∀ l : List Int, (srt l).Pairwise (fun x y => decide (x ≤ y) = true) := fun l =>
    List.pairwise_mergeSort (fun a b c h1 h2 => by simp at *; omega) (fun a b => by simp; omega) l
  refine List.Perm.eq_of_pairwise (le := fun x y => decide (x ≤ y) = true) ?_ (hp a) (hp b) ?_
  · intro x y _ _ h1 h2
    simp at h1 h2
    omega
  · exact (List.mergeSort_perm _ _).trans (h.trans (List.mergeSort_perm _ _).symm)

/-- Where one of the two loops stands. -/
structure AdrAt (w : World) (r b : Nat) (m todo : List (Int × Ob)) (pre xs : List Int) (v : Value) (W : World) : Prop where
  own : W.ownsRow w.heap.size 3 1 v xs.length (xs.map (Value.int .i64))
  it : ObIterO (· < w.heap.size) W r b m todo
  perm : (xs ++ keysOf todo).Perm (pre ++ keysOf m)
  bel : Below w.heap.size w W
theorem AdrAt.next {w W W' : World} {r b : Nat} {m todo : List (Int × Ob)} {pre xs : List Int} {v : Value} (h : AdrAt w r b m todo pre xs v W) (ht : Turn (· = r) W W') (hr : w.heap.size ≤ r) : W'.ownsRow w.heap.size 3 1 v xs.length (xs.map (Value.int .i64)) ∧ Below w.heap.size w W' := by
  refine ⟨own_keep h.own fun g hg => ht.block g (h.own.lt g hg).2 ?_, h.bel.trans (ht.below h.bel.size fun k e => by omega)⟩
  rintro rfl
  exact h.it.notRow (own_row h.own hg).2

theorem turn_grown' {w w' : World} {v : Option Nat} (h : w.grownBy w' v) : Turn (fun k => v = some k) w w' :=
  ⟨h.os, h.tape, h.output, h.size, fun k hk hn => h.block k hk (fun e => hn e.symm)⟩
theorem AdrAt.push {w W W' w3 : World} {r b : Nat} {m todo : List (Int × Ob)} {pre xs : List Int} {v v' : Value} {i : Nat} {x : Int} {o : Ob} {row : Obj} (h : AdrAt w r b m todo pre xs v W) (hx : todo[i]? = some (x, o)) (ht : Turn (· = r) W W') (hit : ObIterO (· < w.heap.size) W' r b m (todo.eraseIdx i))
    (hr : w.heap.size ≤ r) (hb : b < w.heap.size) (hown : w3.ownsRow w.heap.size 3 1 v' (xs.length + 1) ((xs ++ [x]).map (Value.int .i64))) (hg : (W'.alloc row).grownBy w3 v.ownBlock) : AdrAt w r b m (todo.eraseIdx i) pre (xs ++ [x]) v' w3 := by
  obtain ⟨o1, b1⟩ := h.next ht hr
  have z := b1.size
  refine ⟨by simpa using hown, ?_, ?_, ?_⟩
  · have h1 := hit.fresh ((Below.refl _ _).alloc (Nat.le_refl _) row)
    refine h1.turn (turn_grown' hg) ?_ ?_ ?_
    · intro e
      have := (o1.lt _ e).1
      omega
    · intro e
      refine hit.notRow (own_row o1 e).2
    · intro k hk e
      have := (o1.lt _ e).1
      omega
  · have h1 := (perm_erase todo i _ hx).map (·.1)
    rw [List.append_assoc]
    exact (h1.append_left xs).trans h.perm
  · exact (b1.alloc z row).grown hg (by simp; omega) (fun q hq => (o1.lt q hq).1)

set_option maxHeartbeats 2000000 in
theorem addrs_any (w : World) (h y a : Nat) (H : HM) (hh : HeapAt w h y a H) (hky : KeysIn H.ly) (hka : KeysIn H.la) (hny : H.ly.length ≤ 65536) (hna : H.la.length ≤ 65536) :
    Calls Try.prog 25 #[.pointer (some ⟨h, 0, none⟩)] w fun e w' => ∃ u, e = .returned u ∧ Ints (w.heap.size ≤ ·) w' u H.addrs ∧ Below w.heap.size w w' := by
  obtain ⟨hl1, hl2, hl3⟩ := hh.lt
  obtain ⟨c0, c1, -, -, -⟩ := hh.cells
  have M := Lib.hid (made_any h y w c0)
  have HH := Lib.hid hh
  have KY := Lib.hid hky
  have KA := Lib.hid hka
  have OLD := Lib.hid hh.old.toO
  obtain ⟨wi, hrun, hit, hwb, hws⟩ := ob_rangeO hh.young.toO
  have HST := Lib.hid (show AdrAt w w.heap.size y H.ly H.ly [] [] (.slice none 0 0) wi from ⟨row_of_nil _ _ _, hit, .refl _, hwb⟩)
  clear hh hky hka hit hwb hws
  go_enter Try.func25, Try.ntmps25
  go_wp2_with fail
  refine M.out.mono ?_
  rintro e w1 ⟨rfl, rfl⟩
  go_wp2_with fail
  clear hrun c0 c1
  go_loopg [3] H.ly.length (fun g u W => ∃ (xs : List Int) (todo : List (Int × Ob)), g = todo.length ∧ AdrAt w1 w1.heap.size y H.ly todo [] xs u W)
  case atStart => exact ⟨[], H.ly, rfl, HST.out⟩
  case round =>
    obtain ⟨xs, todo, rfl, hst⟩ := hrel
    rcases ob_nextO hst.it (fun k hk e => by omega) 0 with ⟨h0, hrun⟩ | ⟨i, x, o, ra, wa, rc, wc, w', h1', hob, hrun, hit', ht, hs, hentry⟩
    · subst h0
      have hp1 : xs.Perm (keysOf H.ly) := by simpa [keysOf] using hst.perm
      obtain ⟨wi2, hrun2, hit2, hwb2, hws2⟩ := ob_rangeO (OLD.out.turn (below_turn hst.bel (fun _ => False)) (fun x => x) (fun _ _ x => x))
      have HST2 := Lib.hid (show AdrAt w1 wr.heap.size a H.la H.la xs xs u3 wi2 from ⟨own_keep hst.own fun g hg => hwb2.block g (hst.own.lt g hg).2, hit2, .refl _, below_then hst.bel hst.bel.size hwb2⟩)
      have hsz := hst.bel.size
      have hhn := HH.out.fresh hst.bel
      obtain ⟨-, d1, -, -, -⟩ := hhn.cells
      have HP1 := Lib.hid hp1
      have hlx := hp1.length_eq
      simp only [keysOf, List.length_map] at hlx
      clear hst hit2 hwb2 hws2 hhn hp1
      go_wp2_with fail
      clear hrun hrun2 d1
      generalize wr.heap.size = n1 at HST2 hsz
      go_loopg [3] H.la.length (fun g u W => ∃ (ys : List Int) (todo : List (Int × Ob)), g = todo.length ∧ AdrAt w1 n1 a H.la todo xs ys u W)
      case atStart => exact ⟨xs, H.la, rfl, HST2.out⟩
      case round =>
        obtain ⟨ys, todo, rfl, hst⟩ := hrel
        rcases ob_nextO hst.it (fun k hk e => by omega) 0 with ⟨h0, hrun⟩ | ⟨i, x, o, ra, wa, rc, wc, w', h1', hob, hrun, hit', ht, hs, hentry⟩
        · subst h0
          have hperm : ys.Perm (keysOf H.ly ++ keysOf H.la) := by
            have := hst.perm
            simp only [keysOf, List.map_nil, List.append_nil] at this
            exact this.trans (HP1.out.append_right _)
          have hly := hperm.length_eq
          simp only [keysOf, List.length_append, List.length_map] at hly
          have hsx := sort_any w1.heap.size ys.length u3 ys wr hst.own (by omega)
          have HST := Lib.hid hst
          have HP := Lib.hid hperm
          have HSX := Lib.hid hsx
          clear hst hperm hsx hly
          go_wp2_with fail
          refine HSX.out.mono ?_
          rintro e w2 ⟨rfl, hown2, hg2⟩
          have HO2 := Lib.hid hown2
          have HG2 := Lib.hid hg2
          clear hown2 hg2
          go_wp2_with fail
          go_ret
          have hly := HP.out.length_eq
          simp only [keysOf, List.length_append, List.length_map] at hly
          refine ⟨_, rfl, ?_, ?_⟩
          · have he : H.addrs = srt ys := (srt_perm HP.out).symm
            rw [he]
            refine ints_of_row HO2.out (by omega) ?_
            intro z hz
            have hz1 : z ∈ keysOf H.ly ++ keysOf H.la := HP.out.mem_iff.1 (List.mem_mergeSort.1 hz)
            rcases List.mem_append.1 hz1 with hz1 | hz1
            · obtain ⟨p, hp, rfl⟩ := List.mem_map.1 hz1
              exact wf_key (KY.out p hp)
            · obtain ⟨p, hp, rfl⟩ := List.mem_map.1 hz1
              exact wf_key (KA.out p hp)
          · exact HST.out.bel.grown HG2.out HST.out.bel.size (fun q hq => (HST.out.own.lt q hq).1)
        · have hmem : (x, o) ∈ H.la → True := fun _ => trivial
          have hxw : (Lit.int .i64 x).wf = true := by
            have h1 := hst.perm.mem_iff (a := x)
            have h2 : x ∈ keysOf todo := List.mem_map_of_mem (f := fun p : Int × Ob => p.1) (List.mem_of_getElem? h1')
            have h3 := h1.1 (List.mem_append_right _ h2)
            rcases List.mem_append.1 h3 with h3 | h3
            · have h4 := HP1.out.mem_iff.1 h3
              obtain ⟨p, hp, rfl⟩ := List.mem_map.1 h4
              exact wf_key (KY.out p hp)
            · obtain ⟨p, hp, rfl⟩ := List.mem_map.1 h3
              exact wf_key (KA.out p hp)
          have hlen : ys.length + 1 ≤ 131072 := by
            have h1 := hst.perm.length_eq
            have h2 := (List.getElem?_eq_some_iff.1 h1').1
            simp only [keysOf, List.length_append, List.length_map] at h1
            try simp only [List.length_nil] at h1
            omega
          have hn := hst.next ht (by omega)
          have z0 := hn.2.size
          have HX := Lib.hid h1'
          have HST := Lib.hid hst
          have HN := Lib.hid hn.1
          have HIT := Lib.hid hit'
          have HT := Lib.hid ht
          have HW := Lib.hid hxw
          clear hst hn hit' ht hxw hob h1' hmem hs
          go_wp2_with (at_builtin; refine wpList_append_ints _ rfl _ _ 23 rfl w1.heap.size 3 Try.underlying23 info3 _ ys.length ys rfl (HN.out.alloc _) (fun _ => True) _ [x] rfl (ints_oneAt (new0 _ _) HW.out) (by simp <;> omega) (by simp; omega) ?_; intro st' w3 hown' hg'; have HO := Lib.hid hown'; have HG := Lib.hid hg'; clear hown' hg')
          go_roundg (todo.eraseIdx i).length
          case measure =>
            have := (List.getElem?_eq_some_iff.1 HX.out).1
            rw [List.length_eraseIdx_of_lt this]; omega
          case rel => exact ⟨ys ++ [x], todo.eraseIdx i, rfl, HST.out.push HX.out HT.out HIT.out (by omega) (by omega) (by simpa using HO.out) HG.out⟩
    · have hmem : (x, o) ∈ H.ly → True := fun _ => trivial
      have hxw : (Lit.int .i64 x).wf = true := by
        have h1 := hst.perm.mem_iff (a := x)
        have h2 : x ∈ keysOf todo := List.mem_map_of_mem (f := fun p : Int × Ob => p.1) (List.mem_of_getElem? h1')
        have h3 := h1.1 (List.mem_append_right _ h2)
        obtain ⟨p, hp, rfl⟩ := List.mem_map.1 (by simpa using h3 : x ∈ keysOf H.ly)
        exact wf_key (KY.out p hp)
      have hlen : xs.length + 1 ≤ 131072 := by
        have h1 := hst.perm.length_eq
        have h2 := (List.getElem?_eq_some_iff.1 h1').1
        simp only [keysOf, List.length_append, List.length_map] at h1
        try simp only [List.length_nil] at h1
        omega
      have hn := hst.next ht (by omega)
      have z0 := hn.2.size
      have HX := Lib.hid h1'
      have HST := Lib.hid hst
      have HN := Lib.hid hn.1
      have HIT := Lib.hid hit'
      have HT := Lib.hid ht
      have HW := Lib.hid hxw
      clear hst hn hit' ht hxw hob h1' hmem hs
      go_wp2_with (at_builtin; refine wpList_append_ints _ rfl _ _ 23 rfl w1.heap.size 3 Try.underlying23 info3 _ xs.length xs rfl (HN.out.alloc _) (fun _ => True) _ [x] rfl (ints_oneAt (new0 _ _) HW.out) (by simp <;> omega) (by simp; omega) ?_; intro st' w3 hown' hg'; have HO := Lib.hid hown'; have HG := Lib.hid hg'; clear hown' hg')
      go_roundg (todo.eraseIdx i).length
      case measure =>
        have := (List.getElem?_eq_some_iff.1 HX.out).1
        rw [List.length_eraseIdx_of_lt this]; omega
      case rel => exact ⟨xs ++ [x], todo.eraseIdx i, rfl, HST.out.push HX.out HT.out HIT.out (by omega) (by omega) (by simpa using HO.out) HG.out⟩
end Go.Proofs.Ytobniolmielikaa
