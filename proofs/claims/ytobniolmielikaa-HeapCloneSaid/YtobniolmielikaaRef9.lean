/- The reference heap: the walk of merge; no condition. -/
import Derived.Test.YtobniolmielikaaRef8
namespace Go.Proofs.Ytobniolmielikaa
open Go.RowKit

theorem own_made1 (w : World) (o : Obj) : Own (w.heap.size + 1) ((w.alloc o).alloc (.cells #[] 97)) (.slice (some ⟨w.heap.size + 1, 0, none⟩) 0 0) [] := by
  have := World.ownsRow_made (w.alloc o) (base := w.heap.size + 1) (e := 97) (size := 6) #[] 0 (by simp) (by simp [maxLen]) rfl
  simp only [World.size_alloc] at this
  exact this

theorem take_snoc {l : List It} {k : Nat} {y : It} (h : l[k]? = some y) : l.take (k + 1) = l.take k ++ [y] := by
  rw [List.take_add_one, h]
  rfl

/-- Where merge stands. -/
structure MrgAt (w : World) (x : It) (l : List It) (i : Nat) (u : Value) (W : World) : Prop where
  own : Own (w.heap.size + 1) W u (l.take i)
  box : W.heap[w.heap.size]? = some (.cells x.arr 97)
  low : ∀ j, j < i → ∀ y, l[j]? = some y → y.a < x.a
  bel : Below w.heap.size w W

set_option maxHeartbeats 2000000 in
theorem merge_any (ok : Nat → Prop) (w : World) (v : Value) (l : List It) (x : It) (h : Raw ok w v l) (hl1 : (l.length + 1) * 80 ≤ 140737488355328) :
    Calls Try.prog 98 #[v, .agg x.arr] w fun e w' => ∃ v', e = .returned v' ∧ Own w.heap.size w' v' (mrg l x) ∧ Below w.heap.size w w' := by
  obtain ⟨A, c, rfl⟩ := h.shape
  have H := Lib.hid h
  clear h
  go_enter Try.func98, Try.ntmps98
  go_wp2_with fail
  go_loopw [5, 6] (fun u i wr => ∃ k : Nat, k ≤ l.length ∧ i = .int .i64 k ∧ MrgAt w x l k u wr) (fun _ i _ => l.length - (intOf i).toNat)
  case atStart => exact ⟨0, Nat.zero_le _, rfl, ⟨own_made1 _ _, old1 (new0 _ _) _, fun j hj => by omega, ((Below.refl _ _).alloc (Nat.le_refl _) _).alloc (by simp) _⟩⟩
  case round =>
    obtain ⟨k, hk, rfl, hm⟩ := hrel
    have HM := Lib.hid hm
    have hsz := hm.bel.size
    have hbx := heap_lt hm.box
    have cb := cellsH hm.box
    have HL := Lib.hid (H.out.fresh hm.bel)
    obtain ⟨B, hB, hcut⟩ := its_rest H.out hk
    have HB := Lib.hid hB
    have hlt' : (l.take k).length = k := by simp; omega
    have HLT := Lib.hid hlt'
    clear hm hB hlt'
    by_cases hlt : k < l.length
    · have hx := List.getElem?_eq_getElem hlt
      generalize hy : l[k] = y at hx
      have HX := Lib.hid hx
      obtain ⟨b, o, rfl, hat⟩ := HL.out.at hx
      have HAT := Lib.hid hat
      have c0 := hat.c0
      clear hx hat hy
      by_cases hlow : y.a < x.a
      · go_upto_region 3 with (fail)
        go_quiet (fail)
        go_upto_region 4 with (fail)
        have M2 := Lib.hid (show MrgAt w x l k u5 (wr.drewN nq) from ⟨HM.out.own, HM.out.box, HM.out.low, below_drewN HM.out.bel nq⟩)
        have A2 := Lib.hid (show ItAt (wr.drewN nq) b (o + k * 6) y from HAT.out.keep rfl)
        have hsz2 : w.heap.size < (wr.drewN nq).heap.size := hbx
        clear HM HAT hsz hbx cb c0 hcut
        generalize wr.drewN nq = wn at *
        obtain ⟨d0, d1, d2, d3, d4, d5⟩ := A2.out
        go_wp2_with (at_builtin; go_loud (refine wpList_append_it _ rfl _ _ rfl (w.heap.size + 1) _ (l.take k) rfl (M2.out.own.alloc _) (fun _ => True) _ [y] rfl (raw_one (new0 wn _)) (by rw [HLT.out]; simp; omega) (by simp; omega) ?_; intro v2 w2 hown hg; have HO2 := Lib.hid hown; have HG2 := Lib.hid hg; clear hown hg))
        go_roundw
        case rel =>
          refine ⟨k + 1, by omega, by go_num, ⟨?_, ?_, ?_, ?_⟩⟩
          · rw [take_snoc HX.out]
            exact HO2.out
          · exact (HG2.out.block w.heap.size (by simp; omega) (fun e => by have := (M2.out.own.lt _ e.symm).1; omega)).trans (old1 M2.out.box _)
          · intro j hj z hz
            by_cases hjk : j = k
            · subst hjk
              rw [HX.out] at hz
              cases hz
              exact hlow
            · exact M2.out.low j (by omega) z hz
          · exact (M2.out.bel.alloc (by omega) _).grown HG2.out (by simp; omega) (fun q hq => by have := (M2.out.own.lt q hq).1; omega)
        case measure => simp [intOf]; omega
      · have hno := hlow
        have HNO := Lib.hid (show ∀ z, l[k]? = some z → ¬ z.a < x.a from fun z hz => by rw [HX.out] at hz; cases hz; exact hno)
        clear hno
        go_upto_region 3 with (fail)
        go_quiet (fail)
        go_upto_region 6 with (fail)
        have M2 := Lib.hid (show MrgAt w x l k u5 (wr.drewN nq) from ⟨HM.out.own, HM.out.box, HM.out.low, below_drewN HM.out.bel nq⟩)
        have hsz2 : w.heap.size < (wr.drewN nq).heap.size := hbx
        clear HM HAT hsz hbx cb c0 hlow
        generalize wr.drewN nq = wn at *
        have cb := cellsH M2.out.box
        go_upto_region 7 with (at_builtin; refine wpList_append_it _ rfl _ _ rfl (w.heap.size + 1) _ (l.take k) rfl (M2.out.own.alloc _) (fun _ => True) _ [x] rfl (raw_one (new0 wn _)) (by rw [HLT.out]; simp; omega) (by simp; omega) ?_; intro v3 w3 hown hg; have HO3 := Lib.hid hown; have b3 := (M2.out.bel.alloc (by omega) _).grown hg (by simp; omega) (fun q hq => by have := (M2.out.own.lt q hq).1; omega); have B3 := Lib.hid b3; have z3 := hg.size; simp only [World.size_alloc] at z3; clear hown hg b3)
        go_wp2_with (at_builtin; refine wpList_append_it _ rfl _ _ rfl (w.heap.size + 1) _ (l.take k ++ [x]) rfl HO3.out ok _ (l.drop k) rfl (HB.out.fresh B3.out) (by simp only [List.length_append, HLT.out, List.length_drop, List.length_singleton]; omega) (by omega) ?_; intro v4 w4 hown hg; have HO4 := Lib.hid hown; have b4 := B3.out.grown hg (by omega) (fun q hq => by have := (HO3.out.lt q hq).1; omega); have B4 := Lib.hid b4; clear hown hg b4)
        go_ret
        refine ⟨_, rfl, ?_, B4.out⟩
        rw [mrg_at M2.out.low (fun z hz => Int.not_lt.2 (HNO.out z hz))]
        have := HO4.out.base (B' := w.heap.size) (by omega)
        simpa using this
    · have he : k = l.length := by omega
      have HNO := Lib.hid (show ∀ z, l[k]? = some z → ¬ z.a < x.a from fun z hz => by have := (List.getElem?_eq_some_iff.1 hz).1; omega)
      clear he
      go_upto_region 3 with (fail)
      go_quiet (fail)
      go_upto_region 6 with (fail)
      have M2 := Lib.hid (show MrgAt w x l k u5 (wr.drewN nq) from ⟨HM.out.own, HM.out.box, HM.out.low, below_drewN HM.out.bel nq⟩)
      have hsz2 : w.heap.size < (wr.drewN nq).heap.size := hbx
      clear HM hsz hbx cb
      generalize wr.drewN nq = wn at *
      have cb := cellsH M2.out.box
      go_upto_region 7 with (at_builtin; refine wpList_append_it _ rfl _ _ rfl (w.heap.size + 1) _ (l.take k) rfl (M2.out.own.alloc _) (fun _ => True) _ [x] rfl (raw_one (new0 wn _)) (by rw [HLT.out]; simp; omega) (by simp; omega) ?_; intro v3 w3 hown hg; have HO3 := Lib.hid hown; have b3 := (M2.out.bel.alloc (by omega) _).grown hg (by simp; omega) (fun q hq => by have := (M2.out.own.lt q hq).1; omega); have B3 := Lib.hid b3; have z3 := hg.size; simp only [World.size_alloc] at z3; clear hown hg b3)
      go_wp2_with (at_builtin; refine wpList_append_it _ rfl _ _ rfl (w.heap.size + 1) _ (l.take k ++ [x]) rfl HO3.out ok _ (l.drop k) rfl (HB.out.fresh B3.out) (by simp only [List.length_append, HLT.out, List.length_drop, List.length_singleton]; omega) (by omega) ?_; intro v4 w4 hown hg; have HO4 := Lib.hid hown; have b4 := B3.out.grown hg (by omega) (fun q hq => by have := (HO3.out.lt q hq).1; omega); have B4 := Lib.hid b4; clear hown hg b4)
      go_ret
      refine ⟨_, rfl, ?_, B4.out⟩
      rw [mrg_at M2.out.low (fun z hz => Int.not_lt.2 (HNO.out z hz))]
      have := HO4.out.base (B' := w.heap.size) (by omega)
      simpa using this
end Go.Proofs.Ytobniolmielikaa
