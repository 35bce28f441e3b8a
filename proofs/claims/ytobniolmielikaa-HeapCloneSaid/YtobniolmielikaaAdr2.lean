/- The contract of the heap's Remembered; no condition. -/
import Derived.Test.YtobniolmielikaaAdr1
import Derived.Test.YtobniolmielikaaHeap5
namespace Go.Proofs.Ytobniolmielikaa
open Go.RowKit

/-- Whether an object refers to a key. -/
def refsTo (ly : List (Int × Ob)) (o : Ob) : Bool := o.refs.any fun x => (Go.Proofs.Ytobniolmielikaa.get ly x).isSome
def HM.rem (H : HM) : List Int := srt (keysOf (H.la.filter fun p => refsTo H.ly p.2))
theorem refsTo_yes {ly : List (Int × Ob)} {o : Ob} {j : Nat} (hj : j < o.refs.length) (h : (Go.Proofs.Ytobniolmielikaa.get ly o.refs[j]).isSome = true) : refsTo ly o = true := List.any_eq_true.2 ⟨_, List.getElem_mem hj, h⟩
theorem refsTo_no {ly : List (Int × Ob)} {o : Ob} (h : ∀ j, j < o.refs.length → ∀ z, o.refs[j]? = some z → Go.Proofs.Ytobniolmielikaa.get ly z = none) : refsTo ly o = false := by
  refine List.any_eq_false.2 fun z hz => ?_
  obtain ⟨j, hj⟩ := List.getElem?_of_mem hz
  simp [h j (List.getElem?_eq_some_iff.1 hj).1 z hj]

/-- Where the loop stands. -/
structure RemAt (w : World) (r b : Nat) (ly m todo : List (Int × Ob)) (xs : List Int) (v : Value) (W : World) : Prop where
  own : W.ownsRow w.heap.size 3 1 v xs.length (xs.map (Value.int .i64))
  it : ObIterO (· < w.heap.size) W r b m todo
  perm : (xs ++ keysOf (todo.filter fun p => refsTo ly p.2)).Perm (keysOf (m.filter fun p => refsTo ly p.2))
  bel : Below w.heap.size w W
theorem RemAt.next {w W W' : World} {r b i : Nat} {ly m todo : List (Int × Ob)} {xs : List Int} {v : Value} {x : Int} {o : Ob} (h : RemAt w r b ly m todo xs v W) (ht : Turn (· = r) W W') (hr : w.heap.size ≤ r) (hit : ObIterO (· < w.heap.size) W' r b m (todo.eraseIdx i)) (hx : todo[i]? = some (x, o)) :
    W'.ownsRow w.heap.size 3 1 v xs.length (xs.map (Value.int .i64)) ∧ Below w.heap.size w W' ∧ (xs ++ keysOf (((x, o) :: todo.eraseIdx i).filter fun p => refsTo ly p.2)).Perm (keysOf (m.filter fun p => refsTo ly p.2)) := by
  refine ⟨own_keep h.own fun g hg => ht.block g (h.own.lt g hg).2 ?_, h.bel.trans (ht.below h.bel.size fun k e => by omega), ?_⟩
  · rintro rfl
    exact h.it.notRow (own_row h.own hg).2
  · have h1 := ((perm_erase todo i _ hx).filter fun p => refsTo ly p.2).map (·.1)
    exact (h1.append_left xs).trans h.perm
theorem rem_push {w W w3 : World} {r b : Nat} {m todo : List (Int × Ob)} {xs : List Int} {v : Value} {row : Obj} (hown : W.ownsRow w.heap.size 3 1 v xs.length (xs.map (Value.int .i64))) (hit : ObIterO (· < w.heap.size) W r b m todo)
    (hb : b < w.heap.size) (hbel : Below w.heap.size w W) (hg : (W.alloc row).grownBy w3 v.ownBlock) : ObIterO (· < w.heap.size) w3 r b m todo ∧ Below w.heap.size w w3 := by
  have z := hbel.size
  refine ⟨?_, (hbel.alloc z row).grown hg (by simp; omega) (fun q hq => (hown.lt q hq).1)⟩
  have h1 := hit.fresh ((Below.refl _ _).alloc (Nat.le_refl _) row)
  refine h1.turn (turn_grown' hg) ?_ ?_ ?_
  · intro e
    have := (hown.lt _ e).1
    omega
  · intro e
    exact hit.notRow (own_row hown e).2
  · intro k hk e
    have := (hown.lt _ e).1
    omega

set_option maxHeartbeats 4000000 in
theorem remembered_any (w : World) (h y a : Nat) (H : HM) (hh : HeapAt w h y a H) (hka : KeysIn H.la) (hna : H.la.length ≤ 65536) :
    Calls Try.prog 28 #[.pointer (some ⟨h, 0, none⟩)] w fun e w' => ∃ u, e = .returned u ∧ Ints (w.heap.size ≤ ·) w' u H.rem ∧ Below w.heap.size w w' := by
  obtain ⟨hl1, hl2, hl3⟩ := hh.lt
  obtain ⟨c0, c1, -, -, -⟩ := hh.cells
  have M := Lib.hid (made_any h y w c0)
  have HH := Lib.hid hh
  have KA := Lib.hid hka
  have YNG := Lib.hid hh.young.toO
  obtain ⟨wi, hrun, hit, hwb, hws⟩ := ob_rangeO hh.old.toO
  have HST := Lib.hid (show RemAt w w.heap.size a H.ly H.la H.la [] (.slice none 0 0) wi from ⟨row_of_nil _ _ _, hit, .refl _, hwb⟩)
  clear hh hka hit hwb hws
  go_enter Try.func28, Try.ntmps28
  go_wp2_with fail
  refine M.out.mono ?_
  rintro e w1 ⟨rfl, rfl⟩
  go_wp2_with fail
  clear hrun c0 c1
  go_loopg [3] H.la.length (fun g u W => ∃ (xs : List Int) (todo : List (Int × Ob)), g = todo.length ∧ RemAt w1 w1.heap.size a H.ly H.la todo xs u W)
  case atStart => exact ⟨[], H.la, rfl, HST.out⟩
  case round =>
    obtain ⟨xs, todo, rfl, hst⟩ := hrel
    rcases ob_nextO hst.it (fun k hk e => by omega) 0 with ⟨h0, hrun⟩ | ⟨i, x, o, ra, wa, rc, wc, w', h1, hob, hrun, hit', ht, hs, hentry⟩
    · subst h0
      have hperm : xs.Perm (keysOf (H.la.filter fun p => refsTo H.ly p.2)) := by simpa [keysOf] using hst.perm
      have hlx := hperm.length_eq
      have hle := List.length_filter_le (fun p : Int × Ob => refsTo H.ly p.2) H.la
      simp only [keysOf, List.length_map] at hlx
      have hsx := sort_any w1.heap.size xs.length u3 xs wr hst.own (by omega)
      have HST := Lib.hid hst
      have HP := Lib.hid hperm
      have HSX := Lib.hid hsx
      have HLX := Lib.hid hlx
      clear hst hperm hsx hlx
      go_wp2_with fail
      refine HSX.out.mono ?_
      rintro e w2 ⟨rfl, hown2, hg2⟩
      have HO2 := Lib.hid hown2
      have HG2 := Lib.hid hg2
      clear hown2 hg2
      go_wp2_with fail
      go_ret
      refine ⟨_, rfl, ?_, ?_⟩
      · have he : H.rem = srt xs := (srt_perm HP.out).symm
        rw [he]
        refine ints_of_row HO2.out (by have := HLX.out; omega) ?_
        intro z hz
        have hz1 := HP.out.mem_iff.1 (List.mem_mergeSort.1 hz)
        obtain ⟨p, hp, rfl⟩ := List.mem_map.1 hz1
        exact wf_key (KA.out p (List.mem_filter.1 hp).1)
      · exact HST.out.bel.grown HG2.out HST.out.bel.size (fun q hq => (HST.out.own.lt q hq).1)
    · obtain ⟨hn1, hn2, hn3⟩ := hst.next ht (Nat.le_refl _) hit' h1
      have hmem : (x, o) ∈ H.la → True := fun _ => trivial
      have hlen : (todo.eraseIdx i).length < todo.length := by
        have := (List.getElem?_eq_some_iff.1 h1).1
        rw [List.length_eraseIdx_of_lt this]; omega
      have hlx := hn3.length_eq
      have hle := List.length_filter_le (fun p : Int × Ob => refsTo H.ly p.2) H.la
      simp only [keysOf, List.length_append, List.length_map] at hlx
      have bz : Below w'.heap.size w' (w'.alloc (.cells #[.int .i64 o.op, .int .i64 o.n, .int .i64 o.ar, .slice ra o.refs.length rc, .slice wa o.words.length wc] 25)) := (Below.refl _ _).alloc (Nat.le_refl _) _
      have zz := hn2.size
      have BZ := Lib.hid (below_then hn2 hn2.size bz)
      have OWN := Lib.hid (own_keep hn1 (fun g hg => bz.block g (hn1.lt g hg).2))
      have IT := Lib.hid (hit'.fresh bz)
      have PERM := Lib.hid hn3
      have OBZ := Lib.hid (hob.fresh bz)
      have yz := new0 w' (.cells #[.int .i64 o.op, .int .i64 o.n, .int .i64 o.ar, .slice ra o.refs.length rc, .slice wa o.words.length wc] 25)
      have cz := cellsH yz
      have HLX := Lib.hid hlx
      clear hst ht hn1 hn2 hn3 hit' hob hmem h1 hs bz yz hlx
      go_upto_region 7 with (fail)
      clear hrun hentry
      generalize w'.alloc (.cells #[.int .i64 o.op, .int .i64 o.n, .int .i64 o.ar, .slice ra o.refs.length rc, .slice wa o.words.length wc] 25) = wz at *
      go_wp2_with fail
      clear cz
      obtain ⟨rv, wv, ev, hrf, -⟩ := OBZ.out
      have ev3 : rv = .slice ra o.refs.length rc := by
        simp only [Value.agg.injEq, Array.mk.injEq, List.cons.injEq] at ev
        exact ev.2.2.2.1.symm
      subst ev3
      have HRF := Lib.hid hrf
      have hrl := Ints.len hrf
      clear ev hrf
      go_loopw [3, 26] (fun uu q W => ∃ j : Nat, uu = u3 ∧ j ≤ o.refs.length ∧ q = .int .i64 j ∧ (∀ q, q < j → ∀ z, o.refs[q]? = some z → Go.Proofs.Ytobniolmielikaa.get H.ly z = none) ∧ Below wz.heap.size wz W) (fun _ q _ => o.refs.length - (intOf q).toNat)
      case atStart => exact ⟨0, rfl, Nat.zero_le _, rfl, (fun q hq => by omega), Below.refl _ _⟩
      case round =>
        obtain ⟨j, rfl, hj, rfl, hno, hb⟩ := hrel
        have HNO := Lib.hid hno
        have BW := Lib.hid (below_then BZ.out BZ.out.size hb)
        have zw := BW.out.size
        have OWNW := Lib.hid (own_keep OWN.out (fun g hg => hb.block g (OWN.out.lt g hg).2))
        have ITW := Lib.hid (IT.out.fresh hb)
        by_cases hlt : j < o.refs.length
        · obtain ⟨ad, eA, hc⟩ := Ints.cell (HRF.out.fresh hb) hlt
          have hz := List.getElem?_eq_getElem hlt
          generalize hzz : o.refs[j] = z at hc hz
          have HZ := Lib.hid hz
          have HZZ := Lib.hid hzz
          have HLT := Lib.hid hlt
          subst eA
          obtain ⟨e0, -, -, -, -⟩ := (HH.out.fresh BW.out).cells
          obtain ⟨ly', hma, hka⟩ := YNG.out.turn (below_turn BW.out (fun _ => False)) (fun x => x) (fun _ _ x => x)
          have la0 := run_lookup_map (P := Try.prog) (t := 52) (k := 3) (e := 25) Try.underlying52 Try.underlying3 (zero25 _) hma z true
          have HBI := Lib.hid hb
          clear hno hb hz hzz
          rcases hka.get z with ⟨g3, g4⟩ | ⟨vv, o2, g3, g4, hv⟩
          · have HG := Lib.hid g4
            simp only [g3, Option.getD_none, Option.isSome_none] at la0
            clear hma hka g3 g4
            go_wp2_with fail
            go_roundw
            case rel =>
              refine ⟨j + 1, rfl, by have := HLT.out; omega, by go_num, ?_, ?_⟩
              · intro q hq z' hz'
                by_cases hqj : q = j
                · subst hqj
                  rw [HZ.out] at hz'
                  cases hz'
                  exact HG.out
                · exact HNO.out q (by omega) z' hz'
              · exact HBI.out.alloc HBI.out.size _
            case measure => have := HLT.out; simp [intOf]; omega
          · obtain ⟨ra2, rc2, wa2, wc2, rfl⟩ := hv.open
            have HRT := Lib.hid (refsTo_yes (ly := H.ly) (o := o) HLT.out (by rw [HZZ.out, g4]; rfl))
            simp only [g3, Option.getD_some, Option.isSome_some] at la0
            clear hma hka g3 g4 hv
            have bz2 : Below wr.heap.size wr (wr.alloc (.cells #[.int .i64 o2.op, .int .i64 o2.n, .int .i64 o2.ar, .slice ra2 o2.refs.length rc2, .slice wa2 o2.words.length wc2] 25)) := (Below.refl _ _).alloc (Nat.le_refl _) _
            have OWX := Lib.hid (own_keep OWNW.out (fun g hg => bz2.block g (OWNW.out.lt g hg).2))
            have ITX := Lib.hid (ITW.out.fresh bz2)
            have BWX := Lib.hid (below_then BW.out zw bz2)
            go_upto_region 11 with (fail)
            clear bz2 la0 hc e0
            generalize wr.alloc (.cells #[.int .i64 o2.op, .int .i64 o2.n, .int .i64 o2.ar, .slice ra2 o2.refs.length rc2, .slice wa2 o2.words.length wc2] 25) = wx at *
            have zx := BWX.out.size
            have hpl := PERM.out
            rw [List.filter_cons_of_pos (by simpa using HRT.out)] at hpl
            have hxk : x ∈ keysOf (H.la.filter fun p => refsTo H.ly p.2) := hpl.mem_iff.1 (List.mem_append_right _ (List.mem_cons_self ..))
            have HW := Lib.hid (show (Lit.int .i64 x).wf = true by
              obtain ⟨q, hq, e⟩ := List.mem_map.1 hxk
              rw [← e]
              exact wf_key (KA.out q (List.mem_filter.1 hq).1))
            have hxl : xs.length + 1 ≤ 65536 := by
              have h2 := hpl.length_eq
              simp only [keysOf, List.map_cons, List.length_append, List.length_cons, List.length_map] at h2
              omega
            have HPL := Lib.hid hpl
            clear hpl hxk
            go_wp2_with (at_builtin; refine wpList_append_ints _ rfl _ _ 23 rfl w1.heap.size 3 Try.underlying23 info3 _ xs.length xs rfl (OWX.out.alloc _) (fun _ => True) _ [x] rfl (ints_oneAt (new0 _ _) HW.out) (by simp <;> omega) (by simp; omega) ?_; intro st' w3 hown' hg'; have HO := Lib.hid hown'; have HG := Lib.hid hg'; clear hown' hg')
            go_roundg (todo.eraseIdx i).length
            case measure => exact hlen
            case rel =>
              obtain ⟨k1, k2⟩ := rem_push OWX.out ITX.out hl3 BWX.out HG.out
              refine ⟨xs ++ [x], todo.eraseIdx i, rfl, ⟨by simpa using HO.out, k1, ?_, k2⟩⟩
              have := HPL.out
              rw [List.append_assoc]
              exact this
        · have he : j = o.refs.length := by omega
          have HRT := Lib.hid (refsTo_no (ly := H.ly) (o := o) (by rw [← he]; exact HNO.out))
          clear he hno hb
          go_wp2_with fail
          go_roundg (todo.eraseIdx i).length
          case measure => exact hlen
          case rel =>
            refine ⟨xs, todo.eraseIdx i, rfl, ⟨OWNW.out, ITW.out, ?_, BW.out⟩⟩
            have := PERM.out
            rw [List.filter_cons_of_neg (by simp [HRT.out])] at this
            exact this
end Go.Proofs.Ytobniolmielikaa
