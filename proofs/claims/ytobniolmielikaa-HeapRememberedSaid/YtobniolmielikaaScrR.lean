/- The walk of the law HeapRemembered; no condition. -/
import Derived.Test.YtobniolmielikaaScr8
import Derived.Test.YtobniolmielikaaAdr2
namespace Go.Proofs.Ytobniolmielikaa
open Go.RowKit

/-- Whether a reference leads to the nursery, as the law asks. -/
def youngRef (H : HM) (x : Int) : Bool := ((H.get x).2 == 0) && !(Go.Proofs.Ytobniolmielikaa.get H.la x).isSome
def inRem (H : HM) (k : Int) : Bool := (H.get k).1.refs.any (youngRef H) && (Go.Proofs.Ytobniolmielikaa.get H.la k).isSome
theorem srt_filter (l : List Int) (p : Int → Bool) : (srt l).filter p = srt (l.filter p) := by
  have hp : ∀ l : List Int, (srt l).Pairwise (fun x y => decide (x ≤ y) = true) := fun l =>
    List.pairwise_mergeSort (fun a b c h1 h2 => by simp at *; omega) (fun a b => by simp; omega) l
  refine List.Perm.eq_of_pairwise (le := fun x y => decide (x ≤ y) = true) ?_ ((hp l).filter p) (hp _) ?_
  · intro x y _ _ h1 h2
    simp at h1 h2
    omega
  · exact ((List.mergeSort_perm _ _).filter p).trans (List.mergeSort_perm _ _).symm
theorem young_ref {k : Nat} {H G : HM} (h : Rel k H G) (x : Int) : youngRef H x = (Go.Proofs.Ytobniolmielikaa.get H.ly x).isSome := by
  unfold youngRef HM.get
  cases hy : Go.Proofs.Ytobniolmielikaa.get H.ly x with
  | some o =>
    have hn : Go.Proofs.Ytobniolmielikaa.get H.la x = none := by
      cases ha : Go.Proofs.Ytobniolmielikaa.get H.la x with
      | none => rfl
      | some o' =>
        have h1 := (get_mem h.ndy).1 hy
        have h2 := (get_mem h.nda).1 ha
        exact absurd rfl (h.dj (x, o) (h.ly.mem_iff.1 h1) (x, o') (h.la.mem_iff.1 h2))
    simp [hn]
  | none =>
    cases ha : Go.Proofs.Ytobniolmielikaa.get H.la x with
    | none => simp
    | some o' => simp
theorem rem_eq {k : Nat} {H G : HM} (h : Rel k H G) : H.addrs.filter (inRem H) = H.rem := by
  unfold HM.addrs HM.rem
  rw [srt_filter, List.filter_append]
  have e1 : (keysOf H.ly).filter (inRem H) = [] := by
    refine List.filter_eq_nil_iff.2 fun x hx => ?_
    obtain ⟨p, hp, rfl⟩ := List.mem_map.1 hx
    have hn : Go.Proofs.Ytobniolmielikaa.get H.la p.1 = none := by
      refine get_none.2 fun hin => ?_
      obtain ⟨q, hq, e⟩ := List.mem_map.1 hin
      exact h.dj p (h.ly.mem_iff.1 hp) q (h.la.mem_iff.1 hq) e.symm
    simp [inRem, hn]
  have e2 : (keysOf H.la).filter (inRem H) = keysOf (H.la.filter fun p => refsTo H.ly p.2) := by
    unfold keysOf
    rw [List.filter_map]
    congr 1
    refine List.filter_congr fun p hp => ?_
    have ha : Go.Proofs.Ytobniolmielikaa.get H.la p.1 = some p.2 := (get_mem h.nda).2 hp
    have hn : Go.Proofs.Ytobniolmielikaa.get H.ly p.1 = none := by
      refine get_none.2 fun hin => ?_
      obtain ⟨q, hq, e⟩ := List.mem_map.1 hin
      exact h.dj q (h.ly.mem_iff.1 hq) p (h.la.mem_iff.1 hp) e
    have hg : H.get p.1 = (p.2, 0) := by simp [HM.get, ha, hn]
    simp only [Function.comp, inRem, hg, ha, refsTo, Option.isSome_some, Bool.and_true]
    congr 1
    funext x
    exact young_ref h x
  rw [e1, e2, List.nil_append]
theorem any_snoc {l : List Int} {k : Nat} {x : Int} (f : Int → Bool) (h : l[k]? = some x) : (l.take (k + 1)).any f = ((l.take k).any f || f x) := by
  rw [List.take_add_one, h]
  simp
theorem filter_snoc {l : List Int} {k : Nat} {x : Int} (f : Int → Bool) (h : l[k]? = some x) : (l.take (k + 1)).filter f = (l.take k).filter f ++ if f x = true then [x] else [] := by
  rw [List.take_add_one, h, List.filter_append]
  congr 1
  cases hf : f x <;> simp [hf]
theorem made00 (w : World) : (w.alloc (.cells #[] 3)).ownsRow w.heap.size 3 1 (.slice (some ⟨w.heap.size, 0, none⟩) 0 0) 0 (([] : List Int).map (Value.int .i64)) :=
  World.ownsRow_made w (base := w.heap.size) (e := 3) (size := 1) #[] 0 (Nat.le_refl _) (by simp [maxLen]) rfl

set_option maxRecDepth 4000 in
set_option maxHeartbeats 4000000 in
theorem heapRemembered_law (w : World) (n m : Int) (v : Value) (l : List Opn) (h : Ops w.heap.size w v l) :
    Calls Try.prog 5 #[.agg #[.int .i64 n, .int .i64 m, v]] w fun e w' => e = .returned (.bool true) ∧ Below w.heap.size w w' := by
  obtain ⟨A, c, rfl⟩ := h.shape
  have HS := Lib.hid h
  have bw : Below w.heap.size w (w.alloc (.cells #[.int .i64 n, .int .i64 m, .slice A l.length c] 41)) := (Below.refl _ _).alloc (Nat.le_refl _) _
  have BW := Lib.hid bw
  have x0 := new0 w (.cells #[.int .i64 n, .int .i64 m, .slice A l.length c] 41)
  have X0 := Lib.hid x0
  have c0 := cellsH x0
  have z0 := bw.size
  clear h bw x0
  go_enter Try.func5, Try.ntmps5
  go_upto_region 1 with (fail)
  generalize w.alloc (.cells #[.int .i64 n, .int .i64 m, .slice A l.length c] 41) = w0 at *
  go_wp2_with fail
  refine (bounded_any w.heap.size _ n m _ l (HS.out.below BW.out) z0).mono ?_
  rintro e w1 ⟨rfl, hb⟩
  have B1 := Lib.hid (below_then BW.out z0 hb)
  have x1 := rowB hb X0.out (heap_lt X0.out)
  have c1 := cellsH x1
  have z1 := B1.out.size
  clear hb c0 x1
  cases hbd : bndB l with
  | false =>
    clear hbd
    go_wp2_with fail
    refine (example_any _).mono ?_
    rintro e w2 ⟨rfl, hb⟩
    have B2 := Lib.hid (below_then B1.out z1 hb)
    clear hb
    go_wp2_with fail
    go_ret
    exact ⟨rfl, B2.out⟩
  | true =>
    have BD := Lib.hid hbd
    clear hbd
    go_wp2_with fail
    refine (run_any _ n m _ l ((HS.out.below B1.out).up z1) BD.out).mono ?_
    rintro e w2 ⟨hran, hb⟩
    have B2 := Lib.hid (below_then B1.out z1 hb)
    have z2 := hb.size
    clear hb c1
    rcases hran with ⟨-, rfl⟩ | ⟨h, y, a, r, NV, AV, H, R, rfl, ht, hr⟩
    · go_wp2_with fail
      refine (example_any _).mono ?_
      rintro e w3 ⟨rfl, hb⟩
      have B3 := Lib.hid (below_then B2.out B2.out.size hb)
      clear hb
      go_wp2_with fail
      go_ret
      exact ⟨rfl, B3.out⟩
    · have T2 := Lib.hid ht
      have RL := Lib.hid hr
      have g1 : w.heap.size ≤ h := by have := ht.bh; omega
      have g2 : w.heap.size ≤ y := by have := ht.bY; omega
      have g3 : w.heap.size ≤ a := by have := ht.ba; omega
      clear ht hr
      have hk1 := Lib.hid (RL.out.keysY (by omega))
      have hk2 := Lib.hid (RL.out.keysA (by omega))
      have hl1 := RL.out.ln
      have hl2 := RL.out.le
      have hn2 := RL.out.n2
      have he2 := RL.out.e2
      go_wp2_with fail
      refine (addrs_any _ h y a H T2.out.p hk1.out hk2.out (by omega) (by omega)).mono ?_
      rintro e w3 ⟨u3, rfl, hu, hb⟩
      obtain ⟨A3, k3, rfl⟩ := hu.shape
      have hul := Ints.len hu
      have U3 := Lib.hid hu
      have P3 := Lib.hid (T2.out.p.fresh hb)
      have B3 := Lib.hid (below_then B2.out B2.out.size hb)
      have z3 := B3.out.size
      clear hu hb
      go_upto_region 8 with (fail)
      have bz : Below w3.heap.size w3 (w3.alloc (.cells #[] 3)) := (Below.refl _ _).alloc (Nat.le_refl _) _
      have P4 := Lib.hid (P3.out.fresh bz)
      have B4 := Lib.hid (below_then B3.out z3 bz)
      have U4 := Lib.hid (U3.out.fresh bz)
      have O4 := Lib.hid (made00 w3)
      have G4 := Lib.hid (show Below w3.heap.size w3 (w3.alloc (.cells #[] 3)) from bz)
      clear bz
      generalize w3.alloc (.cells #[] 3) = w4 at *
      go_wp2_with fail
      go_loopw [7, 8] (fun u i wr => ∃ (k : Nat) (xs : List Int), k ≤ H.addrs.length ∧ i = .int .i64 k ∧ xs = (H.addrs.take k).filter (inRem H) ∧ wr.ownsRow w3.heap.size 3 1 u xs.length (xs.map (Value.int .i64)) ∧ Below w3.heap.size w3 wr) (fun _ i _ => H.addrs.length - (intOf i).toNat)
      case atStart => exact ⟨0, [], Nat.zero_le _, rfl, rfl, O4.out, G4.out⟩
      case round =>
        obtain ⟨k, xs, hk, rfl, hxs, hown, hb⟩ := hrel
        have PW := Lib.hid (P3.out.fresh hb)
        have UW := Lib.hid (U3.out.fresh hb)
        have BW := Lib.hid (below_then B3.out z3 hb)
        have G := Lib.hid hb
        have HXS := Lib.hid hxs
        have OWN := Lib.hid hown
        have zg := hb.size
        have zw := BW.out.size
        have hxl : xs.length ≤ k := by
          rw [hxs]
          have h1 := List.length_filter_le (inRem H) (H.addrs.take k)
          have h2 := List.length_take_le k H.addrs
          omega
        clear hxs hown hb
        by_cases hlt : k < H.addrs.length
        · obtain ⟨ad, eA, hc⟩ := Ints.cell UW.out hlt
          have hz := List.getElem?_eq_getElem hlt
          have hwf := Ints.wf UW.out H.addrs[k] (List.getElem_mem _)
          generalize H.addrs[k] = z at hc hz hwf
          have HZ := Lib.hid hz
          have HWF := Lib.hid hwf
          subst eA
          clear hz hwf
          go_wp2_with fail
          refine (get_any _ h y a H z PW.out).mono ?_
          rintro e w5 ⟨v5, rfl, hv5, hb⟩
          obtain ⟨ra5, rc5, wa5, wc5, rfl⟩ := hv5.open
          go_upto_region 12 with (fail)
          have bz : Below w5.heap.size w5 (w5.alloc (.cells #[.int .i64 (H.get z).1.op, .int .i64 (H.get z).1.n, .int .i64 (H.get z).1.ar, .slice ra5 (H.get z).1.refs.length rc5, .slice wa5 (H.get z).1.words.length wc5] 25)) := (Below.refl _ _).alloc (Nat.le_refl _) _
          have y5 := new0 w5 (.cells #[.int .i64 (H.get z).1.op, .int .i64 (H.get z).1.n, .int .i64 (H.get z).1.ar, .slice ra5 (H.get z).1.refs.length rc5, .slice wa5 (H.get z).1.words.length wc5] 25)
          have b5 := below_then hb hb.size bz
          have V6 := Lib.hid (hv5.fresh bz)
          have P6 := Lib.hid (PW.out.fresh b5)
          have G6 := Lib.hid (below_then G.out zg b5)
          have OWN6 := Lib.hid (own_keep OWN.out (fun g hg => b5.block g (OWN.out.lt g hg).2))
          have UW6 := Lib.hid (UW.out.fresh b5)
          have Y6 := Lib.hid y5
          have z5 : w5.heap.size < (w5.alloc (.cells #[.int .i64 (H.get z).1.op, .int .i64 (H.get z).1.n, .int .i64 (H.get z).1.ar, .slice ra5 (H.get z).1.refs.length rc5, .slice wa5 (H.get z).1.words.length wc5] 25)).heap.size := by simp
          clear hv5 hb bz y5 b5 hc
          generalize w5.alloc (.cells #[.int .i64 (H.get z).1.op, .int .i64 (H.get z).1.n, .int .i64 (H.get z).1.ar, .slice ra5 (H.get z).1.refs.length rc5, .slice wa5 (H.get z).1.words.length wc5] 25) = w6 at *
          obtain ⟨rv, wv, ev, hrf, -⟩ := V6.out
          have ev3 : rv = .slice ra5 (H.get z).1.refs.length rc5 := by
            simp only [Value.agg.injEq, Array.mk.injEq, List.cons.injEq] at ev
            exact ev.2.2.2.1.symm
          subst ev3
          have hrl := Ints.len hrf
          have HRF := Lib.hid hrf
          clear ev hrf
          generalize hob : (H.get z).1 = ob at *
          have HOB := Lib.hid hob
          clear hob
          go_wp2_with fail
          go_loopw [11, 12] (fun f q W => ∃ j : Nat, j ≤ ob.refs.length ∧ f = .bool ((ob.refs.take j).any (youngRef H)) ∧ q = .int .i64 j ∧ Below w6.heap.size w6 W) (fun _ q _ => ob.refs.length - (intOf q).toNat)
          case atStart => exact ⟨0, Nat.zero_le _, rfl, rfl, Below.refl _ _⟩
          case round =>
            obtain ⟨j, hj, rfl, rfl, hb⟩ := hrel
            have c9 := cellsH (rowB hb Y6.out (heap_lt Y6.out))
            have P7 := Lib.hid (P6.out.fresh hb)
            have HRF7 := Lib.hid (HRF.out.fresh hb)
            have Y7 := Lib.hid (rowB hb Y6.out (heap_lt Y6.out))
            have B7 := Lib.hid hb
            have z7 := hb.size
            by_cases hlt2 : j < ob.refs.length
            · obtain ⟨ad2, eA, hc⟩ := Ints.cell HRF7.out hlt2
              have hx := List.getElem?_eq_getElem hlt2
              generalize ob.refs[j] = x at hc hx
              have HX := Lib.hid hx
              have HLT2 := Lib.hid hlt2
              subst eA
              clear hx hb
              go_wp2_with fail
              refine (get_any _ h y a H x P7.out).mono ?_
              rintro e w8 ⟨v8, rfl, hv8, hb8⟩
              obtain ⟨ra8, rc8, wa8, wc8, rfl⟩ := hv8.open
              have hbz := World.block_lt_of_cell? _ _ hc
              have hc8 := cellBelow hc hb8 hbz
              have hc8a := fun p => cellAlloc hc8 p
              have y8 := rowB hb8 Y7.out (heap_lt Y7.out)
              have c8a := fun p => cellsH (old1 y8 p)
              have HSN := Lib.hid (any_snoc (youngRef H) HX.out)
              have bA : Below w8.heap.size w8 (w8.alloc (.cells #[.int .i64 (H.get x).1.op, .int .i64 (H.get x).1.n, .int .i64 (H.get x).1.ar, .slice ra8 (H.get x).1.refs.length rc8, .slice wa8 (H.get x).1.words.length wc8] 25)) := (Below.refl _ _).alloc (Nat.le_refl _) _
              have bB := below_then hb8 hb8.size bA
              have PA := Lib.hid (P7.out.fresh bB)
              have BA := Lib.hid (below_then B7.out z7 bB)
              clear hv8 hb8 hbz hc8 y8 bA bB c9 hc
              by_cases herr : (H.get x).2 = 0
              · have hb0 : ((H.get x).2 == 0) = true := by simpa using herr
                rw [herr]
                have HE := Lib.hid herr
                clear herr hb0
                go_wp2_with fail
                refine (old_any _ h y a H x PA.out).mono ?_
                rintro e w9 ⟨rfl, hb9⟩
                have B9 := Lib.hid (below_then BA.out BA.out.size hb9)
                clear hb9 hc8a c8a
                cases hso : (Go.Proofs.Ytobniolmielikaa.get H.la x).isSome with
                | true =>
                  have HY := Lib.hid (show youngRef H x = false by simp [youngRef, hso])
                  clear hso
                  go_wp2_with fail
                  go_roundw
                  case rel => exact ⟨j + 1, by have := HLT2.out; omega, by rw [HSN.out, HY.out, Bool.or_false], by go_num, B9.out⟩
                  case measure => have := HLT2.out; simp [intOf]; omega
                | false =>
                  have HY := Lib.hid (show youngRef H x = true by simp [youngRef, hso, HE.out])
                  clear hso
                  go_wp2_with fail
                  go_roundw
                  case rel => exact ⟨j + 1, by have := HLT2.out; omega, by rw [HSN.out, HY.out, Bool.or_true], by go_num, B9.out⟩
                  case measure => have := HLT2.out; simp [intOf]; omega
              · have hb0 : ((H.get x).2 == 0) = false := by simpa using herr
                have HY := Lib.hid (show youngRef H x = false by simp [youngRef, hb0])
                clear herr
                go_wp2_with fail
                go_roundw
                case rel => exact ⟨j + 1, by have := HLT2.out; omega, by rw [HSN.out, HY.out, Bool.or_false], by go_num, BA.out⟩
                case measure => have := HLT2.out; simp [intOf]; omega
            · have he : j = ob.refs.length := by omega
              rw [he, List.take_length]
              clear he
              have UF := Lib.hid (UW6.out.fresh hb)
              have PF := P7
              have GF := Lib.hid (below_then G6.out G6.out.size hb)
              have OWNF := Lib.hid (own_keep OWN6.out (fun g hg => hb.block g (OWN6.out.lt g hg).2))
              have zf := GF.out.size
              obtain ⟨ad2, eA, hc⟩ := Ints.cell UF.out hlt
              have hzz : H.addrs[k] = z := (List.getElem?_eq_some_iff.1 HZ.out).2
              rw [hzz] at hc
              cases eA
              have HLT := Lib.hid hlt
              clear hb hzz
              cases hany : ob.refs.any (youngRef H) with
              | false =>
                have HI := Lib.hid (show inRem H z = false by simp [inRem, HOB.out, hany])
                clear hany
                go_wp2_with fail
                go_roundw
                case rel => exact ⟨k + 1, xs, by have := HLT.out; omega, by go_num, by rw [filter_snoc _ HZ.out, HI.out]; simpa using HXS.out, OWNF.out, GF.out⟩
                case measure => have := HLT.out; simp [intOf]; omega
              | true =>
                go_wp2_with fail
                refine (old_any _ h y a H z PF.out).mono ?_
                rintro e w9 ⟨rfl, hb9⟩
                have G9 := Lib.hid (below_then GF.out zf hb9)
                have OWN9 := Lib.hid (own_keep OWNF.out (fun g hg => hb9.block g (OWNF.out.lt g hg).2))
                have z9 := G9.out.size
                have hc9 := cellBelow hc hb9 (World.block_lt_of_cell? _ _ hc)
                clear hb9
                cases hso : (Go.Proofs.Ytobniolmielikaa.get H.la z).isSome with
                | false =>
                  have HI := Lib.hid (show inRem H z = false by simp [inRem, hso])
                  clear hany hso hc hc9
                  go_wp2_with fail
                  go_roundw
                  case rel => exact ⟨k + 1, xs, by have := HLT.out; omega, by go_num, by rw [filter_snoc _ HZ.out, HI.out]; simpa using HXS.out, OWN9.out, G9.out⟩
                  case measure => have := HLT.out; simp [intOf]; omega
                | true =>
                  have HI := Lib.hid (show inRem H z = true by simp [inRem, HOB.out, hany, hso])
                  clear hany hso hc
                  go_wp2_with (at_builtin; refine wpList_append_ints _ rfl _ _ 23 rfl w3.heap.size 3 Try.underlying23 info3 _ xs.length xs rfl (OWN9.out.alloc _) (fun _ => True) _ [z] rfl (ints_oneAt (new0 _ _) HWF.out) (by have := HLT.out; simp <;> omega) (by simp; omega) ?_; intro st' w10 hown' hg'; have HO := Lib.hid hown'; have HG := Lib.hid hg'; clear hown' hg')
                  go_roundw
                  case rel => exact ⟨k + 1, xs ++ [z], by have := HLT.out; omega, by go_num, by rw [filter_snoc _ HZ.out, HI.out, HXS.out]; simp, by simpa using HO.out, (G9.out.alloc z9 _).grown HG.out (by simp; omega) (fun q hq => (OWN9.out.lt q hq).1)⟩
                  case measure => have := HLT.out; simp [intOf]; omega
        · have he : k = H.addrs.length := by omega
          have hx2 : xs = H.rem := by rw [HXS.out, he, List.take_length, rem_eq RL.out]
          have HX2 := Lib.hid hx2
          clear he hx2
          go_wp2_with fail
          refine (remembered_any _ h y a H PW.out hk2.out (by omega)).mono ?_
          rintro e w5 ⟨u5, rfl, hu5, hb5⟩
          obtain ⟨A5, k5, rfl⟩ := hu5.shape
          have U5 := Lib.hid hu5
          have OWN5 := Lib.hid (own_keep OWN.out (fun g hg => hb5.block g (OWN.out.lt g hg).2))
          have B5 := Lib.hid (below_then BW.out zw hb5)
          clear hu5 hb5
          have hw5 := Lib.hid (show Ints (w3.heap.size ≤ ·) w5 u7 H.rem from by
            have h1 := ints_of_row OWN5.out (by have := hul; omega) (by
              intro q hq
              rw [HX2.out] at hq
              exact Ints.wf U5.out q hq)
            rw [← HX2.out]
            exact h1)
          obtain ⟨A7, k7, eu⟩ := hw5.out.shape
          rw [eu] at hw5 ⊢
          go_wp2_with fail
          refine (sameInts_any _ _ _ _ _ _ U5.out hw5.out).mono ?_
          rintro e w8 ⟨rfl, n8, rfl⟩
          have B8 := Lib.hid (below_drewN B5.out n8)
          go_wp2_with fail
          refine (example_any _).mono ?_
          rintro e w9 ⟨rfl, hb⟩
          have B9 := Lib.hid (below_then B8.out B8.out.size hb)
          clear hb
          go_wp2_with fail
          go_ret
          exact ⟨rfl, B9.out⟩
end Go.Proofs.Ytobniolmielikaa
