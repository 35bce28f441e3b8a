/- The reference heap: Addrs; no condition. -/
import Derived.Test.YtobniolmielikaaRef11
import Derived.Test.YtobniolmielikaaAdr1
namespace Go.Proofs.Ytobniolmielikaa
open Go.RowKit

def RM.addrs (R : RM) : List Int := keysOf ((absI R.a).foldl insP (absI R.n))

/-- Where the first loop stands. -/
structure RAdr (w : World) (R : RM) (k : Nat) (l' : List It) (u : Value) (W : World) : Prop where
  own : Own w.heap.size W u l'
  abs : absI l' = ((absI R.a).take k).foldl insP (absI R.n)
  len : l'.length = R.n.length + k
  bel : Below w.heap.size w W
theorem own_made2 (w : World) : Own w.heap.size (w.alloc (.cells #[] 97)) (.slice (some ⟨w.heap.size, 0, none⟩) 0 0) [] := own_made0 w
theorem foldP_keys {m acc : List (Int × Ob)} {p : Int × Ob} (h : p ∈ m.foldl insP acc) : p ∈ acc ∨ p ∈ m := by
  induction m generalizing acc with
  | nil => exact .inl h
  | cons q r ih =>
    rcases ih h with h | h
    · rcases List.mem_cons.1 ((insP_perm' acc q).mem_iff.1 h) with rfl | h
      · exact .inr (List.mem_cons_self ..)
      · exact .inl h
    · exact .inr (List.mem_cons_of_mem _ h)
where
  insP_perm' (l : List (Int × Ob)) (p : Int × Ob) : (insP l p).Perm (p :: l) := by
    unfold insP
    refine List.perm_middle.trans ?_
    rw [List.takeWhile_append_dropWhile]

set_option maxHeartbeats 2000000 in
theorem raddrs_any (base : Nat) (w : World) (r : Nat) (NV AV : Value) (R : RM) (hh : RHeapAt base w r NV AV R) (hkn : KeysIn (absI R.n)) (hka : KeysIn (absI R.a)) :
    Calls Try.prog 61 #[.pointer (some ⟨r, 0, none⟩)] w fun e w' => ∃ u, e = .returned u ∧ Ints (w.heap.size ≤ ·) w' u R.addrs ∧ Below w.heap.size w w' := by
  have hlt := hh.lt
  have hns := hh.nsmall
  have has := hh.asmall
  have bz : Below w.heap.size w (w.alloc (.cells #[] 97)) := (Below.refl _ _).alloc (Nat.le_refl _) _
  have HH := Lib.hid hh
  have H0 := hh.fresh bz
  obtain ⟨-, -, c2, -, -⟩ := H0.cells
  have RN := Lib.hid H0.rawN
  have O0 := Lib.hid (own_made2 w)
  have B0 := Lib.hid bz
  have KN := Lib.hid hkn
  have KA := Lib.hid hka
  have z0 := bz.size
  obtain ⟨A1, k1, rfl⟩ := hh.nown.shape
  obtain ⟨A2, k2, rfl⟩ := hh.aown.shape
  clear hh H0 bz hkn hka
  go_enter Try.func61, Try.ntmps61
  go_upto_region 2 with (at_builtin; refine wpList_append_it _ rfl _ _ rfl w.heap.size _ [] rfl O0.out _ _ R.n rfl RN.out (by simp; omega) z0 ?_; intro v1 w1 hown hg; have HO1 := Lib.hid hown; have B1 := Lib.hid (B0.out.grown hg z0 (fun q hq => by cases hq; exact Nat.le_refl _)); clear hown hg)
  clear c2
  have HO1' := Lib.hid (show Own w.heap.size w1 v1 R.n from HO1.out)
  clear HO1
  go_wp2_with fail
  go_loopw [3, 4] (fun u i wr => ∃ (k : Nat) (l' : List It), k ≤ R.a.length ∧ i = .int .i64 k ∧ RAdr w R k l' u wr) (fun _ i _ => R.a.length - (intOf i).toNat)
  case atStart => exact ⟨0, R.n, Nat.zero_le _, rfl, ⟨HO1'.out, rfl, rfl, B1.out⟩⟩
  case round =>
    obtain ⟨k, l', hk, rfl, hm⟩ := hrel
    have hhw := HH.out.fresh hm.bel
    obtain ⟨-, -, -, c3, -⟩ := hhw.cells
    have HM := Lib.hid hm
    have hl' := hm.len
    have zw := hm.bel.size
    have RAW := Lib.hid (hm.own.raw (by omega))
    have RA := Lib.hid hhw.rawA
    have HL := Lib.hid hl'
    clear hm hhw hl'
    by_cases hlt2 : k < R.a.length
    · have hx := List.getElem?_eq_getElem hlt2
      generalize R.a[k] = x at hx
      obtain ⟨b, o, rfl, hat⟩ := RA.out.at hx
      have hfold := fold_snoc insP (absI R.n) (l := absI R.a) (k := k) (x := (x.a, x.o)) (by simp [absI, hx])
      have HF := Lib.hid hfold
      obtain ⟨d0, d1, d2, d3, d4, d5⟩ := hat
      have HLT := Lib.hid hlt2
      clear hfold hx
      go_wp2_with fail
      refine (merge_any _ wr _ l' x RAW.out (by have := HL.out; omega)).mono ?_
      rintro e w2 ⟨v2, rfl, hown2, hb2⟩
      have O2 := Lib.hid hown2
      have B2 := Lib.hid (below_then HM.out.bel zw hb2)
      clear hown2 hb2 d0 d1 d2 d3 d4 d5 c3
      go_wp2_with fail
      go_roundw
      case rel => exact ⟨k + 1, mrg l' x, by have := HLT.out; omega, by go_num, ⟨O2.out.base zw, by rw [abs_mrg, HM.out.abs, HF.out], by rw [mrg_length, HL.out]; omega, B2.out⟩⟩
      case measure => have := HLT.out; simp [intOf]; omega
    · have he : k = R.a.length := by omega
      have habs := HM.out.abs
      rw [he, List.take_of_length_le (by simp [absI])] at habs
      have HAB := Lib.hid habs
      clear he habs
      obtain ⟨A3, k3, rfl⟩ := HM.out.own.shape
      go_upto_region 7 with (fail)
      have bz : Below wr.heap.size wr (wr.alloc (.cells #[] 3)) := (Below.refl _ _).alloc (Nat.le_refl _) _
      have O4 := Lib.hid (World.ownsRow_made wr (base := w.heap.size) (e := 3) (size := 1) #[] 0 zw (by simp [maxLen]) rfl)
      have hlb : l'.length ≤ 131072 := by have := HL.out; omega
      have R4 := Lib.hid (HM.out.own.fresh bz)
      have B4 := Lib.hid (below_then HM.out.bel zw bz)
      clear bz c3
      generalize wr.alloc (.cells #[] 3) = w4 at *
      go_wp2_with fail
      go_loopw [5, 6] (fun u i W => ∃ q : Nat, q ≤ l'.length ∧ i = .int .i64 q ∧ W.ownsRow w.heap.size 3 1 u q (((l'.take q).map (·.a)).map (Value.int .i64)) ∧ Own w.heap.size W (.slice A3 l'.length k3) l' ∧ Below w.heap.size w W) (fun _ i _ => l'.length - (intOf i).toNat)
      case atStart => exact ⟨0, Nat.zero_le _, rfl, O4.out, R4.out, B4.out⟩
      case round =>
        obtain ⟨q, hq, rfl, hown, hits, hb⟩ := hrel
        have HOWN := Lib.hid hown
        have HITS := Lib.hid hits
        have HB := Lib.hid hb
        have zb := hb.size
        have hraw := hits.raw (by have := HL.out; omega)
        clear hown hb
        by_cases hlt3 : q < l'.length
        · have hx := List.getElem?_eq_getElem hlt3
          generalize l'[q] = x at hx
          obtain ⟨b, o, eA, hat⟩ := hraw.at hx
          have c0 := hat.c0
          have HX := Lib.hid hx
          have HLT := Lib.hid hlt3
          have HW := Lib.hid (show (Lit.int .i64 x.a).wf = true by
            have hm : (x.a, x.o) ∈ absI l' := List.mem_map_of_mem (f := fun x : It => (x.a, x.o)) (List.mem_of_getElem? hx)
            rw [HAB.out] at hm
            rcases foldP_keys hm with h1 | h1
            · exact wf_key (KN.out _ h1)
            · exact wf_key (KA.out _ h1))
          subst eA
          clear hx hat hraw hits
          go_wp2_with (at_builtin; refine wpList_append_ints _ rfl _ _ 23 rfl w.heap.size 3 Try.underlying23 info3 _ _ _ rfl (HOWN.out.alloc _) (fun _ => True) _ [x.a] rfl (ints_oneAt (new0 _ _) HW.out) (by have := HL.out; have := HLT.out; simp; omega) (by simp; omega) ?_; intro st' w5 hown' hg'; have HO := Lib.hid hown'; have HG := Lib.hid hg'; clear hown' hg')
          go_roundw
          case rel =>
            have e1 : (l'.take (q + 1)).map (·.a) = (l'.take q).map (·.a) ++ [x.a] := by rw [take_snoc HX.out]; simp
            refine ⟨q + 1, by have := HLT.out; omega, by go_num, ?_, ?_, (HB.out.alloc zb _).grown HG.out (by simp; omega) (fun g hg => (HOWN.out.lt g hg).1)⟩
            · rw [e1]
              simpa using HO.out
            · refine HITS.out.kept fun g hg => ?_
              have h97 := (HITS.out.row hg).2
              have hlg := (HITS.out.lt g hg).2
              refine (HG.out.block g (by simp; omega) (fun e => ?_)).trans (Below.heap_alloc _ _ _ hlg)
              cases h97.two (own_row HOWN.out e.symm).2
          case measure => have := HLT.out; simp [intOf]; omega
        · have he : q = l'.length := by omega
          have hfin := HOWN.out
          rw [he, List.take_length] at hfin
          have HFIN := Lib.hid hfin
          clear he hfin hraw hits
          go_wp2_with fail
          go_ret
          refine ⟨_, rfl, ?_, HB.out⟩
          have hk : R.addrs = l'.map (·.a) := by
            unfold RM.addrs keysOf
            rw [← HAB.out]
            simp [absI, List.map_map, Function.comp_def]
          rw [hk]
          refine ints_of_row HFIN.out (by have := HL.out; omega) ?_
          intro z hz
          obtain ⟨x, hx, rfl⟩ := List.mem_map.1 hz
          have hm : (x.a, x.o) ∈ absI l' := List.mem_map_of_mem (f := fun x : It => (x.a, x.o)) hx
          rw [HAB.out] at hm
          rcases foldP_keys hm with h1 | h1
          · exact wf_key (KN.out _ h1)
          · exact wf_key (KA.out _ h1)
end Go.Proofs.Ytobniolmielikaa
