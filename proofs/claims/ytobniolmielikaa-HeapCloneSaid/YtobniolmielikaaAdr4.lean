/- The reference heap: Remembered; no condition. -/
import Derived.Test.YtobniolmielikaaAdr3
import Derived.Test.YtobniolmielikaaAdr2
namespace Go.Proofs.Ytobniolmielikaa
open Go.RowKit

def RM.rem (R : RM) : List Int := keysOf ((absI R.a).filter fun p => refsTo (absI R.n) p.2)
theorem fnd_is (l : List It) (k : Int) : decide (0 ≤ fnd l k) = (Go.Proofs.Ytobniolmielikaa.get (absI l) k).isSome := by
  rw [get_abs]
  rcases fnd_cases l k with ⟨i, x, h1, -, h2, -⟩ | ⟨h1, h2⟩
  · rw [h1, h2]; simp
  · rw [h1, h2]; simp
theorem any_snoc' {l : List Int} {k : Nat} {x : Int} (f : Int → Bool) (h : l[k]? = some x) : (l.take (k + 1)).any f = ((l.take k).any f || f x) := by
  rw [List.take_add_one, h]
  simp

set_option maxHeartbeats 2000000 in
theorem rremembered_any (base : Nat) (w : World) (r : Nat) (NV AV : Value) (R : RM) (hh : RHeapAt base w r NV AV R) (hka : KeysIn (absI R.a)) :
    Calls Try.prog 62 #[.pointer (some ⟨r, 0, none⟩)] w fun e w' => ∃ u, e = .returned u ∧ Ints (w.heap.size ≤ ·) w' u R.rem ∧ Below w.heap.size w w' := by
  have has := hh.asmall
  have HH := Lib.hid hh
  have KA := Lib.hid hka
  have O0 := Lib.hid (World.ownsRow_made w (base := w.heap.size) (e := 3) (size := 1) #[] 0 (Nat.le_refl _) (by simp [maxLen]) rfl)
  have B0 := Lib.hid (show Below w.heap.size w (w.alloc (.cells #[] 3)) from (Below.refl _ _).alloc (Nat.le_refl _) _)
  obtain ⟨A1, k1, rfl⟩ := hh.nown.shape
  obtain ⟨A2, k2, rfl⟩ := hh.aown.shape
  clear hh hka
  go_enter Try.func62, Try.ntmps62
  go_wp2_with fail
  go_loopw [3, 4] (fun u i W => ∃ (k : Nat) (xs : List Int), k ≤ R.a.length ∧ i = .int .i64 k ∧ xs = keysOf (((absI R.a).take k).filter fun p => refsTo (absI R.n) p.2) ∧ W.ownsRow w.heap.size 3 1 u xs.length (xs.map (Value.int .i64)) ∧ Below w.heap.size w W) (fun _ i _ => R.a.length - (intOf i).toNat)
  case atStart => exact ⟨0, [], Nat.zero_le _, rfl, rfl, O0.out, B0.out⟩
  case round =>
    obtain ⟨k, xs, hk, rfl, hxs, hown, hb⟩ := hrel
    have hhw := HH.out.fresh hb
    obtain ⟨-, -, c2, c3, -⟩ := hhw.cells
    have HHW := Lib.hid hhw
    have RA := Lib.hid hhw.rawA
    have RN := Lib.hid hhw.rawN
    have HXS := Lib.hid hxs
    have OWN := Lib.hid hown
    have HB := Lib.hid hb
    have zb := hb.size
    have hxl : xs.length ≤ R.a.length := by
      rw [hxs]
      have h1 := List.length_filter_le (fun p : Int × Ob => refsTo (absI R.n) p.2) ((absI R.a).take k)
      have h2 := List.length_take_le k (absI R.a)
      simp only [keysOf, List.length_map]
      have h3 := absI_length R.a
      omega
    clear hxs hown hb hhw
    by_cases hlt : k < R.a.length
    · have hx := List.getElem?_eq_getElem hlt
      generalize R.a[k] = x at hx
      obtain ⟨b, o, rfl, hat⟩ := RA.out.at hx
      have hob := HHW.out.aok x (List.mem_of_getElem? hx)
      obtain ⟨rv, wv, ev, hrf, -⟩ := hob
      have ev3 : rv = .slice x.ra x.o.refs.length x.rc := by
        simp only [It.val, Value.agg.injEq, Array.mk.injEq, List.cons.injEq] at ev
        exact ev.2.2.2.1.symm
      subst ev3
      have hrl := Ints.len hrf
      have HRF := Lib.hid hrf
      have HAT := Lib.hid hat
      have HX := Lib.hid hx
      have HLT := Lib.hid hlt
      have c4 := hat.c4
      have hc0 := hat.c0
      clear hx hat ev hrf
      go_wp2_with fail
      go_loopw [5, 6] (fun f q W => ∃ j nn : Nat, j ≤ x.o.refs.length ∧ f = .bool ((x.o.refs.take j).any fun z => (Go.Proofs.Ytobniolmielikaa.get (absI R.n) z).isSome) ∧ q = .int .i64 j ∧ W = wr.drewN nn) (fun _ q _ => x.o.refs.length - (intOf q).toNat)
      case atStart => exact ⟨0, 0, Nat.zero_le _, rfl, rfl, rfl⟩
      case round =>
        obtain ⟨j, nn, hj, rfl, rfl, rfl⟩ := hrel
        have d2 : (wr.drewN nn).cell? ⟨r, 2, none⟩ = some (.slice A1 R.n.length k1) := c2
        have d3 : (wr.drewN nn).cell? ⟨r, 3, none⟩ = some (.slice (some ⟨b, o, none⟩) R.a.length k2) := c3
        have d4 : (wr.drewN nn).cell? ⟨b, o + k * 6 + 4, none⟩ = some (.slice x.ra x.o.refs.length x.rc) := c4
        have d0 : (wr.drewN nn).cell? ⟨b, o + k * 6, none⟩ = some (.int .i64 x.a) := hc0
        have RNn := Lib.hid (show Raw _ (wr.drewN nn) (.slice A1 R.n.length k1) R.n from RN.out.fresh (below_drewN (Below.refl _ _) nn))
        have HRFn := Lib.hid (show Ints _ (wr.drewN nn) (.slice x.ra x.o.refs.length x.rc) x.o.refs from Ints.fresh HRF.out (below_drewN (Below.refl _ _) nn))
        have OWNn := Lib.hid (show (wr.drewN nn).ownsRow w.heap.size 3 1 u3 xs.length (xs.map (Value.int .i64)) from own_keep OWN.out (fun g _ => rfl))
        have HBn := Lib.hid (below_drewN HB.out nn)
        have zn : w.heap.size ≤ (wr.drewN nn).heap.size := zb
        generalize hwn : wr.drewN nn = wn at d2 d3 d4 d0 RNn HRFn OWNn HBn zn ⊢
        have HWN := Lib.hid hwn
        clear hwn
        by_cases hlt2 : j < x.o.refs.length
        · obtain ⟨ad, eA, hc⟩ := Ints.cell HRFn.out hlt2
          have hz := List.getElem?_eq_getElem hlt2
          generalize x.o.refs[j] = z at hc hz
          have HSN := Lib.hid (any_snoc' (fun z => (Go.Proofs.Ytobniolmielikaa.get (absI R.n) z).isSome) hz)
          have HLT2 := Lib.hid hlt2
          rw [eA] at d4
          clear hz eA
          have FI := Lib.hid (fnd_is R.n z)
          cases hany : (x.o.refs.take j).any (fun z => (Go.Proofs.Ytobniolmielikaa.get (absI R.n) z).isSome) with
          | true =>
            rw [hany] at HSN
            clear hany
            go_upto_region 9 with (fail)
            go_quiet (fail)
            go_wp2_with fail
            go_roundw
            case rel => exact ⟨j + 1, nn + nq, by have := HLT2.out; omega, by rw [HSN.out, Bool.true_or], by go_num, by rw [← HWN.out]; simp [World.drewN, Nat.add_assoc]⟩
            case measure => have := HLT2.out; simp [intOf]; omega
          | false =>
            rw [hany] at HSN
            clear hany
            go_upto_region 9 with (fail)
            go_quiet ((go_at_call 99; exact Calls.quiet_of_same (find_any _ _ _ R.n z (RNn.out.fresh (below_drewN (Below.refl _ _) _)))))
            go_wp2_with fail
            go_roundw
            case rel => exact ⟨j + 1, nn + nq, by have := HLT2.out; omega, by rw [HSN.out, Bool.false_or, ← FI.out], by go_num, by rw [← HWN.out]; simp [World.drewN, Nat.add_assoc]⟩
            case measure => have := HLT2.out; simp [intOf]; omega
        · have he : j = x.o.refs.length := by omega
          rw [he, List.take_length]
          have hsnoc : keysOf (((absI R.a).take (k + 1)).filter fun p => refsTo (absI R.n) p.2) = xs ++ if refsTo (absI R.n) x.o = true then [x.a] else [] := by
            rw [HXS.out, List.take_add_one, show (absI R.a)[k]? = some (x.a, x.o) by simp [absI, HX.out], List.filter_append]
            cases hf : refsTo (absI R.n) x.o <;> simp [keysOf, hf]
          have HSN := Lib.hid hsnoc
          have HRT := Lib.hid (show x.o.refs.any (fun z => (Go.Proofs.Ytobniolmielikaa.get (absI R.n) z).isSome) = refsTo (absI R.n) x.o from rfl)
          rw [HRT.out]
          have HWX := Lib.hid (show (Lit.int .i64 x.a).wf = true from wf_key (KA.out (x.a, x.o) (List.mem_map_of_mem (f := fun x : It => (x.a, x.o)) (List.mem_of_getElem? HX.out))))
          clear he hsnoc
          cases hrt : refsTo (absI R.n) x.o with
          | false =>
            rw [hrt] at HSN
            clear hrt
            go_wp2_with fail
            go_roundw
            case rel => exact ⟨k + 1, xs, by have := HLT.out; omega, by go_num, by rw [HSN.out]; simp, OWNn.out, HBn.out⟩
            case measure => have := HLT.out; simp [intOf]; omega
          | true =>
            rw [hrt] at HSN
            clear hrt
            go_wp2_with (at_builtin; refine wpList_append_ints _ rfl _ _ 23 rfl w.heap.size 3 Try.underlying23 info3 _ xs.length xs rfl (OWNn.out.alloc _) (fun _ => True) _ [x.a] rfl (ints_oneAt (new0 _ _) HWX.out) (by simp; omega) (by simp; omega) ?_; intro st' w10 hown' hg'; have HO := Lib.hid hown'; have HG := Lib.hid hg'; clear hown' hg')
            go_roundw
            case rel => exact ⟨k + 1, xs ++ [x.a], by have := HLT.out; omega, by go_num, by rw [HSN.out]; simp, by simpa using HO.out, (HBn.out.alloc zn _).grown HG.out (by simp; omega) (fun q hq => (OWNn.out.lt q hq).1)⟩
            case measure => have := HLT.out; simp [intOf]; omega
    · have he : k = R.a.length := by omega
      have hx2 : xs = R.rem := by rw [HXS.out, List.take_of_length_le (by rw [absI_length]; omega)]; rfl
      have HX2 := Lib.hid hx2
      clear he hx2
      go_wp2_with fail
      go_ret
      refine ⟨_, rfl, ?_, HB.out⟩
      rw [← HX2.out]
      refine ints_of_row OWN.out (by omega) ?_
      intro z hz
      rw [HX2.out] at hz
      obtain ⟨p, hp, rfl⟩ := List.mem_map.1 hz
      exact wf_key (KA.out p (List.mem_filter.1 hp).1)
end Go.Proofs.Ytobniolmielikaa
