/- Texts of the collector's proof, joined: Adr4, Adr5, Gc1, Gc2, Gc3, Gc4, Soft. -/
import Derived.Test.YtobniolmielikaaZah
import Derived.Test.YtobniolmielikaaZag
import Derived.Test.YtobniolmielikaaZac
/- The reference heap: Remembered; no condition. -/
namespace Go.Proofs.Ytobniolmielikaa
open Go.RowKit

def RM.rem (R : RM) : List Int := keysOf ((absI R.a).filter fun p => refsTo (absI R.n) p.2)
theorem fnd_is (l : List It) (k : Int) : decide (0 ≤ fnd l k) = (Go.Proofs.Ytobniolmielikaa.get (absI l) k).isSome := by
  rw [get_abs]
  rcases fnd_cases l k with ⟨i, x, h1, -, h2, -⟩ | ⟨h1, h2⟩
  · rw [h1, h2]; simp
  · rw [h1, h2]; simp
theorem any_snoc' {l : List Int} {k : Nat} {x : Int} (f : Int → Bool) (h : l[k]? = some x) : (l.take (k + 1)).any f = ((l.take k).any f || f x) := by
  rw [List.take_add_one, h]
  simp

set_option maxHeartbeats 2000000 in
theorem rremembered_any (base : Nat) (w : World) (r : Nat) (NV AV : Value) (R : RM) (hh : RHeapAt base w r NV AV R) (hka : KeysIn (absI R.a)) :
    Calls Try.prog 62 #[.pointer (some ⟨r, 0, none⟩)] w fun e w' => ∃ u, e = .returned u ∧ Ints (w.heap.size ≤ ·) w' u R.rem ∧ Below w.heap.size w w' := by
  have has := hh.asmall
  have HH := Lib.hid hh
  have KA := Lib.hid hka
  have O0 := Lib.hid (World.ownsRow_made w (base := w.heap.size) (e := 3) (size := 1) #[] 0 (Nat.le_refl _) (by simp [maxLen]) rfl)
  have B0 := Lib.hid (show Below w.heap.size w (w.alloc (.cells #[] 3)) from (Below.refl _ _).alloc (Nat.le_refl _) _)
  obtain ⟨A1, k1, rfl⟩ := hh.nown.shape
  obtain ⟨A2, k2, rfl⟩ := hh.aown.shape
  clear hh hka
  go_enter Try.func62, Try.ntmps62
  go_wp2_with fail
  go_loopw [3, 4] (fun u i W => ∃ (k : Nat) (xs : List Int), k ≤ R.a.length ∧ i = .int .i64 k ∧ xs = keysOf (((absI R.a).take k).filter fun p => refsTo (absI R.n) p.2) ∧ W.ownsRow w.heap.size 3 1 u xs.length (xs.map (Value.int .i64)) ∧ Below w.heap.size w W) (fun _ i _ => R.a.length - (intOf i).toNat)
  case atStart => exact ⟨0, [], Nat.zero_le _, rfl, rfl, O0.out, B0.out⟩
  case round =>
    obtain ⟨k, xs, hk, rfl, hxs, hown, hb⟩ := hrel
    have hhw := HH.out.fresh hb
    obtain ⟨-, -, c2, c3, -⟩ := hhw.cells
    have HHW := Lib.hid hhw
    have RA := Lib.hid hhw.rawA
    have RN := Lib.hid hhw.rawN
    have HXS := Lib.hid hxs
    have OWN := Lib.hid hown
    have HB := Lib.hid hb
    have zb := hb.size
    have hxl : xs.length ≤ R.a.length := by
      rw [hxs]
      have h1 := List.length_filter_le (fun p : Int × Ob => refsTo (absI R.n) p.2) ((absI R.a).take k)
      have h2 := List.length_take_le k (absI R.a)
      simp only [keysOf, List.length_map]
      have h3 := absI_length R.a
      omega
    clear hxs hown hb hhw
    by_cases hlt : k < R.a.length
    · have hx := List.getElem?_eq_getElem hlt
      generalize R.a[k] = x at hx
      obtain ⟨b, o, rfl, hat⟩ := RA.out.at hx
      have hob := HHW.out.aok x (List.mem_of_getElem? hx)
      obtain ⟨rv, wv, ev, hrf, -⟩ := hob
      have ev3 : rv = .slice x.ra x.o.refs.length x.rc := by
        simp only [It.val, Value.agg.injEq, Array.mk.injEq, List.cons.injEq] at ev
        exact ev.2.2.2.1.symm
      subst ev3
      have hrl := Ints.len hrf
      have HRF := Lib.hid hrf
      have HAT := Lib.hid hat
      have HX := Lib.hid hx
      have HLT := Lib.hid hlt
      have c4 := hat.c4
      have hc0 := hat.c0
      clear hx hat ev hrf
      go_wp2_with fail
      go_loopw [5, 6] (fun f q W => ∃ j nn : Nat, j ≤ x.o.refs.length ∧ f = .bool ((x.o.refs.take j).any fun z => (Go.Proofs.Ytobniolmielikaa.get (absI R.n) z).isSome) ∧ q = .int .i64 j ∧ W = wr.drewN nn) (fun _ q _ => x.o.refs.length - (intOf q).toNat)
      case atStart => exact ⟨0, 0, Nat.zero_le _, rfl, rfl, rfl⟩
      case round =>
        obtain ⟨j, nn, hj, rfl, rfl, rfl⟩ := hrel
        have d2 : (wr.drewN nn).cell? ⟨r, 2, none⟩ = some (.slice A1 R.n.length k1) := c2
        have d3 : (wr.drewN nn).cell? ⟨r, 3, none⟩ = some (.slice (some ⟨b, o, none⟩) R.a.length k2) := c3
        have d4 : (wr.drewN nn).cell? ⟨b, o + k * 6 + 4, none⟩ = some (.slice x.ra x.o.refs.length x.rc) := c4
        have d0 : (wr.drewN nn).cell? ⟨b, o + k * 6, none⟩ = some (.int .i64 x.a) := hc0
        have RNn := Lib.hid (show Raw _ (wr.drewN nn) (.slice A1 R.n.length k1) R.n from RN.out.fresh (below_drewN (Below.refl _ _) nn))
        have HRFn := Lib.hid (show Ints _ (wr.drewN nn) (.slice x.ra x.o.refs.length x.rc) x.o.refs from Ints.fresh HRF.out (below_drewN (Below.refl _ _) nn))
        have OWNn := Lib.hid (show (wr.drewN nn).ownsRow w.heap.size 3 1 u3 xs.length (xs.map (Value.int .i64)) from own_keep OWN.out (fun g _ => rfl))
        have HBn := Lib.hid (below_drewN HB.out nn)
        have zn : w.heap.size ≤ (wr.drewN nn).heap.size := zb
        generalize hwn : wr.drewN nn = wn at d2 d3 d4 d0 RNn HRFn OWNn HBn zn ⊢
        have HWN := Lib.hid hwn
        clear hwn
        by_cases hlt2 : j < x.o.refs.length
        · obtain ⟨ad, eA, hc⟩ := Ints.cell HRFn.out hlt2
          have hz := List.getElem?_eq_getElem hlt2
          generalize x.o.refs[j] = z at hc hz
          have HSN := Lib.hid (any_snoc' (fun z => (Go.Proofs.Ytobniolmielikaa.get (absI R.n) z).isSome) hz)
          have HLT2 := Lib.hid hlt2
          rw [eA] at d4
          clear hz eA
          have FI := Lib.hid (fnd_is R.n z)
          cases hany : (x.o.refs.take j).any (fun z => (Go.Proofs.Ytobniolmielikaa.get (absI R.n) z).isSome) with
          | true =>
            rw [hany] at HSN
            clear hany
            go_upto_region 9 with (fail)
            go_quiet (fail)
            go_wp2_with fail
            go_roundw
            case rel => exact ⟨j + 1, nn + nq, by have := HLT2.out; omega, by rw [HSN.out, Bool.true_or], by go_num, by rw [← HWN.out]; simp [World.drewN, Nat.add_assoc]⟩
            case measure => have := HLT2.out; simp [intOf]; omega
          | false =>
            rw [hany] at HSN
            clear hany
            go_upto_region 9 with (fail)
            go_quiet ((go_at_call 99; exact Calls.quiet_of_same (find_any _ _ _ R.n z (RNn.out.fresh (below_drewN (Below.refl _ _) _)))))
            go_wp2_with fail
            go_roundw
            case rel => exact ⟨j + 1, nn + nq, by have := HLT2.out; omega, by rw [HSN.out, Bool.false_or, ← FI.out], by go_num, by rw [← HWN.out]; simp [World.drewN, Nat.add_assoc]⟩
            case measure => have := HLT2.out; simp [intOf]; omega
        · have he : j = x.o.refs.length := by omega
          rw [he, List.take_length]
          have hsnoc : keysOf (((absI R.a).take (k + 1)).filter fun p => refsTo (absI R.n) p.2) = xs ++ if refsTo (absI R.n) x.o = true then [x.a] else [] := by
            rw [HXS.out, List.take_add_one, show (absI R.a)[k]? = some (x.a, x.o) by simp [absI, HX.out], List.filter_append]
            cases hf : refsTo (absI R.n) x.o <;> simp [keysOf, hf]
          have HSN := Lib.hid hsnoc
          have HRT := Lib.hid (show x.o.refs.any (fun z => (Go.Proofs.Ytobniolmielikaa.get (absI R.n) z).isSome) = refsTo (absI R.n) x.o from rfl)
          rw [HRT.out]
          have HWX := Lib.hid (show (Lit.int .i64 x.a).wf = true from wf_key (KA.out (x.a, x.o) (List.mem_map_of_mem (f := fun x : It => (x.a, x.o)) (List.mem_of_getElem? HX.out))))
          clear he hsnoc
          cases hrt : refsTo (absI R.n) x.o with
          | false =>
            rw [hrt] at HSN
            clear hrt
            go_wp2_with fail
            go_roundw
            case rel => exact ⟨k + 1, xs, by have := HLT.out; omega, by go_num, by rw [HSN.out]; simp, OWNn.out, HBn.out⟩
            case measure => have := HLT.out; simp [intOf]; omega
          | true =>
            rw [hrt] at HSN
            clear hrt
            go_wp2_with (at_builtin; refine wpList_append_ints _ rfl _ _ 23 rfl w.heap.size 3 Try.underlying23 info3 _ xs.length xs rfl (OWNn.out.alloc _) (fun _ => True) _ [x.a] rfl (ints_oneAt (new0 _ _) HWX.out) (by simp; omega) (by simp; omega) ?_; intro st' w10 hown' hg'; have HO := Lib.hid hown'; have HG := Lib.hid hg'; clear hown' hg')
            go_roundw
            case rel => exact ⟨k + 1, xs ++ [x.a], by have := HLT.out; omega, by go_num, by rw [HSN.out]; simp, by simpa using HO.out, (HBn.out.alloc zn _).grown HG.out (by simp; omega) (fun q hq => (OWNn.out.lt q hq).1)⟩
            case measure => have := HLT.out; simp [intOf]; omega
    · have he : k = R.a.length := by omega
      have hx2 : xs = R.rem := by rw [HXS.out, List.take_of_length_le (by rw [absI_length]; omega)]; rfl
      have HX2 := Lib.hid hx2
      clear he hx2
      go_wp2_with fail
      go_ret
      refine ⟨_, rfl, ?_, HB.out⟩
      rw [← HX2.out]
      refine ints_of_row OWN.out (by omega) ?_
      intro z hz
      rw [HX2.out] at hz
      obtain ⟨p, hp, rfl⟩ := List.mem_map.1 hz
      exact wf_key (KA.out p (List.mem_filter.1 hp).1)
end Go.Proofs.Ytobniolmielikaa

/- The law's helper agree; no condition. -/
namespace Go.Proofs.Ytobniolmielikaa
open Go.RowKit

theorem fold_both : ∀ (m acc : List (Int × Ob)), Asc acc → ((acc ++ m).map (·.1)).Nodup → Asc (m.foldl insP acc) ∧ (m.foldl insP acc).Perm (acc ++ m) := by
  intro m
  induction m with
  | nil => intro acc ha _; exact ⟨ha, by simp⟩
  | cons p r ih =>
    intro acc ha hn
    have hp : (insP acc p ++ r).Perm (acc ++ p :: r) := ((insP_perm acc p).append_right r).trans List.perm_middle.symm
    have hn' : ((insP acc p ++ r).map (·.1)).Nodup := (hp.map _).nodup_iff.2 hn
    have hnot : p.1 ∉ acc.map (·.1) := by
      rw [List.map_append, List.nodup_append] at hn
      intro hin
      exact hn.2.2 p.1 hin p.1 (by simp) rfl
    obtain ⟨h1, h2⟩ := ih (insP acc p) (insP_asc ha hnot) hn'
    exact ⟨h1, h2.trans hp⟩
theorem srt_asc {l : List Int} {m : List (Int × Ob)} (ha : Asc m) (hp : l.Perm (keysOf m)) : srt l = keysOf m := by
  have hs : (srt l).Pairwise (fun x y => decide (x ≤ y) = true) :=
    List.pairwise_mergeSort (fun a b c h1 h2 => by simp at *; omega) (fun a b => by simp; omega) l
  refine List.Perm.eq_of_pairwise (le := fun x y => decide (x ≤ y) = true) ?_ hs ?_ ((List.mergeSort_perm _ _).trans hp)
  · intro x y _ _ h1 h2
    simp at h1 h2
    omega
  · unfold keysOf
    rw [List.pairwise_map]
    exact ha.imp fun h => by simp; omega
theorem addrs_eq {k : Nat} {H : HM} {R : RM} (h : Rel k H R.abs) : H.addrs = R.addrs := by
  have hn : ((R.abs.ly ++ R.abs.la).map (·.1)).Nodup := by
    rw [List.map_append, List.nodup_append]
    refine ⟨h.sy.nodup, h.sa.nodup, ?_⟩
    intro x hx y hy e
    obtain ⟨p, hp, rfl⟩ := List.mem_map.1 hx
    obtain ⟨q, hq, rfl⟩ := List.mem_map.1 hy
    exact h.dj p hp q hq e
  obtain ⟨h1, h2⟩ := fold_both R.abs.la R.abs.ly h.sy hn
  refine srt_asc h1 ?_
  have h3 := (h2.map (·.1)).symm
  refine List.Perm.trans ?_ h3
  rw [List.map_append]
  exact (h.ly.map _).append (h.la.map _)
theorem remb_eq {k : Nat} {H : HM} {R : RM} (h : Rel k H R.abs) : H.rem = R.rem := by
  have e1 : (fun p : Int × Ob => refsTo H.ly p.2) = fun p => refsTo (absI R.n) p.2 := by
    funext p
    unfold refsTo
    congr 1
    funext x
    rw [h.gy]
    rfl
  unfold HM.rem RM.rem
  rw [e1]
  exact srt_asc (List.Pairwise.filter _ h.sa) ((h.la.filter _).map _)
theorem get_in {H : HM} {z : Int} (hz : z ∈ H.addrs) : (H.get z).2 = 0 := by
  have hz1 : z ∈ keysOf H.ly ++ keysOf H.la := List.mem_mergeSort.1 hz
  unfold HM.get
  cases hy : Go.Proofs.Ytobniolmielikaa.get H.ly z with
  | some o => rfl
  | none =>
    cases ha : Go.Proofs.Ytobniolmielikaa.get H.la z with
    | some o => rfl
    | none =>
      rcases List.mem_append.1 hz1 with h1 | h1
      · exact absurd h1 (get_none.1 hy)
      · exact absurd h1 (get_none.1 ha)

set_option maxRecDepth 4000 in
set_option maxHeartbeats 4000000 in
theorem agree_any (B : Nat) (w : World) (h y a r : Nat) (NV AV : Value) (H : HM) (R : RM) (t : Two B w h y a r NV AV H R) (hr : Rel 60 H R.abs) :
    Calls Try.prog 29 #[.pointer (some ⟨h, 0, none⟩), .pointer (some ⟨r, 0, none⟩)] w fun e w' => e = .returned (.bool true) ∧ Below w.heap.size w w' := by
  have T0 := Lib.hid t
  have HR := Lib.hid hr
  have hk1 := Lib.hid (hr.keysY (by omega))
  have hk2 := Lib.hid (hr.keysA (by omega))
  have gk1 := Lib.hid (show KeysIn (absI R.n) from fun p hp => hk1.out p (hr.ly.mem_iff.2 hp))
  have gk2 := Lib.hid (show KeysIn (absI R.a) from fun p hp => hk2.out p (hr.la.mem_iff.2 hp))
  have hl1 := hr.ln
  have hl2 := hr.le
  have hn2 := hr.n2
  have he2 := hr.e2
  have E1 := Lib.hid (show R.n.length = H.ly.length by rw [← absI_length]; exact hr.ly.length_eq.symm)
  have E2 := Lib.hid (show R.a.length = H.la.length by rw [← absI_length]; exact hr.la.length_eq.symm)
  have E3 := Lib.hid (show R.s0 = H.nur from hr.nur)
  have E4 := Lib.hid (show R.s1 = H.eld from hr.eld)
  clear t hr
  go_enter Try.func29, Try.ntmps29
  go_wp2_with fail
  refine (count_any w h y a H T0.out.p).mono ?_
  rintro e w1 ⟨rfl, n1, rfl⟩
  have B1 := Lib.hid (below_drewN (Below.refl w.heap.size w) n1)
  generalize w.drewN n1 = w1 at *
  go_wp2_with fail
  refine (rcount_any B w1 r NV AV R (T0.out.q.fresh B1.out)).mono ?_
  rintro e w2 ⟨rfl, n2, rfl⟩
  rw [E1.out, E2.out]
  have B2 := Lib.hid (below_drewN B1.out n2)
  generalize w1.drewN n2 = w2 at *
  go_wp2_with fail
  refine (limits_any w2 h y a H (T0.out.p.fresh B2.out)).mono ?_
  rintro e w3 ⟨rfl, n3, rfl⟩
  have B3 := Lib.hid (below_drewN B2.out n3)
  generalize w2.drewN n3 = w3 at *
  go_wp2_with fail
  refine (addrs_any w3 h y a H (T0.out.p.fresh B3.out) hk1.out hk2.out (by omega) (by omega)).mono ?_
  rintro e w4 ⟨u4, rfl, hu, hb⟩
  obtain ⟨A4, k4, rfl⟩ := hu.shape
  have hul := Ints.len hu
  have U4 := Lib.hid (Ints.mono hu (ok' := fun _ => True) (fun _ _ _ => trivial))
  have B4 := Lib.hid (below_then B3.out B3.out.size hb)
  obtain ⟨c0, c1, -, -, -⟩ := (T0.out.q.fresh B4.out).cells
  rw [E3.out] at c0
  rw [E4.out] at c1
  clear hu hb
  go_wp2_with fail
  refine (room_any w4 h y a H (T0.out.p.fresh B4.out)).mono ?_
  rintro e w5 ⟨rfl, n5, rfl⟩
  have B5 := Lib.hid (below_drewN B4.out n5)
  have U5 := Lib.hid (U4.out.fresh (below_drewN (Below.refl _ _) n5))
  clear c0 c1
  generalize w4.drewN n5 = w5 at *
  go_wp2_with fail
  refine (rroom_any B w5 r NV AV R (T0.out.q.fresh B5.out)).mono ?_
  rintro e w6 ⟨rfl, n6, rfl⟩
  rw [E1.out, E3.out]
  have B6 := Lib.hid (below_drewN B5.out n6)
  have U6 := Lib.hid (U5.out.fresh (below_drewN (Below.refl _ _) n6))
  generalize w5.drewN n6 = w6 at *
  go_wp2_with fail
  refine (raddrs_any B w6 r NV AV R (T0.out.q.fresh B6.out) gk1.out gk2.out).mono ?_
  rintro e w7 ⟨u7, rfl, hu, hb⟩
  rw [← addrs_eq HR.out] at hu
  obtain ⟨A7, k7, rfl⟩ := hu.shape
  have U7 := Lib.hid hu
  have U67 := Lib.hid (U6.out.fresh hb)
  have B7 := Lib.hid (below_then B6.out B6.out.size hb)
  clear hu hb
  go_wp2_with fail
  refine (sameInts_any _ _ _ _ _ _ U67.out U7.out).mono ?_
  rintro e w8 ⟨rfl, n8, rfl⟩
  have B8 := Lib.hid (below_drewN B7.out n8)
  have U8 := Lib.hid (U67.out.fresh (below_drewN (Below.refl _ _) n8))
  generalize w7.drewN n8 = w8 at *
  go_wp2_with fail
  refine (remembered_any w8 h y a H (T0.out.p.fresh B8.out) hk2.out (by omega)).mono ?_
  rintro e w9 ⟨u9, rfl, hu, hb⟩
  obtain ⟨A9, k9, rfl⟩ := hu.shape
  have V9 := Lib.hid hu
  have U9 := Lib.hid (U8.out.fresh hb)
  have B9 := Lib.hid (below_then B8.out B8.out.size hb)
  clear hu hb
  go_wp2_with fail
  refine (rremembered_any B w9 r NV AV R (T0.out.q.fresh B9.out) gk2.out).mono ?_
  rintro e w10 ⟨u10, rfl, hu, hb⟩
  rw [← remb_eq HR.out] at hu
  obtain ⟨A10, k10, rfl⟩ := hu.shape
  have V10 := Lib.hid hu
  have V910 := Lib.hid (V9.out.fresh hb)
  have U10 := Lib.hid (U9.out.fresh hb)
  have B10 := Lib.hid (below_then B9.out B9.out.size hb)
  clear hu hb
  go_wp2_with fail
  refine (sameInts_any _ _ _ _ _ _ V910.out V10.out).mono ?_
  rintro e w11 ⟨rfl, n11, rfl⟩
  have B11 := Lib.hid (below_drewN B10.out n11)
  have U11 := Lib.hid (U10.out.fresh (below_drewN (Below.refl _ _) n11))
  generalize w10.drewN n11 = w11 at *
  go_wp2_with fail
  go_loopw [12] (fun i W => ∃ k : Nat, k ≤ H.addrs.length ∧ i = .int .i64 k ∧ Below w11.heap.size w11 W) (fun i _ => H.addrs.length - (intOf i).toNat)
  case atStart => exact ⟨0, Nat.zero_le _, rfl, Below.refl _ _⟩
  case round =>
    obtain ⟨k, hk, rfl, hb⟩ := hrel
    have HB := Lib.hid hb
    have BW := Lib.hid (below_then B11.out B11.out.size hb)
    have UW := Lib.hid (U11.out.fresh hb)
    have zb := hb.size
    clear hb
    by_cases hlt : k < H.addrs.length
    · obtain ⟨ad, eA, hc⟩ := Ints.cell UW.out hlt
      have hgi := get_in (List.getElem_mem hlt)
      generalize H.addrs[k] = z at hc hgi
      have HLT := Lib.hid hlt
      have HGI := Lib.hid hgi
      subst eA
      clear hgi
      go_wp2_with fail
      refine (get_any _ h y a H z (T0.out.p.fresh BW.out)).mono ?_
      rintro e w12 ⟨v12, rfl, hv, hb⟩
      obtain ⟨ra1, rc1, wa1, wc1, rfl⟩ := hv.open
      have bz : Below w12.heap.size w12 (w12.alloc (.cells #[.int .i64 (H.get z).1.op, .int .i64 (H.get z).1.n, .int .i64 (H.get z).1.ar, .slice ra1 (H.get z).1.refs.length rc1, .slice wa1 (H.get z).1.words.length wc1] 25)) := (Below.refl _ _).alloc (Nat.le_refl _) _
      have y12 := new0 w12 (.cells #[.int .i64 (H.get z).1.op, .int .i64 (H.get z).1.n, .int .i64 (H.get z).1.ar, .slice ra1 (H.get z).1.refs.length rc1, .slice wa1 (H.get z).1.words.length wc1] 25)
      have b12 := below_then hb hb.size bz
      have V13 := Lib.hid (hv.fresh bz)
      have HB13 := Lib.hid (below_then HB.out zb b12)
      have BW13 := Lib.hid (below_then BW.out BW.out.size b12)
      have hc13 := cellBelow hc b12 (World.block_lt_of_cell? _ _ hc)
      have Y13 := Lib.hid y12
      go_upto_region 11 with (fail)
      clear hv hb bz y12 b12 hc
      generalize w12.alloc (.cells #[.int .i64 (H.get z).1.op, .int .i64 (H.get z).1.n, .int .i64 (H.get z).1.ar, .slice ra1 (H.get z).1.refs.length rc1, .slice wa1 (H.get z).1.words.length wc1] 25) = w13 at V13 HB13 BW13 hc13 Y13 ⊢
      rw [HGI.out]
      go_wp2_with fail
      refine (rget_any B w13 r NV AV R z (T0.out.q.fresh BW13.out)).mono ?_
      rintro e w14 ⟨v14, rfl, hv, hb⟩
      have eg : R.get z = H.get z := by rw [rget_abs]; exact (rel_get HR.out z).symm
      rw [eg] at hv ⊢
      obtain ⟨ra2, rc2, wa2, wc2, rfl⟩ := hv.open
      have bz : Below w14.heap.size w14 (w14.alloc (.cells #[.int .i64 (H.get z).1.op, .int .i64 (H.get z).1.n, .int .i64 (H.get z).1.ar, .slice ra2 (H.get z).1.refs.length rc2, .slice wa2 (H.get z).1.words.length wc2] 25)) := (Below.refl _ _).alloc (Nat.le_refl _) _
      have y14 := new0 w14 (.cells #[.int .i64 (H.get z).1.op, .int .i64 (H.get z).1.n, .int .i64 (H.get z).1.ar, .slice ra2 (H.get z).1.refs.length rc2, .slice wa2 (H.get z).1.words.length wc2] 25)
      have b14 := below_then hb hb.size bz
      have V15 := Lib.hid (hv.fresh bz)
      have V135 := Lib.hid (V13.out.fresh b14)
      have HB15 := Lib.hid (below_then HB13.out HB13.out.size b14)
      have BW15 := Lib.hid (below_then BW13.out BW13.out.size b14)
      have hc15 := cellBelow hc13 b14 (World.block_lt_of_cell? _ _ hc13)
      have Y15 := Lib.hid y14
      have Y135 := Lib.hid (rowB b14 Y13.out (heap_lt Y13.out))
      go_upto_region 12 with (fail)
      clear hv hb bz y14 b14 hc13 eg
      generalize w14.alloc (.cells #[.int .i64 (H.get z).1.op, .int .i64 (H.get z).1.n, .int .i64 (H.get z).1.ar, .slice ra2 (H.get z).1.refs.length rc2, .slice wa2 (H.get z).1.words.length wc2] 25) = w15 at V15 V135 HB15 BW15 hc15 Y15 Y135 ⊢
      have i0 := boxCells (show w15.drew.heap[w12.heap.size]? = _ from Y135.out)
      have j0 := boxCells (show w15.drew.heap[w14.heap.size]? = _ from Y15.out)
      have m0 : w15.drew.cell? (ad.add k) = some (.int .i64 z) := hc15
      have EOLD := Lib.hid (show (Go.Proofs.Ytobniolmielikaa.get (keyed R.a) z).isSome = (Go.Proofs.Ytobniolmielikaa.get H.la z).isSome by
        rw [HR.out.ga, show R.abs.la = absI R.a from rfl, get_abs]
        simp)
      have z15 := BW15.out.size
      have HC15 := Lib.hid hc15
      clear hc15
      go_region_held3 (fun w' => (w'.cell? ⟨w12.heap.size, 0, none⟩ = some (.int .i64 (H.get z).1.op) ∧ w'.cell? ⟨w12.heap.size, 1, none⟩ = some (.int .i64 (H.get z).1.n) ∧ w'.cell? ⟨w12.heap.size, 2, none⟩ = some (.int .i64 (H.get z).1.ar) ∧ w'.cell? ⟨w12.heap.size, 3, none⟩ = some (.slice ra1 (H.get z).1.refs.length rc1) ∧ w'.cell? ⟨w12.heap.size, 4, none⟩ = some (.slice wa1 (H.get z).1.words.length wc1)) ∧ (w'.cell? ⟨w14.heap.size, 0, none⟩ = some (.int .i64 (H.get z).1.op) ∧ w'.cell? ⟨w14.heap.size, 1, none⟩ = some (.int .i64 (H.get z).1.n) ∧ w'.cell? ⟨w14.heap.size, 2, none⟩ = some (.int .i64 (H.get z).1.ar) ∧ w'.cell? ⟨w14.heap.size, 3, none⟩ = some (.slice ra2 (H.get z).1.refs.length rc2) ∧ w'.cell? ⟨w14.heap.size, 4, none⟩ = some (.slice wa2 (H.get z).1.words.length wc2)) ∧ w'.cell? (ad.add k) = some (.int .i64 z))
        (first | with_reducible exact ⟨i0, j0, m0⟩ | with_reducible exact ⟨i1, j1, m1⟩ | with_reducible exact ⟨i2, j2, m2⟩)
        (first
          | (go_at_call 21; refine (sameObj_any _ _ _ _ _ (H.get z).1 (V135.out.fresh (Below.refl _ _).drew).at (V15.out.fresh (Below.refl _ _).drew).at).mono ?_; rintro e w16 ⟨rfl, hb16⟩; have hb16 := undrew hb16; have BW16 := Lib.hid (below_then BW15.out z15 hb16); have HB16 := Lib.hid (below_then HB15.out HB15.out.size hb16); have y1 := rowB hb16 Y135.out (heap_lt Y135.out); have y2 := rowB hb16 Y15.out (heap_lt Y15.out); have i1 := boxCells y1; have j1 := boxCells y2; have m1 := cellBelow HC15.out hb16 (World.block_lt_of_cell? _ _ HC15.out); have Y1 := Lib.hid y1; have Y2 := Lib.hid y2; clear hb16 y1 y2)
          | (go_at_call 27; refine (old_any _ h y a H z (T0.out.p.fresh BW16.out)).mono ?_; rintro e w17 ⟨rfl, hb17⟩; have BW17 := Lib.hid (below_then BW16.out BW16.out.size hb17); have HB17 := Lib.hid (below_then HB16.out HB16.out.size hb17); have i2 := boxCells (rowB hb17 Y1.out (heap_lt Y1.out)); have j2 := boxCells (rowB hb17 Y2.out (heap_lt Y2.out)); have m2 := cellBelow m1 hb17 (World.block_lt_of_cell? _ _ m1); clear hb17)
          | (go_at_call 64; refine (rold_any B w17 r NV AV R z (T0.out.q.fresh BW17.out)).mono ?_; rintro e w18 ⟨rfl, rfl⟩; rw [EOLD.out]))
      clear i0 j0 m0 i1 j1 m1 i2 j2 m2
      rename_i hHeld
      clear hHeld
      go_wp2_with fail
      go_roundw
      case rel => exact ⟨k + 1, by have := HLT.out; omega, by go_num, HB17.out⟩
      case measure => have := HLT.out; simp [intOf]; omega
    · clear hk
      go_wp2_with fail
      go_ret
      exact ⟨rfl, BW.out⟩
end Go.Proofs.Ytobniolmielikaa

/- The collector on lists: positions, moved objects, what a collection finds and makes; no program in sight; no condition. -/
namespace Go.Proofs.Ytobniolmielikaa
open Go.RowKit

theorem get_cons {β : Type} (p : Int × β) (q : List (Int × β)) (j : Int) : get (p :: q) j = if j = p.1 then some p.2 else get q j := by
  unfold get
  rw [ix]
  split
  · rfl
  · cases ix q j <;> rfl
theorem get_append {β : Type} : ∀ (l m : List (Int × β)) (k : Int), get (l ++ m) k = match get l k with | some v => some v | none => get m k
  | [], m, k => rfl
  | p :: l, m, k => by
    rw [List.cons_append, get_cons, get_cons, get_append l m k]
    split <;> rfl

/-! ### places -/
theorem atL_cases (l : List Int) (x : Int) : (∃ i : Nat, l[i]? = some x ∧ atL l x = i) ∨ (x ∉ l ∧ atL l x = -1) := by
  unfold atL
  cases h : l.findIdx? (· == x) with
  | some i =>
    obtain ⟨hl, e, _⟩ := List.findIdx?_eq_some_iff_getElem.1 h
    exact .inl ⟨i, by rw [List.getElem?_eq_getElem hl]; simpa using e, rfl⟩
  | none =>
    rw [List.findIdx?_eq_none_iff] at h
    exact .inr ⟨fun hx => by have := h x hx; simp at this, rfl⟩
theorem atL_mem {l : List Int} {x : Int} : 0 ≤ atL l x ↔ x ∈ l := by
  rcases atL_cases l x with ⟨i, h, e⟩ | ⟨h, e⟩
  · rw [e]
    exact ⟨fun _ => List.mem_of_getElem? h, fun _ => by omega⟩
  · rw [e]
    exact ⟨fun h => by omega, fun h' => absurd h' h⟩
theorem atL_at {l : List Int} (hd : l.Nodup) {x : Int} {i : Nat} (h : l[i]? = some x) : atL l x = i := by
  refine atL_some h fun j hj y hy e => ?_
  subst e
  have hp := List.pairwise_iff_getElem.1 hd
  obtain ⟨h1, e1⟩ := List.getElem?_eq_some_iff.1 hy
  obtain ⟨h2, e2⟩ := List.getElem?_eq_some_iff.1 h
  exact hp j i h1 h2 hj (e1.trans e2.symm)
theorem atL_lt {l : List Int} {x : Int} : atL l x < l.length := by
  rcases atL_cases l x with ⟨i, h, e⟩ | ⟨h, e⟩
  · have := (List.getElem?_eq_some_iff.1 h).1
    omega
  · omega
theorem findIdx_same : ∀ (l : List Int) (p q : Int → Bool), (∀ y ∈ l, p y = q y) → l.findIdx? p = l.findIdx? q
  | [], _, _, _ => rfl
  | a :: l, p, q, h => by
    rw [List.findIdx?_cons, List.findIdx?_cons, h a (by simp), findIdx_same l p q (fun y hy => h y (by simp [hy]))]
theorem atL_map {l : List Int} {f : Int → Int} {x : Int} (h : ∀ y ∈ l, f y = f x → y = x) : atL (l.map f) (f x) = atL l x := by
  unfold atL
  rw [List.findIdx?_map]
  have : l.findIdx? ((fun y => y == f x) ∘ f) = l.findIdx? (· == x) := by
    refine findIdx_same _ _ _ fun y hy => ?_
    show (f y == f x) = (y == x)
    rw [Bool.eq_iff_iff, beq_iff_eq, beq_iff_eq]
    exact ⟨fun e' => h y hy e', fun e' => by rw [e']⟩
  rw [this]

/-- An address moved; an object whose refs are moved. -/
def mv (L : List Int) (base : Int) (r : Int) : Int := if 0 ≤ atL L r then base + atL L r else r
def mvO (L : List Int) (base : Int) (o : Ob) : Ob := { o with refs := o.refs.map (mv L base) }
theorem mv_out {L : List Int} {base r : Int} (h : r ∉ L) : mv L base r = r := by
  unfold mv
  rw [if_neg (fun e => h (atL_mem.1 e))]
theorem mv_in {L : List Int} {base r : Int} (h : r ∈ L) : mv L base r = base + atL L r := by
  unfold mv
  rw [if_pos (atL_mem.2 h)]
/-- The places as a map's entries. -/
def posM (base : Int) (L : List Int) : List (Int × Int) := L.zipIdx.map fun p => (p.1, base + p.2)
theorem posM_length (base : Int) (L : List Int) : (posM base L).length = L.length := by simp [posM]
theorem posM_snoc (base : Int) (L : List Int) (a : Int) : posM base (L ++ [a]) = posM base L ++ [(a, base + L.length)] := by simp [posM, List.zipIdx_append]
theorem posM_keys (base : Int) (L : List Int) : (posM base L).map (·.1) = L := by
  simp [posM, List.map_map, Function.comp_def]
theorem posM_get (base : Int) (L : List Int) (i : Nat) : (posM base L)[i]? = (L[i]?).map fun a => (a, base + i) := by
  simp [posM, Function.comp_def]
theorem get_posM {base : Int} {L : List Int} (h : L.Nodup) (r : Int) : get (posM base L) r = if 0 ≤ atL L r then some (base + atL L r) else none := by
  rcases atL_cases L r with ⟨i, hi, e⟩ | ⟨hn, e⟩
  · rw [e, if_pos (by omega)]
    refine (get_mem (by rw [posM_keys]; exact h)).2 (List.mem_of_getElem? (i := i) ?_)
    rw [posM_get, hi]
    rfl
  · rw [e, if_neg (by omega), get_none, posM_keys]
    exact hn
/-- An address by a map. -/
def via (M : List (Int × Int)) (r : Int) : Int := (get M r).getD r
def viaO (M : List (Int × Int)) (o : Ob) : Ob := { o with refs := o.refs.map (via M) }
theorem via_posM {base : Int} {L : List Int} (h : L.Nodup) (r : Int) : via (posM base L) r = mv L base r := by
  unfold via mv
  rw [get_posM h]
  split <;> rfl
theorem viaO_posM {base : Int} {L : List Int} (h : L.Nodup) (o : Ob) : viaO (posM base L) o = mvO L base o := by
  unfold viaO mvO
  congr 1
  apply List.map_congr_left
  intro r _
  exact via_posM h r

/-! ### a heap as a list -/
def HM.all (H : HM) : List (Int × Ob) := H.ly ++ H.la
def HM.ob (H : HM) (a : Int) : Ob := (Go.Proofs.Ytobniolmielikaa.get H.all a).getD ob0
def HM.has (H : HM) (a : Int) : Bool := (Go.Proofs.Ytobniolmielikaa.get H.all a).isSome
def HM.yng (H : HM) (a : Int) : Bool := !(Go.Proofs.Ytobniolmielikaa.get H.la a).isSome
def HM.top (H : HM) : Int := nxt H.all
def HM.fuel (H : HM) (t : List Int) : Nat := vol H.all [] + t.length
theorem HM.get_all (H : HM) (k : Int) : H.get k = match Go.Proofs.Ytobniolmielikaa.get H.all k with | some o => (o, 0) | none => (ob0, 35) := by
  unfold HM.get HM.all
  rw [get_append]
  cases Go.Proofs.Ytobniolmielikaa.get H.ly k with
  | some o => rfl
  | none => rfl
theorem HM.get_ob (H : HM) (k : Int) : (H.get k).1 = H.ob k := by
  rw [HM.get_all]
  unfold HM.ob
  cases Go.Proofs.Ytobniolmielikaa.get H.all k <;> rfl
theorem HM.get_has (H : HM) (k : Int) : ((H.get k).2 == 0) = H.has k := by
  rw [HM.get_all]
  unfold HM.has
  cases Go.Proofs.Ytobniolmielikaa.get H.all k <;> rfl
theorem HM.get_some {H : HM} {k : Int} (h : H.has k = true) : Go.Proofs.Ytobniolmielikaa.get H.all k = some (H.ob k) := by
  unfold HM.ob
  unfold HM.has at h
  cases hg : Go.Proofs.Ytobniolmielikaa.get H.all k with
  | some o => rfl
  | none => rw [hg] at h; cases h
theorem HM.get_none' {H : HM} {k : Int} (h : H.has k = false) : Go.Proofs.Ytobniolmielikaa.get H.all k = none := by
  unfold HM.has at h
  cases hg : Go.Proofs.Ytobniolmielikaa.get H.all k with
  | some o => rw [hg] at h; cases h
  | none => rfl
theorem HM.get_err {H : HM} {k : Int} (h : H.has k = false) : (H.get k).2 = 35 := by
  rw [HM.get_all, HM.get_none' h]
theorem HM.get_ok {H : HM} {k : Int} (h : H.has k = true) : (H.get k).2 = 0 := by
  have := HM.get_has H k
  rw [h] at this
  simpa using this

/-- What can be reached; none: an address is dangling. -/
def HM.live (H : HM) (roots : List Int) : Option (List Int) := if roots.all H.has = true then bfs H.all (fun _ => true) (H.fuel roots) [] roots else none
/-- Where a collection of the nursery begins. -/
def HM.gath (H : HM) : List Int → List Int → Option (List Int)
  | [], q => some q
  | a :: rem, q => if (H.ob a).refs.all H.has = true then H.gath rem (q ++ (H.ob a).refs.filter H.yng) else none
/-- What survives it. -/
def HM.surv (H : HM) (roots : List Int) : Option (List Int) :=
  match H.gath H.rem (roots.filter H.yng) with
  | none => none
  | some q => bfs H.all H.yng (H.fuel q) [] q
/-- The moved objects, and the old ones. -/
def HM.news (H : HM) (L : List Int) : List (Int × Ob) := (posM H.top L).map fun p => (p.2, mvO L H.top (H.ob p.1))
def HM.olds (H : HM) (L : List Int) : List (Int × Ob) := (H.addrs.filter fun a => !H.yng a).map fun a => (a, mvO L H.top (H.ob a))
/-- How a collection ends: its error, and what it moves. -/
def HM.limit (H : HM) (n : Nat) (L : List Int) : Int × List Int := if H.eld < n + L.length then (33, []) else if 4611686018427387904 < H.top + L.length then (39, []) else (0, L)
def HM.minor (H : HM) (roots : List Int) : Int × List Int :=
  if roots.all H.has = true then
    match H.surv roots with
    | none => (35, [])
    | some L => H.limit H.la.length L
  else (35, [])
def HM.major (H : HM) (roots : List Int) : Int × List Int :=
  match H.live roots with
  | none => (35, [])
  | some L => H.limit 0 L
/-- A heap behind a collection. -/
structure Gone (H : HM) (e : Int) (m : List (Int × Ob)) (H' : HM) : Prop where
  no : e ≠ 0 → H' = H
  yes : e = 0 → H'.nur = H.nur ∧ H'.eld = H.eld ∧ H'.ly = [] ∧ H'.la.Perm m ∧ H'.next = max H.next (nxt m)
end Go.Proofs.Ytobniolmielikaa

/- The collector on lists: what a well-formed heap is, its greatest address; no program in sight; no condition. -/
namespace Go.Proofs.Ytobniolmielikaa
open Go.RowKit

/-- A heap that the program can have made. -/
structure Wel (H : HM) : Prop where
  n1 : 1 ≤ H.nur
  n2 : H.nur ≤ 65536
  e1 : 1 ≤ H.eld
  e2 : H.eld ≤ 65536
  ly : H.ly.length ≤ H.nur
  la : H.la.length ≤ H.eld
  nd : (H.all.map (·.1)).Nodup
  fy : fitB H.ly = true
  fa : fitB H.la = true
theorem Wel.ky {H : HM} (h : Wel H) : KeysIn H.ly := fitB_keys h.fy
theorem Wel.ka {H : HM} (h : Wel H) : KeysIn H.la := fitB_keys h.fa
theorem Wel.fall {H : HM} (h : Wel H) : ∀ p ∈ H.all, fit1 p = true := by
  intro p hp
  rcases List.mem_append.1 hp with hp | hp
  · exact List.all_eq_true.1 h.fy p hp
  · exact List.all_eq_true.1 h.fa p hp
theorem Wel.key {H : HM} (h : Wel H) {p : Int × Ob} (hp : p ∈ H.all) : 0 ≤ p.1 ∧ p.1 ≤ 4611686018427387903 ∧ vld p.2 = true := by
  have := h.fall p hp
  unfold fit1 at this
  simp only [Bool.and_eq_true, decide_eq_true_eq] at this
  exact ⟨this.1.1, this.1.2, this.2⟩
theorem Wel.top {H : HM} (h : Wel H) : 0 ≤ H.top ∧ H.top ≤ 4611686018427387904 := by
  obtain ⟨_, h2, h3⟩ := nxt_lt H.all
  exact ⟨h2, h3 _ (by omega) fun p hp => by have := (h.key hp).2.1; omega⟩
theorem Wel.lt_top {H : HM} (_ : Wel H) {a : Int} (ha : H.has a = true) : a < H.top := by
  have hg := HM.get_some ha
  unfold get at hg
  obtain ⟨q, hq, e⟩ := Option.map_eq_some_iff.1 hg
  have := List.mem_of_getElem? (ix_get hq)
  exact (nxt_lt H.all).1 _ this
theorem Wel.addrs {H : HM} (h : Wel H) : ∃ m, Asc m ∧ m.Perm H.all ∧ H.addrs = keysOf m := by
  obtain ⟨h1, h2⟩ := srtI_both h.nd
  refine ⟨srtI H.all, h1, h2, srt_asc h1 ?_⟩
  have := (h2.map (·.1)).symm
  simpa [keysOf, HM.all] using this
theorem Wel.addr_mem {H : HM} (h : Wel H) {a : Int} : a ∈ H.addrs ↔ H.has a = true := by
  obtain ⟨m, h1, h2, h3⟩ := h.addrs
  rw [h3]
  unfold keysOf HM.has
  rw [(h2.map (·.1)).mem_iff]
  cases hg : Go.Proofs.Ytobniolmielikaa.get H.all a with
  | none =>
    have := get_none.1 hg
    simpa using this
  | some o =>
    have := (get_mem h.nd).1 hg
    simp only [Option.isSome_some, iff_true]
    exact List.mem_map_of_mem (f := (·.1)) this
theorem Wel.addrs_nodup {H : HM} (h : Wel H) : H.addrs.Nodup := by
  obtain ⟨m, h1, _, h3⟩ := h.addrs
  rw [h3]
  exact h1.nodup
theorem Wel.addrs_len {H : HM} (h : Wel H) : H.addrs.length ≤ 131072 := by
  obtain ⟨m, _, h2, h3⟩ := h.addrs
  have h4 := h.ly
  have h5 := h.la
  have h6 := h.n2
  have h7 := h.e2
  rw [h3]
  unfold keysOf
  rw [List.length_map, h2.length_eq]
  unfold HM.all
  rw [List.length_append]
  omega
theorem asc_last : ∀ {m : List (Int × Ob)} {n : Nat} {p : Int × Ob}, Asc m → m[n]? = some p → m.length = n + 1 → ∀ q ∈ m, q.1 ≤ p.1 := by
  intro m n p ha hp hl q hq
  obtain ⟨j, hj⟩ := List.getElem?_of_mem hq
  have hjl := (List.getElem?_eq_some_iff.1 hj).1
  by_cases e : j = n
  · subst e
    rw [hp] at hj
    cases hj
    exact Int.le_refl _
  · obtain ⟨h1, e1⟩ := List.getElem?_eq_some_iff.1 hj
    obtain ⟨h2, e2⟩ := List.getElem?_eq_some_iff.1 hp
    have := List.pairwise_iff_getElem.1 ha j n h1 h2 (by omega)
    rw [e1, e2] at this
    omega
theorem Wel.top_nil {H : HM} (h : Wel H) (ha : H.addrs = []) : H.top = 0 := by
  obtain ⟨m, _, h2, h3⟩ := h.addrs
  rw [h3] at ha
  unfold keysOf at ha
  have : m = [] := List.map_eq_nil_iff.1 ha
  subst this
  have : H.all = [] := List.nil_perm.1 h2
  unfold HM.top
  rw [this]
  rfl
theorem Wel.top_last {H : HM} (h : Wel H) {n : Nat} {x : Int} (hx : H.addrs[n]? = some x) (hl : H.addrs.length = n + 1) : H.top = x + 1 := by
  obtain ⟨m, h1, h2, h3⟩ := h.addrs
  rw [h3] at hx hl
  unfold keysOf at hx hl
  rw [List.getElem?_map] at hx
  obtain ⟨p, hp, rfl⟩ := Option.map_eq_some_iff.1 hx
  rw [List.length_map] at hl
  have hle := asc_last h1 hp hl
  unfold HM.top
  rw [← nxt_perm h2]
  obtain ⟨a1, a2, a3⟩ := nxt_lt m
  have b1 := a1 p (List.mem_of_getElem? hp)
  have hpm : p ∈ H.all := h2.mem_iff.1 (List.mem_of_getElem? hp)
  have b2 := a3 (p.1 + 1) (by have := (h.key hpm).1; omega) (fun q hq => by have := hle q hq; omega)
  omega
end Go.Proofs.Ytobniolmielikaa

/- The collector on lists: what Replace answers to what a collection has made; no program in sight; no condition. -/
namespace Go.Proofs.Ytobniolmielikaa
open Go.RowKit

theorem mv_nonneg {L : List Int} {base r : Int} (hb : 0 ≤ base) (hr : 0 ≤ r) : 0 ≤ mv L base r := by
  unfold mv
  split <;> omega
theorem vld_mv {L : List Int} {base : Int} {o : Ob} (hb : 0 ≤ base) (hv : vld o = true) : vld (mvO L base o) = true := by
  unfold vld at hv ⊢
  simp only [Bool.and_eq_true, List.all_eq_true, decide_eq_true_eq] at hv ⊢
  obtain ⟨⟨h1, h2⟩, h3⟩ := hv
  refine ⟨⟨h1, ?_⟩, ?_⟩
  · intro r hr
    obtain ⟨z, hz, rfl⟩ := List.mem_map.1 hr
    exact mv_nonneg hb (h2 z hz)
  · simpa [mvO] using h3
theorem mvO_none {L : List Int} {base : Int} {o : Ob} (h : ∀ r ∈ o.refs, r ∉ L) : mvO L base o = o := by
  unfold mvO
  have : o.refs.map (mv L base) = o.refs := by
    conv => rhs; rw [← List.map_id o.refs]
    apply List.map_congr_left
    intro r hr
    exact mv_out (h r hr)
  rw [this]

theorem news_get (H : HM) (L : List Int) (i : Nat) : (H.news L)[i]? = (L[i]?).map fun a => (H.top + i, mvO L H.top (H.ob a)) := by
  unfold HM.news
  rw [List.getElem?_map, posM_get]
  cases L[i]? <;> rfl
theorem news_length (H : HM) (L : List Int) : (H.news L).length = L.length := by simp [HM.news, posM_length]
theorem news_mem {H : HM} {L : List Int} {p : Int × Ob} (h : p ∈ H.news L) : ∃ (i : Nat) (a : Int), L[i]? = some a ∧ p = (H.top + i, mvO L H.top (H.ob a)) := by
  obtain ⟨i, hi⟩ := List.getElem?_of_mem h
  rw [news_get] at hi
  obtain ⟨a, ha, e⟩ := Option.map_eq_some_iff.1 hi
  exact ⟨i, a, ha, e.symm⟩
theorem news_keys_nodup (H : HM) (L : List Int) : ((H.news L).map (·.1)).Nodup := by
  rw [List.nodup_iff_pairwise_ne, List.pairwise_iff_getElem]
  intro i j hi hj hij e
  have h1 := List.getElem?_eq_getElem hi
  have h2 := List.getElem?_eq_getElem hj
  rw [List.getElem?_map, news_get] at h1 h2
  rw [e] at h1
  rw [← h1] at h2
  simp only [List.length_map, news_length] at hi hj
  rw [List.getElem?_eq_getElem hi, List.getElem?_eq_getElem hj] at h2
  simp at h2
  omega
theorem Wel.vld {H : HM} (h : Wel H) {a : Int} (ha : H.has a = true) : Go.Proofs.Ytobniolmielikaa.vld (H.ob a) = true :=
  (h.key ((get_mem h.nd).1 (HM.get_some ha))).2.2
theorem fit1_news {H : HM} (h : Wel H) {L : List Int} (hL : ∀ a ∈ L, H.has a = true) {i : Nat} {a : Int} (hi : L[i]? = some a) : fit1 (H.top + i, mvO L H.top (H.ob a)) = decide (H.top + i ≤ 4611686018427387903) := by
  have ht := h.top.1
  have hv := vld_mv (L := L) ht (h.vld (hL a (List.mem_of_getElem? hi)))
  unfold fit1
  rw [hv, Bool.and_true]
  have : decide (0 ≤ H.top + (i : Int)) = true := by
    rw [decide_eq_true_eq]; omega
  rw [this, Bool.true_and]
theorem fitB_news {H : HM} (h : Wel H) {L : List Int} (hL : ∀ a ∈ L, H.has a = true) : fitB (H.news L) = decide (H.top + L.length ≤ 4611686018427387904) := by
  have ht := h.top
  by_cases hc : H.top + L.length ≤ 4611686018427387904
  · rw [decide_eq_true hc]
    refine List.all_eq_true.2 fun p hp => ?_
    obtain ⟨i, a, hi, rfl⟩ := news_mem hp
    rw [fit1_news h hL hi, decide_eq_true_eq]
    have := (List.getElem?_eq_some_iff.1 hi).1
    omega
  · rw [decide_eq_false hc]
    have hl : 0 < L.length := by
      rcases Nat.eq_zero_or_pos L.length with e | e
      · rw [e] at hc; omega
      · exact e
    have hlast := List.getElem?_eq_getElem (l := L) (i := L.length - 1) (by omega)
    refine fitB_no (p := (H.top + (L.length - 1 : Nat), mvO L H.top (H.ob (L[L.length - 1]'(by omega))))) (List.mem_of_getElem? (i := L.length - 1) (by rw [news_get, hlast]; rfl)) ?_
    rw [fit1_news h hL hlast, decide_eq_false_iff_not]
    omega
theorem repl_fit {H : HM} {m : List (Int × Ob)} (hn : 0 ≤ H.nur) (hf : fitB m = true) : H.repl [] m = if H.eld < m.length then 33 else 0 := by
  have e1 : fitB [] = true := rfl
  have e2 : meets [] m = false := rfl
  simp only [HM.repl, e1, e2, hf, and_self, if_true]
  have : ¬ H.nur < (([] : List (Int × Ob)).length : Int) := by simp only [List.length_nil]; omega
  simp only [this, false_or]
theorem repl_unfit {H : HM} {m : List (Int × Ob)} (hf : fitB m = false) : H.repl [] m = 1 := by
  simp [HM.repl, hf]
theorem limit_heap {H : HM} {n : Nat} {L : List Int} (h : H.eld < n + L.length) : H.limit n L = (33, []) := by simp [HM.limit, h]
theorem limit_range {H : HM} {n : Nat} {L : List Int} (h : ¬ H.eld < n + L.length) (h2 : 4611686018427387904 < H.top + L.length) : H.limit n L = (39, []) := by simp [HM.limit, h, h2]
theorem limit_ok {H : HM} {n : Nat} {L : List Int} (h : ¬ H.eld < n + L.length) (h2 : ¬ 4611686018427387904 < H.top + L.length) : H.limit n L = (0, L) := by simp [HM.limit, h, h2]
theorem live_found {H : HM} {roots L : List Int} (h : H.live roots = some L) : roots.all H.has = true ∧ bfs H.all (fun _ => true) (H.fuel roots) [] roots = some L := by
  unfold HM.live at h
  split at h
  · exact ⟨by assumption, h⟩
  · cases h
theorem bfs_len {E : List (Int × Ob)} {acc : Int → Bool} : ∀ (n : Nat) (out t L : List Int), bfs E acc n out t = some L → L.length ≤ out.length + n
  | n, out, [], L, h => by
    rw [bfs_nil] at h
    cases h
    omega
  | 0, out, a :: t, L, h => by cases h
  | n + 1, out, a :: t, L, h => by
    by_cases hc : a ∈ out ∨ acc a = false
    · rw [bfs_skip hc] at h
      have := bfs_len n out t L h
      omega
    · simp only [not_or, Bool.not_eq_false] at hc
      cases hg : Go.Proofs.Ytobniolmielikaa.get E a with
      | none => rw [bfs_bad1 hc.1 hc.2 hg] at h; cases h
      | some o =>
        rw [bfs_go hc.1 hc.2 hg] at h
        have := bfs_len n _ _ L h
        simp at this
        omega
theorem news_new {H : HM} {L : List Int} {k : Nat} : H.top + k ∉ ((H.news L).take k).map (·.1) := by
  intro hin
  obtain ⟨p, hp, e⟩ := List.mem_map.1 hin
  obtain ⟨j, hj⟩ := List.getElem?_of_mem hp
  have hjk : j < k := by
    have := (List.getElem?_eq_some_iff.1 hj).1
    simp at this
    omega
  rw [List.getElem?_take_of_lt hjk, news_get] at hj
  obtain ⟨a, _, rfl⟩ := Option.map_eq_some_iff.1 hj
  simp at e
  omega
theorem live_has {H : HM} {roots L : List Int} (h : H.live roots = some L) : L.Nodup ∧ (∀ a ∈ L, H.has a = true) ∧ (∀ a ∈ roots, a ∈ L) ∧ ∀ a ∈ L, ∀ x ∈ (H.ob a).refs, x ∈ L := by
  have hf := bfs_found _ _ _ _ (live_found h).2
  refine ⟨hf.nodup (by simp), fun a ha => ?_, fun a ha => hf.todo a ha rfl, fun a ha x hx => ?_⟩
  · rcases hf.there a ha with h1 | h1
    · simp at h1
    · exact h1.2
  · have hs : H.has a = true := by
      rcases hf.there a ha with h1 | h1
      · simp at h1
      · exact h1.2
    exact hf.closed a ha (by simp) _ (HM.get_some hs) x hx rfl
end Go.Proofs.Ytobniolmielikaa

/- The reference heap on lists: its addresses are those of what it stands for; no program in sight; no condition. -/
namespace Go.Proofs.Ytobniolmielikaa
open Go.RowKit

/-- A reference heap that can have been made. -/
structure RWel (R : RM) : Prop where
  wel : Wel R.abs
  sy : Asc (absI R.n)
  sa : Asc (absI R.a)
  nx : 0 ≤ R.next
theorem raddrs_abs {R : RM} (h : RWel R) : R.addrs = R.abs.addrs := by
  obtain ⟨h1, h2⟩ := fold_both (absI R.a) (absI R.n) h.sy h.wel.nd
  have : R.abs.addrs = keysOf ((absI R.a).foldl insP (absI R.n)) := by
    refine srt_asc h1 ?_
    have := (h2.map (·.1)).symm
    simpa [keysOf, RM.abs] using this
  rw [this]
  rfl
theorem rrem_abs {R : RM} (h : RWel R) : R.rem = R.abs.rem := by
  have : R.abs.rem = keysOf ((absI R.a).filter fun p => refsTo (absI R.n) p.2) := srt_asc (h.sa.filter _) (List.Perm.refl _)
  rw [this]
  rfl
theorem RWel.kn {R : RM} (h : RWel R) : KeysIn (absI R.n) := h.wel.ky
theorem RWel.ka {R : RM} (h : RWel R) : KeysIn (absI R.a) := h.wel.ka

/-- The number behind the greatest. -/
def topL (l : List Int) : Int := l.foldl (fun n x => max n (x + 1)) 0
theorem topL_snoc {l : List Int} {k : Nat} {x : Int} (h : l[k]? = some x) : topL (l.take (k + 1)) = max (topL (l.take k)) (x + 1) := by
  rw [List.take_add_one, h]
  simp [topL]
theorem topL_keys (m : List (Int × Ob)) : topL (keysOf m) = nxt m := by
  unfold topL keysOf nxt
  rw [List.foldl_map]
theorem topL_addrs {H : HM} (h : Wel H) : topL H.addrs = H.top := by
  obtain ⟨m, _, h2, h3⟩ := h.addrs
  rw [h3, topL_keys, nxt_perm h2]
  rfl
theorem topL_le {H : HM} (h : Wel H) (k : Nat) : 0 ≤ topL (H.addrs.take k) ∧ topL (H.addrs.take k) ≤ 4611686018427387904 := by
  suffices ∀ (l : List Int), (∀ x ∈ l, 0 ≤ x ∧ x ≤ 4611686018427387903) → ∀ n : Int, 0 ≤ n ∧ n ≤ 4611686018427387904 → 0 ≤ l.foldl (fun n x => max n (x + 1)) n ∧ l.foldl (fun n x => max n (x + 1)) n ≤ 4611686018427387904 by
    refine this _ (fun x hx => ?_) 0 (by omega)
    obtain ⟨m, _, h2, h3⟩ := h.addrs
    have hx' := List.mem_of_mem_take hx
    rw [h3] at hx'
    obtain ⟨p, hp, rfl⟩ := List.mem_map.1 hx'
    have := h.key (h2.mem_iff.1 hp)
    omega
  intro l
  induction l with
  | nil => intro _ n hn; exact hn
  | cons x l ih =>
    intro hl n hn
    have := hl x (by simp)
    exact ih (fun y hy => hl y (by simp [hy])) _ (by show 0 ≤ max n (x + 1) ∧ max n (x + 1) ≤ _; omega)
end Go.Proofs.Ytobniolmielikaa

/- Copies of objects whose refs may be stored into; no condition. -/
namespace Go.Proofs.Ytobniolmielikaa
open Go.RowKit

/-- v is nil, or lies at the head of a row of ints that is not frozen. -/
def Soft (w : World) (v : Value) : Prop := v = .slice none 0 0 ∨ ∃ g m c cs, v = .slice (some ⟨g, 0, none⟩) m c ∧ w.heap[g]? = some (.cells cs 3)
/-- .. the refs of an object. -/
def SoftO (w : World) (v : Value) : Prop := ∃ a b c d e, v = .agg #[a, b, c, d, e] ∧ Soft w d
theorem soft_own {w : World} {B n : Nat} {v : Value} {xs : List Value} (h : w.ownsRow B 3 1 v n xs) : Soft w v := by
  rcases h.2 with ⟨e, _⟩ | ⟨g, cap, cur, e, _, hb, _⟩
  · exact .inl e
  · exact .inr ⟨g, n, cap, cur, e, hb⟩
theorem Soft.turn {w w' : World} {v : Value} {S : Nat → Prop} (h : Soft w v) (ht : Turn S w w') (hn : ∀ g, IsRow 3 w g → ¬ S g) : Soft w' v := by
  rcases h with h | ⟨g, m, c, cs, e, hg⟩
  · exact .inl h
  · exact .inr ⟨g, m, c, cs, e, rowT ht hg (hn g ⟨cs, _, hg⟩)⟩
theorem Soft.fresh {w w' : World} {v : Value} (h : Soft w v) (hb : Below w.heap.size w w') : Soft w' v :=
  h.turn (below_turn hb fun _ => False) (fun _ _ x => x)
theorem SoftO.turn {w w' : World} {v : Value} {S : Nat → Prop} (h : SoftO w v) (ht : Turn S w w') (hn : ∀ g, IsRow 3 w g → ¬ S g) : SoftO w' v := by
  obtain ⟨a, b, c, d, e, rfl, hs⟩ := h
  exact ⟨a, b, c, d, e, rfl, hs.turn ht hn⟩
theorem SoftO.fresh {w w' : World} {v : Value} (h : SoftO w v) (hb : Below w.heap.size w w') : SoftO w' v :=
  h.turn (below_turn hb fun _ => False) (fun _ _ x => x)
theorem softO0 (w : World) (a b c e : Value) : SoftO w (.agg #[a, b, c, .slice none 0 0, e]) := ⟨_, _, _, _, _, rfl, .inl rfl⟩

set_option maxHeartbeats 400000 in
theorem clone_soft (ok : Nat → Prop) (v : Value) (xs : List Int) (w : World) (h : Ints ok w v xs) :
    Calls Try.prog 93 #[v] w fun e w' => ∃ v', e = .returned v' ∧ IntsR 3 w.heap.size w' v' xs ∧ Soft w' v' ∧ Below w.heap.size w w' := by
  have h0 := Lib.hid h
  obtain ⟨A, cap, rfl, h1, h2, h3, h4, h5⟩ := h
  cases A with
  | none =>
    have hc := h3 rfl
    have hy : xs = [] := List.eq_nil_of_length_eq_zero (by omega)
    subst hc hy
    clear h1 h2 h3 h4 h5
    have hn := fun w => Lib.run_eql_slice_nil (P := Try.prog) w 23 3 none 0 0 0 0 Try.underlying23
    go_enter Try.func93, Try.ntmps93
    go_wp2
    go_ret
    exact ⟨_, rfl, IntsR.nil _ _ _, .inl rfl, Below.refl _ _⟩
  | some ad =>
    have hl := h5.1
    have hw := h5.2
    clear h1 h2 h3 h4 h5
    have Hw := Lib.hid hw
    clear hw
    have hn := fun w => Lib.run_eql_slice_nil (P := Try.prog) w 23 3 (some ad) xs.length cap 0 0 Try.underlying23
    go_enter Try.func93, Try.ntmps93
    go_wp2_with (at_builtin; refine wpList_append_ints _ rfl _ _ 23 rfl w.heap.size 3 Try.underlying23 info3 _ 0 [] rfl (World.ownsRow_made w #[] 0 (Nat.le_refl _) (by simp [maxLen]) rfl) ok _ xs rfl (h0.out.alloc _) (by omega) (by simp) ?_; intro v' w' hown hg)
    go_ret
    exact ⟨_, rfl, intsR_of_row (n := xs.length) (by simpa using hown) (by omega) Hw.out, soft_own (by simpa using hown), ((Below.refl _ _).alloc (Nat.le_refl _) _).grown hg (by simp) (fun k hk => by cases hk; exact Nat.le_refl _)⟩

set_option maxHeartbeats 400000 in
theorem copied_soft (ok : Nat → Prop) (v : Value) (o : Ob) (w : World) (h : ObAt ok w v o) :
    Calls Try.prog 54 #[v] w fun e w' => ∃ v', e = .returned v' ∧ ObR w.heap.size w' v' o ∧ SoftO w' v' ∧ Below w.heap.size w w' := by
  obtain ⟨rv, wv, rfl, h1, h2⟩ := h
  obtain ⟨ra, rc, rfl⟩ := h1.shape
  obtain ⟨wa, wc, rfl⟩ := h2.shape
  have H1 := Lib.hid h1
  have H2 := Lib.hid h2
  clear h1 h2
  go_enter Try.func54, Try.ntmps54
  go_wp2_with fail
  refine (clone_soft ok _ _ _ ((H1.out.alloc _).alloc _)).mono ?_
  rintro e w1 ⟨r1, rfl, i1, s1, b1⟩
  have SF := Lib.hid s1
  clear s1
  obtain ⟨ra1, rc1, rfl⟩ := Ints.shape i1
  have I1 := Lib.hid i1
  clear i1
  have h1 := rowB b1 (new20 _ _ _) (by simp <;> omega)
  have h2 := rowB b1 (new21 _ _ _) (by simp <;> omega)
  have ROW := Lib.hid (show ∀ g, IsRow 3 w1 g → ¬ (g = w.heap.size ∨ g = w.heap.size + 1) from by
    rintro g ⟨cs, f, hg⟩ (rfl | rfl)
    · rw [h1] at hg; simp at hg
    · rw [h2] at hg; simp at hg)
  have bw := below_then (((Below.refl w.heap.size w).alloc (Nat.le_refl _) _).alloc (by simp) _) (by simp <;> omega) b1
  have c1 := cellsH h1
  have c2 := cellsH h2
  have f1 := freeH h1
  have f2 := freeH h2
  go_wp2_with fail
  refine (clone_any ok _ _ _ (H2.out.fresh (bw.setCell (Nat.le_refl _) _))).mono ?_
  rintro e w2 ⟨r2, rfl, i2, b2⟩
  obtain ⟨ra2, rc2, rfl⟩ := Ints.shape i2
  have I2 := Lib.hid i2
  clear i2 c1 c2 f1 f2
  have h3 := rowB b2 (rowSet h1 3 _) (heap_lt (rowSet h1 3 _))
  have h4 := rowB b2 (rowSetNe (k := w.heap.size) h2 (by omega) _) (heap_lt (rowSetNe (k := w.heap.size) (i := 3) h2 (by omega) _))
  clear h1 h2
  have c1 := cellsH h3
  have c2 := cellsH h4
  have f1 := freeH h3
  have f2 := freeH h4
  go_wp2_with fail
  clear c1 c2 f1 f2
  have h5 := rowSet (rowSet (rowSet (rowSet (rowSet (rowSetNe (k := w.heap.size) (i := 4) h4 (by omega) (.slice ra2 o.words.length rc2)) 0 (.int .i64 o.op)) 1 (.int .i64 o.n)) 2 (.int .i64 o.ar)) 3 (.slice ra1 o.refs.length rc1)) 4 (.slice ra2 o.words.length rc2)
  have c5 := cellsH h5
  have z1 : w.heap.size ≤ w1.heap.size := bw.size
  have z2 : w1.heap.size ≤ w2.heap.size := by have := b2.size; simpa using this
  have bF : Below w.heap.size w _ := ((((((below_then (bw.setCell (Nat.le_refl _) (.slice ra1 o.refs.length rc1)) (by simpa using z1) b2).setCell (p := ⟨w.heap.size, 4, none⟩) (Nat.le_refl _) (.slice ra2 o.words.length rc2)).setCell (p := ⟨w.heap.size + 1, 0, none⟩) (by simp) (.int .i64 o.op)).setCell (p := ⟨w.heap.size + 1, 1, none⟩) (by simp) (.int .i64 o.n)).setCell (p := ⟨w.heap.size + 1, 2, none⟩) (by simp) (.int .i64 o.ar)).setCell (p := ⟨w.heap.size + 1, 3, none⟩) (by simp) (.slice ra1 o.refs.length rc1)).setCell (p := ⟨w.heap.size + 1, 4, none⟩) (by simp) (.slice ra2 o.words.length rc2)
  refine bodyPost_ret (v := .agg #[.int .i64 o.op, .int .i64 o.n, .int .i64 o.ar, .slice ra1 o.refs.length rc1, .slice ra2 o.words.length rc2]) (by simp [results, Try.results54, go_sem, c5]) rfl ⟨_, rfl, ⟨_, _, rfl, ?_, ?_⟩, ⟨_, _, _, _, _, rfl, ?_⟩, bF⟩
  · refine IntsR.base (IntsR.turn (S := fun k => k = w.heap.size ∨ k = w.heap.size + 1) I1.out ?_ (fun b hb _ hs => by simp at hb; omega)) (by simp <;> omega)
    exact (((((((Turn.refl _ _).setCell (.inl rfl) _).then b2).setCell (.inl rfl) _).setCell (.inr rfl) _).setCell (.inr rfl) _).setCell (.inr rfl) _).setCell (.inr rfl) _ |>.setCell (.inr rfl) _
  · refine IntsR.base (IntsR.turn (S := fun k => k = w.heap.size ∨ k = w.heap.size + 1) I2.out ?_ (fun b hb _ hs => by have := b1.size; simp at hb this; omega)) (by simp <;> omega)
    exact (((((Turn.refl _ _).setCell (.inl rfl) _).setCell (.inr rfl) _).setCell (.inr rfl) _).setCell (.inr rfl) _).setCell (.inr rfl) _ |>.setCell (.inr rfl) _
  · refine SF.out.turn (S := fun k => k = w.heap.size ∨ k = w.heap.size + 1) (((((((((Turn.refl _ _).setCell (.inl rfl) _).then b2).setCell (.inl rfl) _).setCell (.inr rfl) _).setCell (.inr rfl) _).setCell (.inr rfl) _).setCell (.inr rfl) _).setCell (.inr rfl) _) ?_
    intro g hg
    exact ROW.out g hg

set_option maxHeartbeats 400000 in
theorem get_soft (w : World) (h y a : Nat) (H : HM) (k : Int) (hh : HeapAt w h y a H) :
    Calls Try.prog 18 #[.pointer (some ⟨h, 0, none⟩), .int .i64 k] w fun e w' => ∃ v, e = .returned (.tuple #[v, .int .i64 (H.get k).2]) ∧ ObR w.heap.size w' v (H.get k).1 ∧ SoftO w' v ∧ Below w.heap.size w w' := by
  have hlt := heap_lt hh.row
  have c := cellsH hh.row
  have c0 : w.cell? ⟨h, 0, none⟩ = some (.map (some y)) := c 0
  have c1 : w.cell? ⟨h, 1, none⟩ = some (.map (some a)) := c 1
  clear c
  have c0' := cellAlloc c0
  have c1' := cellAlloc c1
  have M := Lib.hid (fun o => made_any h y (w.alloc o) (c0' o))
  clear c0 c1
  have HH := Lib.hid hh
  obtain ⟨ly, hmy, hky⟩ := hh.young
  obtain ⟨la, hma, hka⟩ := hh.old
  clear hh
  have ly1 := fun o => run_lookup_map (P := Try.prog) (t := 52) (k := 3) (e := 25) Try.underlying52 Try.underlying3 (zero25 _) (hmy.alloc o) k true
  have la1 := fun o p => run_lookup_map (P := Try.prog) (t := 52) (k := 3) (e := 25) Try.underlying52 Try.underlying3 (zero25 _) ((hma.alloc o).alloc p) k true
  rcases hky.get k with ⟨g1, g2⟩ | ⟨v, o, g1, g2, hv⟩
  · simp only [g1, Option.getD_none, Option.isSome_none] at ly1
    rcases hka.get k with ⟨g3, g4⟩ | ⟨v, o, g3, g4, hv⟩
    · have HG := Lib.hid (show H.get k = (ob0, 35) by simp [HM.get, g2, g4])
      simp only [g3, Option.getD_none, Option.isSome_none] at la1
      clear hmy hma hky hka g1 g2 g3 g4
      go_enter Try.func18, Try.ntmps18
      go_wp2_with fail
      refine (M.out _).mono ?_
      rintro e w1 ⟨rfl, rfl⟩
      go_wp2_with fail
      rw [HG.out]
      refine bodyPost_ret (v := .tuple #[.agg #[.int .i64 0, .int .i64 0, .int .i64 0, .slice none 0 0, .slice none 0 0], .int .i64 35]) (by simp [results, Try.results18, go_sem]) rfl ⟨_, rfl, obR0 _ _, softO0 _ _ _ _ _, (((Below.refl w.heap.size w).alloc (Nat.le_refl _) _).alloc (by simp) _).alloc (by simp <;> omega) _⟩
    · have HG := Lib.hid (show H.get k = (o, 0) by simp [HM.get, g2, g4])
      obtain ⟨ra, rc, wa, wc, ev⟩ := hv.open
      have HV := Lib.hid hv
      clear hv hmy hma hky hka g2 g4
      subst ev
      simp only [g3, Option.getD_some, Option.isSome_some] at la1
      clear g1 g3
      go_enter Try.func18, Try.ntmps18
      go_wp2_with fail
      refine (M.out _).mono ?_
      rintro e w1 ⟨rfl, rfl⟩
      go_wp2_with fail
      have b0 : Below w.heap.size w _ := (((Below.refl w.heap.size w).alloc (Nat.le_refl _) (.cells #[.int .i64 0, .int .i64 0, .int .i64 0, .slice none 0 0, .slice none 0 0] 25)).alloc (by simp) (.cells #[.int .i64 0, .int .i64 0, .int .i64 0, .slice none 0 0, .slice none 0 0] 25)).alloc (by simp <;> omega) (.cells #[.int .i64 o.op, .int .i64 o.n, .int .i64 o.ar, .slice ra o.refs.length rc, .slice wa o.words.length wc] 25)
      refine (copied_soft _ _ o _ (HV.out.fresh b0).at).mono ?_
      rintro e w3 ⟨v', rfl, hv', hsv, hb'⟩
      have SV := Lib.hid hsv
      clear hsv
      obtain ⟨ra', rc', wa', wc', ev'⟩ := hv'.open
      have HV' := Lib.hid hv'
      clear hv'
      subst ev'
      have hrow := rowB hb' (new30 _ _ _ _) (by simp <;> omega)
      have B' := Lib.hid hb'
      have B0 := Lib.hid b0
      clear hb' b0
      have c := cellsH hrow
      have f := freeH hrow
      have HR := Lib.hid hrow
      clear hrow
      go_wp2_with fail
      clear c f
      have c := cellsH (set5_row HR.out (.int .i64 o.op) (.int .i64 o.n) (.int .i64 o.ar) (.slice ra' o.refs.length rc') (.slice wa' o.words.length wc'))
      unfold set5 at c
      rw [HG.out]
      refine bodyPost_ret (v := .tuple #[.agg #[.int .i64 o.op, .int .i64 o.n, .int .i64 o.ar, .slice ra' o.refs.length rc', .slice wa' o.words.length wc'], .int .i64 0]) (by simp [results, Try.results18, go_sem, c]) rfl ⟨_, rfl, ?_, ?_, ?_⟩
      · refine ((HV'.out.turn (set5_turn (S := fun k => k = w.heap.size) (Turn.refl _ _) rfl _ _ _ _ _) ?_).base (by simp <;> omega))
        intro b hb _ e
        simp at hb
        omega
      · exact SV.out.turn (set5_turn (S := fun k => k = w.heap.size) (Turn.refl _ _) rfl _ _ _ _ _) (fun g hg e => by
          obtain ⟨cs, f, hg⟩ := hg
          rw [e, HR.out] at hg
          simp at hg)
      · exact set5_below (below_then B0.out (by simp <;> omega) B'.out) (Nat.le_refl _) _ _ _ _ _
  · have HG := Lib.hid (show H.get k = (o, 0) by simp [HM.get, g2])
    obtain ⟨ra, rc, wa, wc, ev⟩ := hv.open
    have HV := Lib.hid hv
    clear hv hmy hma hky hka la1 g2
    subst ev
    simp only [g1, Option.getD_some, Option.isSome_some] at ly1
    clear g1
    go_enter Try.func18, Try.ntmps18
    go_wp2_with fail
    refine (M.out _).mono ?_
    rintro e w1 ⟨rfl, rfl⟩
    go_wp2_with fail
    have b0 : Below w.heap.size w _ := ((Below.refl w.heap.size w).alloc (Nat.le_refl _) (.cells #[.int .i64 0, .int .i64 0, .int .i64 0, .slice none 0 0, .slice none 0 0] 25)).alloc (by simp) (.cells #[.int .i64 o.op, .int .i64 o.n, .int .i64 o.ar, .slice ra o.refs.length rc, .slice wa o.words.length wc] 25)
    refine (copied_soft _ _ o _ (HV.out.fresh b0).at).mono ?_
    rintro e w3 ⟨v', rfl, hv', hsv, hb'⟩
    have SV := Lib.hid hsv
    clear hsv
    obtain ⟨ra', rc', wa', wc', ev'⟩ := hv'.open
    have HV' := Lib.hid hv'
    clear hv'
    subst ev'
    have hrow := rowB hb' (new20 _ _ _) (by simp <;> omega)
    have B' := Lib.hid hb'
    have B0 := Lib.hid b0
    clear hb' b0
    have c := cellsH hrow
    have f := freeH hrow
    have HR := Lib.hid hrow
    clear hrow
    go_wp2_with fail
    clear c f
    have c := cellsH (set5_row HR.out (.int .i64 o.op) (.int .i64 o.n) (.int .i64 o.ar) (.slice ra' o.refs.length rc') (.slice wa' o.words.length wc'))
    unfold set5 at c
    rw [HG.out]
    refine bodyPost_ret (v := .tuple #[.agg #[.int .i64 o.op, .int .i64 o.n, .int .i64 o.ar, .slice ra' o.refs.length rc', .slice wa' o.words.length wc'], .int .i64 0]) (by simp [results, Try.results18, go_sem, c]) rfl ⟨_, rfl, ?_, ?_, ?_⟩
    · refine ((HV'.out.turn (set5_turn (S := fun k => k = w.heap.size) (Turn.refl _ _) rfl _ _ _ _ _) ?_).base (by simp <;> omega))
      intro b hb _ e
      simp at hb
      omega
    · exact SV.out.turn (set5_turn (S := fun k => k = w.heap.size) (Turn.refl _ _) rfl _ _ _ _ _) (fun g hg e => by
        obtain ⟨cs, f, hg⟩ := hg
        rw [e, HR.out] at hg
        simp at hg)
    · exact set5_below (below_then B0.out (by simp <;> omega) B'.out) (Nat.le_refl _) _ _ _ _ _
end Go.Proofs.Ytobniolmielikaa

