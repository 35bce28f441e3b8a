/- The law's helper agree; no condition. -/
import Derived.Test.YtobniolmielikaaScr8
import Derived.Test.YtobniolmielikaaAdr4
namespace Go.Proofs.Ytobniolmielikaa
open Go.RowKit

theorem fold_both : ∀ (m acc : List (Int × Ob)), Asc acc → ((acc ++ m).map (·.1)).Nodup → Asc (m.foldl insP acc) ∧ (m.foldl insP acc).Perm (acc ++ m) := by
  intro m
  induction m with
  | nil => intro acc ha _; exact ⟨ha, by simp⟩
  | cons p r ih =>
    intro acc ha hn
    have hp : (insP acc p ++ r).Perm (acc ++ p :: r) := ((insP_perm acc p).append_right r).trans List.perm_middle.symm
    have hn' : ((insP acc p ++ r).map (·.1)).Nodup := (hp.map _).nodup_iff.2 hn
    have hnot : p.1 ∉ acc.map (·.1) := by
      rw [List.map_append, List.nodup_append] at hn
      intro hin
      exact hn.2.2 p.1 hin p.1 (by simp) rfl
    obtain ⟨h1, h2⟩ := ih (insP acc p) (insP_asc ha hnot) hn'
    exact ⟨h1, h2.trans hp⟩
theorem srt_asc {l : List Int} {m : List (Int × Ob)} (ha : Asc m) (hp : l.Perm (keysOf m)) : srt l = keysOf m := by
  have hs : (srt l).Pairwise (fun x y => decide (x ≤ y) = true) :=
    List.pairwise_mergeSort (fun a b c h1 h2 => by simp at *; omega) (fun a b => by simp; omega) l
  refine List.Perm.eq_of_pairwise (le := fun x y => decide (x ≤ y) = true) ?_ hs ?_ ((List.mergeSort_perm _ _).trans hp)
  · intro x y _ _ h1 h2
    simp at h1 h2
    omega
  · unfold keysOf
    rw [List.pairwise_map]
    exact ha.imp fun h => by simp; omega
theorem addrs_eq {k : Nat} {H : HM} {R : RM} (h : Rel k H R.abs) : H.addrs = R.addrs := by
  have hn : ((R.abs.ly ++ R.abs.la).map (·.1)).Nodup := by
    rw [List.map_append, List.nodup_append]
    refine ⟨h.sy.nodup, h.sa.nodup, ?_⟩
    intro x hx y hy e
    obtain ⟨p, hp, rfl⟩ := List.mem_map.1 hx
    obtain ⟨q, hq, rfl⟩ := List.mem_map.1 hy
    exact h.dj p hp q hq e
  obtain ⟨h1, h2⟩ := fold_both R.abs.la R.abs.ly h.sy hn
  refine srt_asc h1 ?_
  have h3 := (h2.map (·.1)).symm
  refine List.Perm.trans ?_ h3
  rw [List.map_append]
  exact (h.ly.map _).append (h.la.map _)
theorem remb_eq {k : Nat} {H : HM} {R : RM} (h : Rel k H R.abs) : H.rem = R.rem := by
  have e1 : (fun p : Int × Ob => refsTo H.ly p.2) = fun p => refsTo (absI R.n) p.2 := by
    funext p
    unfold refsTo
    congr 1
    funext x
    rw [h.gy]
    rfl
  unfold HM.rem RM.rem
  rw [e1]
  exact srt_asc (List.Pairwise.filter _ h.sa) ((h.la.filter _).map _)
theorem get_in {H : HM} {z : Int} (hz : z ∈ H.addrs) : (H.get z).2 = 0 := by
  have hz1 : z ∈ keysOf H.ly ++ keysOf H.la := List.mem_mergeSort.1 hz
  unfold HM.get
  cases hy : Go.Proofs.Ytobniolmielikaa.get H.ly z with
  | some o => rfl
  | none =>
    cases ha : Go.Proofs.Ytobniolmielikaa.get H.la z with
    | some o => rfl
    | none =>
      rcases List.mem_append.1 hz1 with h1 | h1
      · exact absurd h1 (get_none.1 hy)
      · exact absurd h1 (get_none.1 ha)

set_option maxRecDepth 4000 in
set_option maxHeartbeats 4000000 in
theorem agree_any (B : Nat) (w : World) (h y a r : Nat) (NV AV : Value) (H : HM) (R : RM) (t : Two B w h y a r NV AV H R) (hr : Rel 60 H R.abs) :
    Calls Try.prog 29 #[.pointer (some ⟨h, 0, none⟩), .pointer (some ⟨r, 0, none⟩)] w fun e w' => e = .returned (.bool true) ∧ Below w.heap.size w w' := by
  have T0 := Lib.hid t
  have HR := Lib.hid hr
  have hk1 := Lib.hid (hr.keysY (by omega))
  have hk2 := Lib.hid (hr.keysA (by omega))
  have gk1 := Lib.hid (show KeysIn (absI R.n) from fun p hp => hk1.out p (hr.ly.mem_iff.2 hp))
  have gk2 := Lib.hid (show KeysIn (absI R.a) from fun p hp => hk2.out p (hr.la.mem_iff.2 hp))
  have hl1 := hr.ln
  have hl2 := hr.le
  have hn2 := hr.n2
  have he2 := hr.e2
  have E1 := Lib.hid (show R.n.length = H.ly.length by rw [← absI_length]; exact hr.ly.length_eq.symm)
  have E2 := Lib.hid (show R.a.length = H.la.length by rw [← absI_length]; exact hr.la.length_eq.symm)
  have E3 := Lib.hid (show R.s0 = H.nur from hr.nur)
  have E4 := Lib.hid (show R.s1 = H.eld from hr.eld)
  clear t hr
  go_enter Try.func29, Try.ntmps29
  go_wp2_with fail
  refine (count_any w h y a H T0.out.p).mono ?_
  rintro e w1 ⟨rfl, n1, rfl⟩
  have B1 := Lib.hid (below_drewN (Below.refl w.heap.size w) n1)
  generalize w.drewN n1 = w1 at *
  go_wp2_with fail
  refine (rcount_any B w1 r NV AV R (T0.out.q.fresh B1.out)).mono ?_
  rintro e w2 ⟨rfl, n2, rfl⟩
  rw [E1.out, E2.out]
  have B2 := Lib.hid (below_drewN B1.out n2)
  generalize w1.drewN n2 = w2 at *
  go_wp2_with fail
  refine (limits_any w2 h y a H (T0.out.p.fresh B2.out)).mono ?_
  rintro e w3 ⟨rfl, n3, rfl⟩
  have B3 := Lib.hid (below_drewN B2.out n3)
  generalize w2.drewN n3 = w3 at *
  go_wp2_with fail
  refine (addrs_any w3 h y a H (T0.out.p.fresh B3.out) hk1.out hk2.out (by omega) (by omega)).mono ?_
  rintro e w4 ⟨u4, rfl, hu, hb⟩
  obtain ⟨A4, k4, rfl⟩ := hu.shape
  have hul := Ints.len hu
  have U4 := Lib.hid (Ints.mono hu (ok' := fun _ => True) (fun _ _ _ => trivial))
  have B4 := Lib.hid (below_then B3.out B3.out.size hb)
  obtain ⟨c0, c1, -, -, -⟩ := (T0.out.q.fresh B4.out).cells
  rw [E3.out] at c0
  rw [E4.out] at c1
  clear hu hb
  go_wp2_with fail
  refine (room_any w4 h y a H (T0.out.p.fresh B4.out)).mono ?_
  rintro e w5 ⟨rfl, n5, rfl⟩
  have B5 := Lib.hid (below_drewN B4.out n5)
  have U5 := Lib.hid (U4.out.fresh (below_drewN (Below.refl _ _) n5))
  clear c0 c1
  generalize w4.drewN n5 = w5 at *
  go_wp2_with fail
  refine (rroom_any B w5 r NV AV R (T0.out.q.fresh B5.out)).mono ?_
  rintro e w6 ⟨rfl, n6, rfl⟩
  rw [E1.out, E3.out]
  have B6 := Lib.hid (below_drewN B5.out n6)
  have U6 := Lib.hid (U5.out.fresh (below_drewN (Below.refl _ _) n6))
  generalize w5.drewN n6 = w6 at *
  go_wp2_with fail
  refine (raddrs_any B w6 r NV AV R (T0.out.q.fresh B6.out) gk1.out gk2.out).mono ?_
  rintro e w7 ⟨u7, rfl, hu, hb⟩
  rw [← addrs_eq HR.out] at hu
  obtain ⟨A7, k7, rfl⟩ := hu.shape
  have U7 := Lib.hid hu
  have U67 := Lib.hid (U6.out.fresh hb)
  have B7 := Lib.hid (below_then B6.out B6.out.size hb)
  clear hu hb
  go_wp2_with fail
  refine (sameInts_any _ _ _ _ _ _ U67.out U7.out).mono ?_
  rintro e w8 ⟨rfl, n8, rfl⟩
  have B8 := Lib.hid (below_drewN B7.out n8)
  have U8 := Lib.hid (U67.out.fresh (below_drewN (Below.refl _ _) n8))
  generalize w7.drewN n8 = w8 at *
  go_wp2_with fail
  refine (remembered_any w8 h y a H (T0.out.p.fresh B8.out) hk2.out (by omega)).mono ?_
  rintro e w9 ⟨u9, rfl, hu, hb⟩
  obtain ⟨A9, k9, rfl⟩ := hu.shape
  have V9 := Lib.hid hu
  have U9 := Lib.hid (U8.out.fresh hb)
  have B9 := Lib.hid (below_then B8.out B8.out.size hb)
  clear hu hb
  go_wp2_with fail
  refine (rremembered_any B w9 r NV AV R (T0.out.q.fresh B9.out) gk2.out).mono ?_
  rintro e w10 ⟨u10, rfl, hu, hb⟩
  rw [← remb_eq HR.out] at hu
  obtain ⟨A10, k10, rfl⟩ := hu.shape
  have V10 := Lib.hid hu
  have V910 := Lib.hid (V9.out.fresh hb)
  have U10 := Lib.hid (U9.out.fresh hb)
  have B10 := Lib.hid (below_then B9.out B9.out.size hb)
  clear hu hb
  go_wp2_with fail
  refine (sameInts_any _ _ _ _ _ _ V910.out V10.out).mono ?_
  rintro e w11 ⟨rfl, n11, rfl⟩
  have B11 := Lib.hid (below_drewN B10.out n11)
  have U11 := Lib.hid (U10.out.fresh (below_drewN (Below.refl _ _) n11))
  generalize w10.drewN n11 = w11 at *
  go_wp2_with fail
  go_loopw [12] (fun i W => ∃ k : Nat, k ≤ H.addrs.length ∧ i = .int .i64 k ∧ Below w11.heap.size w11 W) (fun i _ => H.addrs.length - (intOf i).toNat)
  case atStart => exact ⟨0, Nat.zero_le _, rfl, Below.refl _ _⟩
  case round =>
    obtain ⟨k, hk, rfl, hb⟩ := hrel
    have HB := Lib.hid hb
    have BW := Lib.hid (below_then B11.out B11.out.size hb)
    have UW := Lib.hid (U11.out.fresh hb)
    have zb := hb.size
    clear hb
    by_cases hlt : k < H.addrs.length
    · obtain ⟨ad, eA, hc⟩ := Ints.cell UW.out hlt
      have hgi := get_in (List.getElem_mem hlt)
      generalize H.addrs[k] = z at hc hgi
      have HLT := Lib.hid hlt
      have HGI := Lib.hid hgi
      subst eA
      clear hgi
      go_wp2_with fail
      refine (get_any _ h y a H z (T0.out.p.fresh BW.out)).mono ?_
      rintro e w12 ⟨v12, rfl, hv, hb⟩
      obtain ⟨ra1, rc1, wa1, wc1, rfl⟩ := hv.open
      have bz : Below w12.heap.size w12 (w12.alloc (.cells #[.int .i64 (H.get z).1.op, .int .i64 (H.get z).1.n, .int .i64 (H.get z).1.ar, .slice ra1 (H.get z).1.refs.length rc1, .slice wa1 (H.get z).1.words.length wc1] 25)) := (Below.refl _ _).alloc (Nat.le_refl _) _
      have y12 := new0 w12 (.cells #[.int .i64 (H.get z).1.op, .int .i64 (H.get z).1.n, .int .i64 (H.get z).1.ar, .slice ra1 (H.get z).1.refs.length rc1, .slice wa1 (H.get z).1.words.length wc1] 25)
      have b12 := below_then hb hb.size bz
      have V13 := Lib.hid (hv.fresh bz)
      have HB13 := Lib.hid (below_then HB.out zb b12)
      have BW13 := Lib.hid (below_then BW.out BW.out.size b12)
      have hc13 := cellBelow hc b12 (World.block_lt_of_cell? _ _ hc)
      have Y13 := Lib.hid y12
      go_upto_region 11 with (fail)
      clear hv hb bz y12 b12 hc
      generalize w12.alloc (.cells #[.int .i64 (H.get z).1.op, .int .i64 (H.get z).1.n, .int .i64 (H.get z).1.ar, .slice ra1 (H.get z).1.refs.length rc1, .slice wa1 (H.get z).1.words.length wc1] 25) = w13 at V13 HB13 BW13 hc13 Y13 ⊢
      rw [HGI.out]
      go_wp2_with fail
      refine (rget_any B w13 r NV AV R z (T0.out.q.fresh BW13.out)).mono ?_
      rintro e w14 ⟨v14, rfl, hv, hb⟩
      have eg : R.get z = H.get z := by rw [rget_abs]; exact (rel_get HR.out z).symm
      rw [eg] at hv ⊢
      obtain ⟨ra2, rc2, wa2, wc2, rfl⟩ := hv.open
      have bz : Below w14.heap.size w14 (w14.alloc (.cells #[.int .i64 (H.get z).1.op, .int .i64 (H.get z).1.n, .int .i64 (H.get z).1.ar, .slice ra2 (H.get z).1.refs.length rc2, .slice wa2 (H.get z).1.words.length wc2] 25)) := (Below.refl _ _).alloc (Nat.le_refl _) _
      have y14 := new0 w14 (.cells #[.int .i64 (H.get z).1.op, .int .i64 (H.get z).1.n, .int .i64 (H.get z).1.ar, .slice ra2 (H.get z).1.refs.length rc2, .slice wa2 (H.get z).1.words.length wc2] 25)
      have b14 := below_then hb hb.size bz
      have V15 := Lib.hid (hv.fresh bz)
      have V135 := Lib.hid (V13.out.fresh b14)
      have HB15 := Lib.hid (below_then HB13.out HB13.out.size b14)
      have BW15 := Lib.hid (below_then BW13.out BW13.out.size b14)
      have hc15 := cellBelow hc13 b14 (World.block_lt_of_cell? _ _ hc13)
      have Y15 := Lib.hid y14
      have Y135 := Lib.hid (rowB b14 Y13.out (heap_lt Y13.out))
      go_upto_region 12 with (fail)
      clear hv hb bz y14 b14 hc13 eg
      generalize w14.alloc (.cells #[.int .i64 (H.get z).1.op, .int .i64 (H.get z).1.n, .int .i64 (H.get z).1.ar, .slice ra2 (H.get z).1.refs.length rc2, .slice wa2 (H.get z).1.words.length wc2] 25) = w15 at V15 V135 HB15 BW15 hc15 Y15 Y135 ⊢
      have i0 := boxCells (show w15.drew.heap[w12.heap.size]? = _ from Y135.out)
      have j0 := boxCells (show w15.drew.heap[w14.heap.size]? = _ from Y15.out)
      have m0 : w15.drew.cell? (ad.add k) = some (.int .i64 z) := hc15
      have EOLD := Lib.hid (show (Go.Proofs.Ytobniolmielikaa.get (keyed R.a) z).isSome = (Go.Proofs.Ytobniolmielikaa.get H.la z).isSome by
        rw [HR.out.ga, show R.abs.la = absI R.a from rfl, get_abs]
        simp)
      have z15 := BW15.out.size
      have HC15 := Lib.hid hc15
      clear hc15
      go_region_held3 (fun w' => (w'.cell? ⟨w12.heap.size, 0, none⟩ = some (.int .i64 (H.get z).1.op) ∧ w'.cell? ⟨w12.heap.size, 1, none⟩ = some (.int .i64 (H.get z).1.n) ∧ w'.cell? ⟨w12.heap.size, 2, none⟩ = some (.int .i64 (H.get z).1.ar) ∧ w'.cell? ⟨w12.heap.size, 3, none⟩ = some (.slice ra1 (H.get z).1.refs.length rc1) ∧ w'.cell? ⟨w12.heap.size, 4, none⟩ = some (.slice wa1 (H.get z).1.words.length wc1)) ∧ (w'.cell? ⟨w14.heap.size, 0, none⟩ = some (.int .i64 (H.get z).1.op) ∧ w'.cell? ⟨w14.heap.size, 1, none⟩ = some (.int .i64 (H.get z).1.n) ∧ w'.cell? ⟨w14.heap.size, 2, none⟩ = some (.int .i64 (H.get z).1.ar) ∧ w'.cell? ⟨w14.heap.size, 3, none⟩ = some (.slice ra2 (H.get z).1.refs.length rc2) ∧ w'.cell? ⟨w14.heap.size, 4, none⟩ = some (.slice wa2 (H.get z).1.words.length wc2)) ∧ w'.cell? (ad.add k) = some (.int .i64 z))
        (first | with_reducible exact ⟨i0, j0, m0⟩ | with_reducible exact ⟨i1, j1, m1⟩ | with_reducible exact ⟨i2, j2, m2⟩)
        (first
          | (go_at_call 21; refine (sameObj_any _ _ _ _ _ (H.get z).1 (V135.out.fresh (Below.refl _ _).drew).at (V15.out.fresh (Below.refl _ _).drew).at).mono ?_; rintro e w16 ⟨rfl, hb16⟩; have hb16 := undrew hb16; have BW16 := Lib.hid (below_then BW15.out z15 hb16); have HB16 := Lib.hid (below_then HB15.out HB15.out.size hb16); have y1 := rowB hb16 Y135.out (heap_lt Y135.out); have y2 := rowB hb16 Y15.out (heap_lt Y15.out); have i1 := boxCells y1; have j1 := boxCells y2; have m1 := cellBelow HC15.out hb16 (World.block_lt_of_cell? _ _ HC15.out); have Y1 := Lib.hid y1; have Y2 := Lib.hid y2; clear hb16 y1 y2)
          | (go_at_call 27; refine (old_any _ h y a H z (T0.out.p.fresh BW16.out)).mono ?_; rintro e w17 ⟨rfl, hb17⟩; have BW17 := Lib.hid (below_then BW16.out BW16.out.size hb17); have HB17 := Lib.hid (below_then HB16.out HB16.out.size hb17); have i2 := boxCells (rowB hb17 Y1.out (heap_lt Y1.out)); have j2 := boxCells (rowB hb17 Y2.out (heap_lt Y2.out)); have m2 := cellBelow m1 hb17 (World.block_lt_of_cell? _ _ m1); clear hb17)
          | (go_at_call 64; refine (rold_any B w17 r NV AV R z (T0.out.q.fresh BW17.out)).mono ?_; rintro e w18 ⟨rfl, rfl⟩; rw [EOLD.out]))
      clear i0 j0 m0 i1 j1 m1 i2 j2 m2
      rename_i hHeld
      clear hHeld
      go_wp2_with fail
      go_roundw
      case rel => exact ⟨k + 1, by have := HLT.out; omega, by go_num, HB17.out⟩
      case measure => have := HLT.out; simp [intOf]; omega
    · clear hk
      go_wp2_with fail
      go_ret
      exact ⟨rfl, BW.out⟩
end Go.Proofs.Ytobniolmielikaa
