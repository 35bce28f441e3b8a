/- The walk of the law HeapAlloc; no condition. -/
import Derived.Test.YtobniolmielikaaScr8
import Derived.Test.YtobniolmielikaaAdr1
namespace Go.Proofs.Ytobniolmielikaa
open Go.RowKit

set_option maxHeartbeats 4000000 in
theorem heapAlloc_law (w : World) (n m : Int) (v : Value) (l : List Opn) (x : Int) (h : Ops w.heap.size w v l) :
    Calls Try.prog 4 #[.agg #[.int .i64 n, .int .i64 m, v], .int .i64 x] w fun e w' => e = .returned (.bool true) ∧ Below w.heap.size w w' := by
  obtain ⟨A, c, rfl⟩ := h.shape
  have HS := Lib.hid h
  have bw : Below w.heap.size w (w.alloc (.cells #[.int .i64 n, .int .i64 m, .slice A l.length c] 41)) := (Below.refl _ _).alloc (Nat.le_refl _) _
  have BW := Lib.hid bw
  have x0 := new0 w (.cells #[.int .i64 n, .int .i64 m, .slice A l.length c] 41)
  have X0 := Lib.hid x0
  have c0 := cellsH x0
  have z0 := bw.size
  clear h bw x0
  go_enter Try.func4, Try.ntmps4
  go_upto_region 1 with (fail)
  generalize w.alloc (.cells #[.int .i64 n, .int .i64 m, .slice A l.length c] 41) = w0 at *
  go_wp2_with fail
  refine (bounded_any w.heap.size _ n m _ l (HS.out.below BW.out) z0).mono ?_
  rintro e w1 ⟨rfl, hb⟩
  have B1 := Lib.hid (below_then BW.out z0 hb)
  have x1 := rowB hb X0.out (heap_lt X0.out)
  have c1 := cellsH x1
  have z1 := B1.out.size
  clear hb c0 x1
  cases hbd : bndB l with
  | false =>
    clear hbd
    go_wp2_with fail
    refine (example_any _).mono ?_
    rintro e w2 ⟨rfl, hb⟩
    have B2 := Lib.hid (below_then B1.out z1 hb)
    clear hb
    go_wp2_with fail
    go_ret
    exact ⟨rfl, B2.out⟩
  | true =>
    have BD := Lib.hid hbd
    clear hbd
    go_wp2_with fail
    refine (run_any _ n m _ l ((HS.out.below B1.out).up z1) BD.out).mono ?_
    rintro e w2 ⟨hran, hb⟩
    have B2 := Lib.hid (below_then B1.out z1 hb)
    have z2 := hb.size
    clear hb c1
    rcases hran with ⟨-, rfl⟩ | ⟨h, y, a, r, NV, AV, H, R, rfl, ht, hr⟩
    · go_wp2_with fail
      refine (example_any _).mono ?_
      rintro e w3 ⟨rfl, hb⟩
      have B3 := Lib.hid (below_then B2.out B2.out.size hb)
      clear hb
      go_wp2_with fail
      go_ret
      exact ⟨rfl, B3.out⟩
    · have T2 := Lib.hid ht
      have RL := Lib.hid hr
      have g1 : w.heap.size ≤ h := by have := ht.bh; omega
      have g2 : w.heap.size ≤ y := by have := ht.bY; omega
      have g3 : w.heap.size ≤ a := by have := ht.ba; omega
      clear ht hr
      have hk1 := Lib.hid (RL.out.keysY (by omega))
      have hk2 := Lib.hid (RL.out.keysA (by omega))
      have hl1 := RL.out.ln
      have hl2 := RL.out.le
      have hn1 := RL.out.n1
      have hn2 := RL.out.n2
      have he2 := RL.out.e2
      have hlo := RL.out.lo
      have hhi := RL.out.hi
      have hw : wrap64 (H.nur - H.ly.length) = H.nur - H.ly.length := by unfold wrap64; omega
      have HW := Lib.hid hw
      have hv := Lib.hid (show vld ⟨1, x, 0, [], []⟩ = true by simp [vld, HeadOk, vTail])
      clear hw
      go_wp2_with fail
      refine (room_val _ h y a H T2.out.p (H.nur - H.ly.length) HW.out).mono ?_
      rintro e w3 ⟨rfl, n3, rfl⟩
      have P3 := Lib.hid (T2.out.p.drewN n3)
      have B3 := Lib.hid (below_drewN B2.out n3)
      generalize w2.drewN n3 = w3 at *
      clear T2 B2
      go_wp2_with fail
      refine (addrs_any _ h y a H P3.out hk1.out hk2.out (by omega) (by omega)).mono ?_
      rintro e w4 ⟨u4, rfl, hu, hb⟩
      obtain ⟨A4, k4, rfl⟩ := hu.shape
      have U4 := Lib.hid hu
      have P4 := Lib.hid (P3.out.fresh hb)
      have B4 := Lib.hid (below_then B3.out B3.out.size hb)
      have z3 := B3.out.size
      have z4 := hb.size
      have hg3 := P3.out.lt
      obtain ⟨i1, i2, i3⟩ := hg3
      clear hu hb
      go_wp2_with fail
      refine (alloc_any (fun _ => True) _ h y a H _ ⟨1, x, 0, [], []⟩ P4.out ⟨_, _, rfl, ints0 _ _, ints0 _ _⟩).mono ?_
      rintro e w5 ⟨rfl, hh5, ht5⟩
      have U5 := Lib.hid (U4.out.turn ht5 (fun b hb e => by rcases e with e | e | e <;> omega))
      have B5 := Lib.hid (Turn.belowH B4.out ht5 (by omega) g1 g2 g3)
      have z5 := ht5.size
      by_cases hfull : H.nur ≤ H.ly.length
      · have hA : H.alloc ⟨1, x, 0, [], []⟩ = (0, 33, H) := by simp [HM.alloc, hv.out, hfull]
        rw [hA] at hh5 ⊢
        have P5 := Lib.hid hh5
        have hz : H.nur - (H.ly.length : Int) = 0 := by omega
        rw [hz]
        have HZ := Lib.hid hz
        clear hh5 ht5 hA hz
        go_wp2_with fail
        refine (room_val _ h y a H P5.out 0 (by rw [HW.out, HZ.out])).mono ?_
        rintro e w6 ⟨rfl, n6, rfl⟩
        have P6 := Lib.hid (P5.out.drewN n6)
        have B6 := Lib.hid (below_drewN B5.out n6)
        have U6 := Lib.hid (U5.out.fresh (below_drewN (Below.refl _ _) n6))
        generalize w5.drewN n6 = w6 at *
        clear P5 B5 U5
        go_wp2_with fail
        refine (addrs_any _ h y a H P6.out hk1.out hk2.out (by omega) (by omega)).mono ?_
        rintro e w7 ⟨u7, rfl, hu, hb⟩
        obtain ⟨A7, k7, rfl⟩ := hu.shape
        have U7 := Lib.hid hu
        have U67 := Lib.hid (U6.out.fresh hb)
        have B7 := Lib.hid (below_then B6.out B6.out.size hb)
        clear hu hb
        go_wp2_with fail
        refine (sameInts_any _ _ _ _ _ _ U7.out U67.out).mono ?_
        rintro e w8 ⟨rfl, n8, rfl⟩
        have B8 := Lib.hid (below_drewN B7.out n8)
        go_wp2_with fail
        refine (example_any _).mono ?_
        rintro e w9 ⟨rfl, hb⟩
        have B9 := Lib.hid (below_then B8.out B8.out.size hb)
        clear hb
        go_wp2_with fail
        go_ret
        exact ⟨rfl, B9.out⟩
      · have hA : H.alloc ⟨1, x, 0, [], []⟩ = (H.next, 0, { H with ly := put H.ly H.next ⟨1, x, 0, [], []⟩, next := wrap64 (H.next + 1) }) := by simp [HM.alloc, hv.out, hfull]
        have hwn : wrap64 (H.next + 1) = H.next + 1 := by unfold wrap64; omega
        have hnot : H.next ∉ H.ly.map (·.1) := by
          intro hin
          obtain ⟨q, hq, e⟩ := List.mem_map.1 hin
          have := RL.out.ky q (RL.out.ly.mem_iff.1 hq)
          omega
        have hnot2 : H.next ∉ H.la.map (·.1) := by
          intro hin
          obtain ⟨q, hq, e⟩ := List.mem_map.1 hin
          have := RL.out.ka q (RL.out.la.mem_iff.1 hq)
          omega
        rw [hA, hwn, put_new hnot] at hh5
        rw [hA]
        have P5 := Lib.hid hh5
        have hz : ((H.nur - (H.ly.length : Int)) == 0) = false := by simp; omega
        have GE := Lib.hid (show Go.Proofs.Ytobniolmielikaa.get (H.ly ++ [(H.next, (⟨1, x, 0, [], []⟩ : Ob))]) H.next = some ⟨1, x, 0, [], []⟩ from by rw [← put_new hnot, get_put, if_pos rfl])
        have GA := Lib.hid (get_none.2 hnot2)
        have LST := Lib.hid (show ∀ z ∈ H.addrs, z < H.next from fun z hz => by
          have hz1 : z ∈ keysOf H.ly ++ keysOf H.la := List.mem_mergeSort.1 hz
          rcases List.mem_append.1 hz1 with hz1 | hz1
          · obtain ⟨q, hq, rfl⟩ := List.mem_map.1 hz1
            exact (RL.out.ky q (RL.out.ly.mem_iff.1 hq)).2
          · obtain ⟨q, hq, rfl⟩ := List.mem_map.1 hz1
            exact (RL.out.ka q (RL.out.la.mem_iff.1 hq)).2)
        clear hh5 ht5 hA hwn hnot hnot2
        have eG : HM.get { H with ly := H.ly ++ [(H.next, (⟨1, x, 0, [], []⟩ : Ob))], next := H.next + 1 } H.next = (⟨1, x, 0, [], []⟩, 0) := by simp [HM.get, GE.out]
        have EG := Lib.hid eG
        clear eG
        go_wp2_with fail
        refine (get_any _ h y a _ H.next P5.out).mono ?_
        rintro e w6 ⟨v6, rfl, hv6, hb⟩
        rw [EG.out] at hv6 ⊢
        obtain ⟨ra6, rc6, wa6, wc6, rfl⟩ := hv6.open
        have V6 := Lib.hid hv6
        have P6 := Lib.hid (P5.out.fresh hb)
        have B6 := Lib.hid (below_then B5.out B5.out.size hb)
        have U6 := Lib.hid (U5.out.fresh hb)
        have z6 := B6.out.size
        clear hv6 hb
        go_upto_region 11 with (fail)
        have bz : Below w6.heap.size w6 (w6.alloc (.cells #[.int .i64 1, .int .i64 x, .int .i64 0, .slice ra6 0 rc6, .slice wa6 0 wc6] 25)) := (Below.refl _ _).alloc (Nat.le_refl _) _
        have P7 := Lib.hid (P6.out.fresh bz)
        have B7 := Lib.hid (below_then B6.out z6 bz)
        have U7 := Lib.hid (U6.out.fresh bz)
        have V7 := Lib.hid (V6.out.fresh bz)
        have y7 := new0 w6 (.cells #[.int .i64 1, .int .i64 x, .int .i64 0, .slice ra6 0 rc6, .slice wa6 0 wc6] 25)
        have Y7 := Lib.hid y7
        have hul := Ints.len U7.out
        clear bz y7
        generalize w6.alloc (.cells #[.int .i64 1, .int .i64 x, .int .i64 0, .slice ra6 0 rc6, .slice wa6 0 wc6] 25) = w7 at *
        go_cut [9, 14] from 15 to 75 (fun _ s wx => s = .bool true ∧ wx = w7)
        case first =>
          by_cases hl : H.addrs.length = 0
          · have hl' : ((H.addrs.length : Int) == 0) = true := by simp [hl]
            clear hl
            go_wp2_with fail
            go_meet
            case rel => exact ⟨rfl, rfl⟩
          · obtain ⟨J, hJ⟩ : ∃ J, H.addrs.length = J + 1 := ⟨H.addrs.length - 1, by omega⟩
            obtain ⟨ad, eA, hc⟩ := Ints.cell U7.out (k := J) (by omega)
            have hlast := LST.out H.addrs[J] (List.getElem_mem _)
            generalize H.addrs[J] = z at hc hlast
            subst eA
            have hl' : (((J + 1 : Nat) : Int) == 0) = false := by simp; omega
            rw [hJ] at hul ⊢
            clear hl hJ
            have hwj : wrap64 (((J + 1 : Nat) : Int) - 1) = J := by unfold wrap64; omega
            go_wp2_with fail
            go_meet
            case rel => exact ⟨rfl, rfl⟩
        case rest =>
          obtain ⟨rfl, rfl⟩ := hcut
          have c7 := cellsH Y7.out
          go_wp2_with fail
          refine (sameObj_any _ (fun _ => True) _ _ _ ⟨1, x, 0, [], []⟩ V7.out.at ⟨_, _, rfl, ints0 _ _, ints0 _ _⟩).mono ?_
          rintro e w8 ⟨rfl, hb⟩
          have P8 := Lib.hid (P7.out.fresh hb)
          have B8 := Lib.hid (below_then B7.out B7.out.size hb)
          clear hb c7
          have hnn : wrap64 (H.nur - H.ly.length - 1) = H.nur - H.ly.length - 1 := by unfold wrap64; omega
          go_wp2_with fail
          refine (room_val _ h y a _ P8.out (H.nur - H.ly.length - 1) (by simp only [List.length_append, List.length_singleton]; unfold wrap64; omega)).mono ?_
          rintro e w9 ⟨rfl, n9, rfl⟩
          have P9 := Lib.hid (P8.out.drewN n9)
          have B9 := Lib.hid (below_drewN B8.out n9)
          generalize w8.drewN n9 = w9 at *
          go_wp2_with fail
          refine (old_any _ h y a _ H.next P9.out).mono ?_
          rintro e w10 ⟨rfl, hb⟩
          rw [GA.out]
          have B10 := Lib.hid (below_then B9.out B9.out.size hb)
          clear hb
          go_wp2_with fail
          refine (example_any _).mono ?_
          rintro e w11 ⟨rfl, hb⟩
          have B11 := Lib.hid (below_then B10.out B10.out.size hb)
          clear hb
          go_wp2_with fail
          go_ret
          exact ⟨rfl, B11.out⟩
end Go.Proofs.Ytobniolmielikaa
