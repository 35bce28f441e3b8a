/- The statement CollectGraph, where what it reads is of bulk at most 1048576: for every heap and roots the call answers true and turns nothing; no other condition. -/
import Derived.Test.YtobniolmielikaaZar
import Derived.Test.YtobniolmielikaaZaq
import Derived.Test.YtobniolmielikaaZao
import Derived.Test.YtobniolmielikaaZas
import Derived.Test.YtobniolmielikaaZat
import Derived.Lib.SmallJoins
/- The collector's law: sameGraph; no condition. -/
namespace Go.Proofs.Ytobniolmielikaa
open Go.RowKit

set_option maxRecDepth 100000 in
set_option maxHeartbeats 4000000 in
theorem sameGraph_any (B1 B2 : Nat) (ok1 ok2 ok3 ok4 : Nat → Prop) (w : World) (va vb u v : Value) (xs : List Int) (l l' : List It) (ha : Ints ok1 w va xs) (hb : Ints ok2 w vb xs) (hu : OwnO B1 w u l) (hv : OwnO B2 w v l') (ho : ∀ x ∈ l, ObAt ok3 w x.val x.o) (ho' : ∀ x ∈ l', ObAt ok4 w x.val x.o) (he : l.map (·.o) = l'.map (·.o)) (hlen : l.length ≤ 1000000) :
    Calls Try.prog 41 #[va, vb, u, v] w fun e w' => e = .returned (.bool true) ∧ Below w.heap.size w w' := by
  obtain ⟨A1, c1, rfl⟩ := ha.shape
  obtain ⟨A2, c2, rfl⟩ := hb.shape
  obtain ⟨U, c3, rfl⟩ := hu.shape
  obtain ⟨V, c4, rfl⟩ := hv.shape
  have hl : l'.length = l.length := by simpa using (congrArg List.length he).symm
  rw [hl]
  have HA := Lib.hid ha
  have HB := Lib.hid hb
  have HU := Lib.hid hu
  have HV := Lib.hid hv
  have HO := Lib.hid ho
  have HO' := Lib.hid ho'
  have HE := Lib.hid he
  have HL := Lib.hid hl
  clear ha hb hu hv ho ho' he hl
  go_enter Try.func41, Try.ntmps41
  go_wp2_with fail
  refine (sameInts_any _ _ w _ _ xs HA.out HB.out).mono ?_
  rintro e wz ⟨rfl, nz, hwz⟩
  have BZ := Lib.hid (show Below w.heap.size w wz by rw [hwz]; exact below_drewN (Below.refl _ _) nz)
  clear hwz
  go_wp2_with fail
  go_loopw [9] (fun i W => ∃ k : Nat, k ≤ l.length ∧ i = .int .i64 k ∧ Below wz.heap.size wz W) (fun i _ => l.length - (intOf i).toNat)
  case atStart => exact ⟨0, Nat.zero_le _, rfl, Below.refl _ _⟩
  case round =>
    obtain ⟨k, hk, rfl, hb⟩ := hrel
    have HB2 := Lib.hid hb
    have BW := Lib.hid (below_then BZ.out BZ.out.size hb)
    have zb := hb.size
    clear hb
    by_cases hlt : k < l.length
    · have HLT := Lib.hid (show k + 1 ≤ l.length from hlt)
      have hx := List.getElem?_eq_getElem hlt
      have hlt' : k < l'.length := by rw [HL.out]; exact hlt
      have hy := List.getElem?_eq_getElem hlt'
      have hxo := (HO.out _ (List.getElem_mem hlt)).fresh BW.out
      have hyo := (HO'.out _ (List.getElem_mem hlt')).fresh BW.out
      have hoo : l[k].o = l'[k].o := by
        have h1 := congrArg (fun m => m[k]?) HE.out
        simp only [List.getElem?_map, hx, hy, Option.map_some, Option.some.injEq] at h1
        exact h1
      obtain ⟨g, rfl, d0, d1, d2, d3, d4⟩ := OwnO.cell (OwnO.fresh HU.out BW.out) hx
      obtain ⟨g', rfl, f0, f1, f2, f3, f4⟩ := OwnO.cell (OwnO.fresh HV.out BW.out) hy
      generalize l[k] = x at *
      generalize l'[k] = y at *
      rw [← hoo] at f0 f1 f2 f3 f4 hyo
      unfold It.val at hxo hyo
      rw [← hoo] at hyo
      have HXO := Lib.hid hxo
      have HYO := Lib.hid hyo
      clear hx hy hxo hyo hoo hlt'
      go_upto_region 6 with (fail)
      have i0 : wr.drew.cell? ⟨g, k * 5, none⟩ = some (.int .i64 x.o.op) ∧ wr.drew.cell? ⟨g, k * 5 + 1, none⟩ = some (.int .i64 x.o.n) ∧ wr.drew.cell? ⟨g, k * 5 + 2, none⟩ = some (.int .i64 x.o.ar) ∧ wr.drew.cell? ⟨g, k * 5 + 3, none⟩ = some (.slice x.ra x.o.refs.length x.rc) ∧ wr.drew.cell? ⟨g, k * 5 + 4, none⟩ = some (.slice x.wa x.o.words.length x.wc) ∧ wr.drew.cell? ⟨g', k * 5, none⟩ = some (.int .i64 x.o.op) ∧ wr.drew.cell? ⟨g', k * 5 + 1, none⟩ = some (.int .i64 x.o.n) ∧ wr.drew.cell? ⟨g', k * 5 + 2, none⟩ = some (.int .i64 x.o.ar) ∧ wr.drew.cell? ⟨g', k * 5 + 3, none⟩ = some (.slice y.ra x.o.refs.length y.rc) ∧ wr.drew.cell? ⟨g', k * 5 + 4, none⟩ = some (.slice y.wa x.o.words.length y.wc) := ⟨d0, d1, d2, d3, d4, f0, f1, f2, f3, f4⟩
      have lg : g < wr.heap.size := World.block_lt_of_cell? _ _ d0
      have lg' : g' < wr.heap.size := World.block_lt_of_cell? _ _ f0
      clear d0 d1 d2 d3 d4 f0 f1 f2 f3 f4
      go_region_held3 (fun w' => w'.cell? ⟨g, k * 5, none⟩ = some (.int .i64 x.o.op) ∧ w'.cell? ⟨g, k * 5 + 1, none⟩ = some (.int .i64 x.o.n) ∧ w'.cell? ⟨g, k * 5 + 2, none⟩ = some (.int .i64 x.o.ar) ∧ w'.cell? ⟨g, k * 5 + 3, none⟩ = some (.slice x.ra x.o.refs.length x.rc) ∧ w'.cell? ⟨g, k * 5 + 4, none⟩ = some (.slice x.wa x.o.words.length x.wc) ∧ w'.cell? ⟨g', k * 5, none⟩ = some (.int .i64 x.o.op) ∧ w'.cell? ⟨g', k * 5 + 1, none⟩ = some (.int .i64 x.o.n) ∧ w'.cell? ⟨g', k * 5 + 2, none⟩ = some (.int .i64 x.o.ar) ∧ w'.cell? ⟨g', k * 5 + 3, none⟩ = some (.slice y.ra x.o.refs.length y.rc) ∧ w'.cell? ⟨g', k * 5 + 4, none⟩ = some (.slice y.wa x.o.words.length y.wc))
        (first | with_reducible exact i0 | with_reducible exact i1)
        (first
          | (go_at_call 21; refine (sameObj_any _ _ _ _ _ x.o (HXO.out.fresh (Below.refl _ _).drew) (HYO.out.fresh (Below.refl _ _).drew)).mono ?_; rintro e w16 ⟨rfl, hb16⟩; have hb16 := undrew hb16; have BW16 := Lib.hid (below_then BW.out BW.out.size hb16); have HB16 := Lib.hid (below_then HB2.out zb hb16); have i1 : w16.cell? ⟨g, k * 5, none⟩ = some (.int .i64 x.o.op) ∧ w16.cell? ⟨g, k * 5 + 1, none⟩ = some (.int .i64 x.o.n) ∧ w16.cell? ⟨g, k * 5 + 2, none⟩ = some (.int .i64 x.o.ar) ∧ w16.cell? ⟨g, k * 5 + 3, none⟩ = some (.slice x.ra x.o.refs.length x.rc) ∧ w16.cell? ⟨g, k * 5 + 4, none⟩ = some (.slice x.wa x.o.words.length x.wc) ∧ w16.cell? ⟨g', k * 5, none⟩ = some (.int .i64 x.o.op) ∧ w16.cell? ⟨g', k * 5 + 1, none⟩ = some (.int .i64 x.o.n) ∧ w16.cell? ⟨g', k * 5 + 2, none⟩ = some (.int .i64 x.o.ar) ∧ w16.cell? ⟨g', k * 5 + 3, none⟩ = some (.slice y.ra x.o.refs.length y.rc) ∧ w16.cell? ⟨g', k * 5 + 4, none⟩ = some (.slice y.wa x.o.words.length y.wc) := ⟨below_cell hb16 i0.1 lg, below_cell hb16 i0.2.1 lg, below_cell hb16 i0.2.2.1 lg, below_cell hb16 i0.2.2.2.1 lg, below_cell hb16 i0.2.2.2.2.1 lg, below_cell hb16 i0.2.2.2.2.2.1 lg', below_cell hb16 i0.2.2.2.2.2.2.1 lg', below_cell hb16 i0.2.2.2.2.2.2.2.1 lg', below_cell hb16 i0.2.2.2.2.2.2.2.2.1 lg', below_cell hb16 i0.2.2.2.2.2.2.2.2.2 lg'⟩; clear hb16))
      clear i0 i1
      rename_i hHeld
      clear hHeld
      go_wp2_with fail
      go_roundw
      case rel => exact ⟨k + 1, by have := HLT.out; omega, by go_num, HB16.out⟩
      case measure => have := HLT.out; simp [intOf]; omega
    · clear hk
      go_wp2_with fail
      go_ret
      exact ⟨rfl, BW.out⟩
end Go.Proofs.Ytobniolmielikaa

/- The reference collector: Reach; no condition. -/
namespace Go.Proofs.Ytobniolmielikaa
open Go.RowKit

theorem srt_filt (l : List Int) (p : Int → Bool) : (srt l).filter p = srt (l.filter p) := by
  have hp : ∀ l : List Int, (srt l).Pairwise (fun x y => decide (x ≤ y) = true) := fun l =>
    List.pairwise_mergeSort (fun a b c h1 h2 => by simp at *; omega) (fun a b => by simp; omega) l
  refine List.Perm.eq_of_pairwise (le := fun x y => decide (x ≤ y) = true) ?_ ((hp l).filter p) (hp _) ?_
  · intro x y _ _ h1 h2
    simp at h1 h2
    omega
  · exact ((List.mergeSort_perm _ _).filter p).trans (List.mergeSort_perm _ _).symm
theorem addrs_filter {H : HM} (hW : Wel H) {L : List Int} (hn : L.Nodup) (hL : ∀ a ∈ L, H.has a = true) : H.addrs.filter (fun x => decide (0 ≤ atL L x)) = srt L := by
  have e : H.addrs = srt (keysOf H.ly ++ keysOf H.la) := rfl
  rw [e, srt_filt]
  refine srt_perm ?_
  have hnd : (keysOf H.ly ++ keysOf H.la).Nodup := by
    have := hW.nd
    unfold HM.all at this
    rw [List.map_append] at this
    exact this
  refine (List.perm_ext_iff_of_nodup (hnd.filter _) hn).2 fun a => ?_
  rw [List.mem_filter, decide_eq_true_eq, atL_mem]
  refine ⟨fun h => h.2, fun h => ⟨?_, h⟩⟩
  have := hW.addr_mem.2 (hL a h)
  rw [e] at this
  exact List.mem_mergeSort.1 this
/-- How the reference's Reach ends. -/
def ReachEnd (w : World) (H : HM) (roots : List Int) (e : Ending) (w' : World) : Prop := Below w.heap.size w w' ∧ (H.live roots = none → e = .returned (.tuple #[.slice none 0 0, .int .i64 35])) ∧
  ∀ L, H.live roots = some L → ∃ v, e = .returned (.tuple #[v, .int .i64 0]) ∧ Ints (w.heap.size ≤ ·) w' v (srt L)

set_option maxRecDepth 100000 in
set_option maxHeartbeats 2000000 in
theorem rreach_any (base : Nat) (ok : Nat → Prop) (w : World) (r : Nat) (NV AV : Value) (R : RM) (rv : Value) (roots : List Int) (hh : RHeapAt base w r NV AV R) (hW : RWel R) (hr : Ints ok w rv roots) (hvol : R.abs.fuel roots ≤ 1000000) :
    Calls Try.prog 38 #[.pointer (some ⟨r, 0, none⟩), rv] w (ReachEnd w R.abs roots) := by
  obtain ⟨A, c, rfl⟩ := hr.shape
  have HH := Lib.hid hh
  have HR := Lib.hid hr
  have HW := Lib.hid hW
  have HV := Lib.hid hvol
  have hs0 : 1 ≤ R.s0 := hW.wel.n1
  have HS0 := Lib.hid hs0
  have hrl := hh.lt
  clear hh hr hvol hs0
  go_enter Try.func38, Try.ntmps38
  go_wp2_with fail
  refine (rlive_any base w r NV AV R HH.out HS0.out).mono ?_
  rintro e w1 ⟨rfl, rfl⟩
  go_wp2_with fail
  refine (rstart_any ok _ roots _ HR.out).mono ?_
  rintro e w2 ⟨u, rfl, hu, hb2⟩
  obtain ⟨Au, cu, rfl⟩ := own_shape hu
  have HB2 := Lib.hid hb2
  have hq2 : Que 0 w2 (.slice Au roots.length cu) roots := by
    have := que_of_row hu HR.out.wf
    rcases this with h | ⟨g, off, cc, cs, e, _, r⟩
    · exact .inl h
    · exact .inr ⟨g, off, cc, cs, e, Nat.zero_le _, r⟩
  have HQ2 := Lib.hid hq2
  clear hq2 hu hb2
  go_wp2_with fail
  refine (order_false base w2 r NV AV R _ roots (HH.out.fresh HB2.out) HQ2.out HW.out.wel.nd HV.out).mono ?_
  rintro e w3 ⟨hb3, hno, hyes⟩
  rw [ordR_live HW.out.wel] at hno hyes
  have HB3 := Lib.hid (below_then HB2.out HB2.out.size hb3)
  clear hb3
  cases hl : R.abs.live roots with
  | none =>
    have he := hno hl
    subst he
    have HNL := Lib.hid hl
    clear hno hyes hl
    go_wp2_with fail
    go_ret2
    exact ⟨HB3.out, fun _ => rfl, fun L hL => by rw [HNL.out] at hL; cases hL⟩
  | some L =>
    obtain ⟨v, he, hown, hwf⟩ := hyes L hl
    subst he
    obtain ⟨Ao, co, rfl⟩ := own_shape hown
    have hlen := bfs_len _ _ _ _ (live_found hl).2
    have hll : L.length ≤ 1000000 := by have := HV.out; simp at hlen; omega
    have HI3 := Lib.hid ((ints_row hown (by omega) hwf).mono (ok' := fun k => w1.heap.size ≤ k) (fun k _ hk => by have := HB2.out.size; omega))
    have HLV := Lib.hid hl
    have HLL := Lib.hid hll
    have HWF := Lib.hid hwf
    clear hno hyes hl hown hwf hlen
    go_wp2_with fail
    refine (raddrs_any base w3 r NV AV R (HH.out.fresh HB3.out) HW.out.kn HW.out.ka).mono ?_
    rintro e w4 ⟨u4, rfl, hu4, hb4⟩
    rw [raddrs_abs HW.out] at hu4
    obtain ⟨A4, c4, rfl⟩ := hu4.shape
    have HU4 := Lib.hid hu4
    have HB4 := Lib.hid (below_then HB3.out HB3.out.size hb4)
    have HI4 := Lib.hid (HI3.out.fresh hb4)
    have hal := hW.wel.addrs_len
    clear hb4 hu4
    go_wp2_with fail
    go_loopw [8, 10] (fun u i wr => ∃ (n : Nat) (xs : List Int), n ≤ R.abs.addrs.length ∧ i = .int .i64 n ∧ xs = (R.abs.addrs.take n).filter (fun x => decide (0 ≤ atL L x)) ∧ wr.ownsRow w4.heap.size 3 1 u xs.length (xs.map (Value.int .i64)) ∧ Below w4.heap.size w4 wr) (fun _ i _ => R.abs.addrs.length - (intOf i).toNat)
    case atStart => exact ⟨0, [], Nat.zero_le _, rfl, rfl, row_of_nil _ _ _, Below.refl _ _⟩
    case round =>
      obtain ⟨n, xs, hn, rfl, hxs, hown, hb⟩ := hrel
      have HXS := Lib.hid hxs
      have OWN := Lib.hid hown
      have HB := Lib.hid hb
      have zb := hb.size
      have hxl : xs.length ≤ n := by
        rw [hxs]
        have h1 := List.length_filter_le (fun x => decide (0 ≤ atL L x)) (R.abs.addrs.take n)
        have h2 := List.length_take_le n R.abs.addrs
        omega
      by_cases hlt : n < R.abs.addrs.length
      · obtain ⟨ad, eA, hc⟩ := Ints.cell (HU4.out.fresh hb) hlt
        have hx := List.getElem?_eq_getElem hlt
        have hwf := Ints.wf HU4.out R.abs.addrs[n] (List.getElem_mem _)
        generalize R.abs.addrs[n] = y at hc hx hwf
        have HX := Lib.hid hx
        have HLT := Lib.hid (show n + 1 ≤ R.abs.addrs.length from hlt)
        have HW2 := Lib.hid hwf
        subst eA
        clear hx hxs hown hb hwf
        go_wp2_with fail
        refine (has_any _ wr _ L y (HI4.out.fresh HB.out)).mono ?_
        rintro e w5 ⟨rfl, rfl⟩
        cases he : decide (0 ≤ atL L y) with
        | false =>
          have HY := Lib.hid he
          clear he
          go_wp2_with fail
          go_roundw
          case rel => exact ⟨n + 1, xs, by have := HLT.out; omega, by go_num, by rw [filter_snoc5 _ HX.out, HY.out]; simpa using HXS.out, OWN.out, HB.out⟩
          case measure => have := HLT.out; simp [intOf]; omega
        | true =>
          have HY := Lib.hid he
          clear he
          go_wp2_with (at_builtin; refine wpList_append_ints _ rfl _ _ 23 rfl w4.heap.size 3 Try.underlying23 info3 _ xs.length xs rfl (OWN.out.alloc _) (fun _ => True) _ [y] rfl (ints_oneAt (new0 _ _) HW2.out) (by have := HLT.out; simp; omega) (by simp; omega) ?_; intro st' w10 hown' hg'; have HO := Lib.hid hown'; have HG := Lib.hid hg'; clear hown' hg')
          go_roundw
          case rel => exact ⟨n + 1, xs ++ [y], by have := HLT.out; omega, by go_num, by rw [filter_snoc5 _ HX.out, HY.out, HXS.out]; simp, by simpa using HO.out, (HB.out.alloc zb _).grown HG.out (by simp; omega) (fun q hq => (OWN.out.lt q hq).1)⟩
          case measure => have := HLT.out; simp [intOf]; omega
      · have he : n = R.abs.addrs.length := by omega
        have hx2 : xs = srt L := by
          rw [hxs, he, List.take_length]
          obtain ⟨h1, h2, -, -⟩ := live_has HLV.out
          exact addrs_filter hW.wel h1 h2
        have HX2 := Lib.hid hx2
        have hbe := below_then HB4.out HB4.out.size hb
        have hz4 := HB4.out.size
        have HBE := Lib.hid hbe
        have hxl2 : xs.length * 8 ≤ 140737488355328 := by omega
        have HI := Lib.hid ((ints_of_row (base := w4.heap.size) OWN.out hxl2 (fun z hz => by
          rw [HXS.out] at hz
          have := (List.mem_filter.1 hz).1
          exact Ints.wf HU4.out z (List.mem_of_mem_take this))))
        clear he hxs hown hb hx2 hbe
        go_wp2_with fail
        go_ret2
        refine ⟨HBE.out, (fun hn => by rw [HLV.out] at hn; cases hn), fun L' hL' => ?_⟩
        rw [HLV.out] at hL'
        cases hL'
        refine ⟨_, rfl, ?_⟩
        rw [← HX2.out]
        exact HI.out.mono fun k _ hk => by have hk2 : w4.heap.size ≤ k := hk; omega
end Go.Proofs.Ytobniolmielikaa

/- The reference collector: Graph; no condition. -/
namespace Go.Proofs.Ytobniolmielikaa
open Go.RowKit

set_option maxRecDepth 100000 in
set_option maxHeartbeats 2000000 in
theorem rgraph_any (base : Nat) (ok : Nat → Prop) (w : World) (r : Nat) (NV AV : Value) (R : RM) (rv : Value) (roots : List Int) (hh : RHeapAt base w r NV AV R) (hW : RWel R) (hr : Ints ok w rv roots) (hvol : R.abs.fuel roots ≤ 1000000) :
    Calls Try.prog 40 #[.pointer (some ⟨r, 0, none⟩), rv] w (GraphEnd w R.abs roots) := by
  obtain ⟨A, c, rfl⟩ := hr.shape
  have HH := Lib.hid hh
  have HR := Lib.hid hr
  have HW := Lib.hid hW
  have HV := Lib.hid hvol
  have hs0 : 1 ≤ R.s0 := hW.wel.n1
  have HS0 := Lib.hid hs0
  have hrl := hh.lt
  clear hh hr hvol hs0
  go_enter Try.func40, Try.ntmps40
  go_wp2_with fail
  refine (rlive_any base w r NV AV R HH.out HS0.out).mono ?_
  rintro e w1 ⟨rfl, rfl⟩
  go_wp2_with fail
  refine (rstart_any ok _ roots _ HR.out).mono ?_
  rintro e w2 ⟨u, rfl, hu, hb2⟩
  obtain ⟨Au, cu, rfl⟩ := own_shape hu
  have HB2 := Lib.hid hb2
  have hq2 : Que 0 w2 (.slice Au roots.length cu) roots := by
    have := que_of_row hu HR.out.wf
    rcases this with h | ⟨g, off, cc, cs, e, _, r⟩
    · exact .inl h
    · exact .inr ⟨g, off, cc, cs, e, Nat.zero_le _, r⟩
  have HQ2 := Lib.hid hq2
  clear hq2 hu hb2
  go_wp2_with fail
  refine (order_false base w2 r NV AV R _ roots (HH.out.fresh HB2.out) HQ2.out HW.out.wel.nd HV.out).mono ?_
  rintro e w3 ⟨hb3, hno, hyes⟩
  rw [ordR_live HW.out.wel] at hno hyes
  have HB3 := Lib.hid (below_then HB2.out HB2.out.size hb3)
  clear hb3
  cases hl : R.abs.live roots with
  | none =>
    have he := hno hl
    subst he
    have HNL := Lib.hid hl
    clear hno hyes hl
    go_wp2_with fail
    refine bodyPost_ret (v := .tuple #[.slice none 0 0, .slice none 0 0, .int .i64 35]) (by simp [results, Try.results40, go_sem]) rfl ?_
    exact ⟨HB3.out, fun _ => rfl, fun L hL => by rw [HNL.out] at hL; cases hL⟩
  | some L =>
    obtain ⟨v, he, hown, hwf⟩ := hyes L hl
    subst he
    obtain ⟨Ao, co, rfl⟩ := own_shape hown
    have hlen := bfs_len _ _ _ _ (live_found hl).2
    have hll : L.length ≤ 1000000 := by have := HV.out; simp at hlen; omega
    have HI3 := Lib.hid ((ints_row hown (by omega) hwf).mono (ok' := fun k => w1.heap.size ≤ k) (fun k _ hk => by have := HB2.out.size; omega))
    have HLV := Lib.hid hl
    have HLL := Lib.hid hll
    have HWF := Lib.hid hwf
    clear hno hyes hl hown hwf hlen
    have hb13 := HB3.out.size
    go_wp2_with fail
    go_loopw [9, 10] (fun u i wr => ∃ (k : Nat) (l : List It), k ≤ L.length ∧ i = .int .i64 k ∧ l.length = k ∧ ObsM w1.heap.size w3 ((L.take k).map fun a => mvO L 0 (R.abs.ob a)) u l wr) (fun _ i _ => L.length - (intOf i).toNat)
    case atStart => exact ⟨0, [], Nat.zero_le _, rfl, rfl, ⟨World.ownsRow_nil _ _ _ _, rfl, by simp, Below.refl _ _⟩⟩
    case round =>
      obtain ⟨k, l, hk, rfl, hln, hs⟩ := hrel
      obtain ⟨Av, cv, rfl⟩ := hs.own.shape
      have HS := Lib.hid hs
      have zw := hs.bel.size
      have HBw := Lib.hid (below_then HB3.out hb13 hs.bel)
      by_cases hlt : k < L.length
      · obtain ⟨ad, eA, hc⟩ := Ints.cell (HI3.out.fresh hs.bel) hlt
        have hx := List.getElem?_eq_getElem hlt
        generalize L[k] = x at hx hc
        have HX := Lib.hid hx
        have HLN := Lib.hid hln
        have HIr := Lib.hid (HI3.out.fresh hs.bel)
        subst eA
        clear hx hs hln
        go_wp2_with fail
        refine (rget_any base wr r NV AV R x (HH.out.fresh HBw.out)).mono ?_
        rintro e w4 ⟨v4, rfl, hob, hb4⟩
        rw [rob_abs] at hob
        obtain ⟨oa, oc, ob, od, rfl⟩ := hob.open
        have HOB := Lib.hid hob
        have HB4 := Lib.hid hb4
        obtain ⟨B, hB⟩ : ∃ B : Obj, Obj.cells #[.int .i64 (R.abs.ob x).op, .int .i64 (R.abs.ob x).n, .int .i64 (R.abs.ob x).ar, .slice oa (R.abs.ob x).refs.length oc, .slice ob (R.abs.ob x).words.length od] 25 = B := ⟨_, rfl⟩
        have cb := cellsH (show (w4.alloc B).heap[w4.heap.size]? = _ by rw [new0, ← hB])
        clear hc hob hb4
        go_wp2_with fail
        have hbb : Below wr.heap.size wr (w4.alloc B) := HB4.out.alloc HB4.out.size B
        refine (rreplaced_any _ _ (w4.alloc B) _ _ (R.abs.ob x) L 0 (ObAt.fresh HOB.out.at ((Below.refl _ _).alloc (Nat.le_refl _) B)) (HIr.out.fresh hbb) (by omega) HLL.out).mono ?_
        rintro e w5 ⟨z, rfl, hz, hb5⟩
        obtain ⟨za, zc, zb', zd, rfl⟩ := hz.open
        have hb15 : Below wr.heap.size wr w5 := below_then hbb hbb.size hb5
        have hz5 := hb5.size
        simp only [World.size_alloc] at hz5
        have hz4 := HB4.out.size
        have hv1 : ∀ q, (Value.slice Av l.length cv).ownBlock = some q → w3.heap.size ≤ q ∧ q < wr.heap.size := fun q hq => HS.out.own.lt q hq
        have hob5 : ObAt (fun q => w1.heap.size ≤ q ∧ (Value.slice Av l.length cv).ownBlock ≠ some q) w5 (It.val ⟨0, mvO L 0 (R.abs.ob x), za, zc, zb', zd⟩) (mvO L 0 (R.abs.ob x)) :=
          hz.at.mono fun q _ hq => ⟨by have h1 : (w4.alloc B).heap.size ≤ q := hq.1; simp at h1; omega, fun e => by have h1 : (w4.alloc B).heap.size ≤ q := hq.1; simp at h1; have := (hv1 q e).2; omega⟩
        obtain ⟨gA, capA, wA, hrun, hown, hgr, hat⟩ := rowO_append ((HS.out.fresh hb15).own) ((HS.out.fresh hb15).bel.size) (by have := HLN.out; have := HLL.out; omega) ⟨0, mvO L 0 (R.abs.ob x), za, zc, zb', zd⟩ 69
        have NEXT := Lib.hid ((HS.out.fresh hb15).push hown hgr hat hob5)
        simp only [It.arr5] at hrun
        clear hz hb5 hb15 hbb cb hown hgr hB hob5 hv1 hat
        go_wp2_with (at_builtin; refine wpList_append_run _ rfl _ _ 69 rfl _ _ rfl rfl _ _ hrun ?_)
        go_roundw
        case rel => exact ⟨k + 1, l ++ [⟨0, mvO L 0 (R.abs.ob x), za, zc, zb', zd⟩], by omega, by go_num, by simp [HLN.out], by rw [take_snocG _ HX.out]; have := NEXT.out; simpa using this⟩
        case measure => simp [intOf]; omega
      · have he : k = L.length := by omega
        subst he
        have HIr := Lib.hid (HI3.out.fresh hs.bel)
        have HRr := Lib.hid (HR.out.fresh HBw.out)
        clear hs hln
        go_wp2_with fail
        refine (moved_any _ _ wr _ _ roots L 0 HRr.out HIr.out (by omega) HLL.out).mono ?_
        rintro e w6 ⟨z, rfl, hz, hzw, hb6⟩
        have hmi := ints_row (by have := hz; rw [← List.length_map (f := mv L 0)] at this; exact this) (by have := HRr.out.len; simp; omega) hzw
        obtain ⟨Az, cz, rfl⟩ := own_shape hz
        have HMI := Lib.hid hmi
        have HB6 := Lib.hid (below_then HBw.out HBw.out.size hb6)
        have hzz := HBw.out.size
        have HS6 := Lib.hid (HS.out.fresh hb6)
        clear hz hzw hb6 hmi
        go_wp2_with fail
        refine bodyPost_ret (v := .tuple #[.slice Az roots.length cz, .slice Av l.length cv, .int .i64 0]) (by simp [results, Try.results40, go_sem]) rfl ?_
        refine ⟨HB6.out, (fun hn => by rw [HLV.out] at hn; cases hn), fun L' hL' => ?_⟩
        rw [HLV.out] at hL'
        cases hL'
        refine ⟨_, _, l, rfl, HMI.out.mono fun q _ hq => by (have hq2 : wr.heap.size ≤ q := hq); omega, OwnO.base HS6.out.own hb13, ?_, fun y hy => (HS6.out.obs y hy).mono fun q _ hq => hq.1⟩
        have h1 := HS6.out.abs
        rw [List.take_length] at h1
        exact h1
end Go.Proofs.Ytobniolmielikaa

/- The walk of the law CollectGraph; no condition. -/
namespace Go.Proofs.Ytobniolmielikaa
open Go.RowKit

/-- What both Reach answer, and both Graph. -/
def reaX (o : Option (List Int)) : List Int := match o with | none => [] | some L => srt L
def reaE (o : Option (List Int)) : Int := match o with | none => 35 | some _ => 0
def graX (roots : List Int) (o : Option (List Int)) : List Int := match o with | none => [] | some L => roots.map (mv L 0)
def graO (f : Int → Ob) (o : Option (List Int)) : List Ob := match o with | none => [] | some L => L.map fun a => mvO L 0 (f a)
structure ReaU (w : World) (o : Option (List Int)) (e : Ending) (w' : World) : Prop where
  bel : Below w.heap.size w w'
  ret : ∃ v, e = .returned (.tuple #[v, .int .i64 (reaE o)]) ∧ Ints (w.heap.size ≤ ·) w' v (reaX o)
structure GraU (w : World) (f : Int → Ob) (roots : List Int) (o : Option (List Int)) (e : Ending) (w' : World) : Prop where
  bel : Below w.heap.size w w'
  ret : ∃ v u l, e = .returned (.tuple #[v, u, .int .i64 (reaE o)]) ∧ Ints (w.heap.size ≤ ·) w' v (graX roots o) ∧ OwnO w.heap.size w' u l ∧ l.map (·.o) = graO f o ∧ ∀ x ∈ l, ObAt (w.heap.size ≤ ·) w' x.val x.o
theorem reaU_of {w w' : World} {e : Ending} {o : Option (List Int)} (hb : Below w.heap.size w w') (hno : o = none → e = .returned (.tuple #[.slice none 0 0, .int .i64 35])) (hy : ∀ L, o = some L → ∃ v, e = .returned (.tuple #[v, .int .i64 0]) ∧ Ints (w.heap.size ≤ ·) w' v (srt L)) : ReaU w o e w' := by
  cases o with
  | none => exact ⟨hb, _, hno rfl, Ints.nil _ _⟩
  | some L => exact ⟨hb, hy L rfl⟩
theorem graU_of {w w' : World} {e : Ending} {H : HM} {roots : List Int} (g : GraphEnd w H roots e w') : GraU w H.ob roots (H.live roots) e w' := by
  obtain ⟨hb, hno, hy⟩ := g
  cases hl : H.live roots with
  | none => exact ⟨hb, _, _, [], hno hl, Ints.nil _ _, World.ownsRow_nil _ _ _ _, rfl, by simp⟩
  | some L => exact ⟨hb, hy L hl⟩
theorem graO_len {H : HM} {roots : List Int} {l : List It} (hB : Bnd H) (hr : roots.length ≤ 20) (h : l.map (·.o) = graO H.ob (H.live roots)) : l.length ≤ 1000000 := by
  have hf := hB.fuel hr
  cases hl : H.live roots with
  | none =>
    rw [hl] at h
    have := congrArg List.length h
    simp [graO] at this
    subst this
    simp
  | some L =>
    rw [hl] at h
    have h1 := congrArg List.length h
    simp only [graO, List.length_map] at h1
    have h2 := bfs_len _ _ _ _ (live_found hl).2
    have h3 : ([] : List Int).length = 0 := rfl
    omega

set_option maxRecDepth 100000 in
set_option maxHeartbeats 8000000 in
theorem collectGraph_law (w : World) (n o : Int) (v1 v2 rv : Value) (l1 l2 : List It) (roots : List Int) (hi : HeapIn w v1 v2 l1 l2) (hr : Ints (· < w.heap.size) w rv roots) :
    Calls Try.prog 9 #[.agg #[.int .i64 n, .int .i64 o, v1, v2], rv] w fun e w' => e = .returned (.bool true) ∧ Below w.heap.size w w' := by
  obtain ⟨A1, c1, rfl⟩ := hi.r1.shape
  obtain ⟨A2, c2, rfl⟩ := hi.r2.shape
  obtain ⟨A, c, rfl⟩ := hr.shape
  have HI := Lib.hid hi
  have HR := Lib.hid hr
  clear hi hr
  obtain ⟨X0, hX0⟩ : ∃ X : Obj, Obj.cells #[.int .i64 n, .int .i64 o, .slice A1 l1.length c1, .slice A2 l2.length c2] 62 = X := ⟨_, rfl⟩
  have B0 := Lib.hid ((Below.refl w.heap.size w).alloc (Nat.le_refl _) X0)
  have X62 := Lib.hid (show (w.alloc X0).heap[w.heap.size]? = some (.cells #[.int .i64 n, .int .i64 o, .slice A1 l1.length c1, .slice A2 l2.length c2] 62) by rw [hX0]; exact new0 _ _)
  have zx : (w.alloc X0).heap.size = w.heap.size + 1 := by simp
  go_enter Try.func9, Try.ntmps9
  go_upto_region 1 with (fail)
  clear hX0
  generalize w.alloc X0 = wx at *
  have cx := box62 X62.out
  go_wp2_with fail
  refine (made34_any (· < w.heap.size) wx n o _ _ l1 l2 (HI.out.r1.fresh B0.out) (HI.out.r2.fresh B0.out) (fun x hx => (HI.out.o1 x hx).fresh B0.out) (fun x hx => (HI.out.o2 x hx).fresh B0.out) (fun k hk => by omega) HI.out.room).mono ?_
  intro e w1 hm
  unfold MadeEnd at hm
  obtain ⟨hb1, hc⟩ := hm
  have B1 := Lib.hid (below_then B0.out B0.out.size hb1)
  have Y62 := Lib.hid (rowB hb1 X62.out (heap_lt X62.out))
  have D1 := Lib.hid hb1
  have zz1 := hb1.size
  clear hb1 cx
  have cy := box62 Y62.out
  have HC := Lib.hid hc
  clear hc
  rcases HC.out with ⟨rfl, -⟩ | ⟨h, y, a, r, NV, AV, H, R, rfl, m⟩
  · clear HC
    go_wp2_with fail
    refine (small35_any (· < w.heap.size) (· < w.heap.size) w1 n o _ _ _ l1 l2 roots (HI.out.r1.fresh B1.out) (HI.out.r2.fresh B1.out) (HR.out.fresh B1.out)).mono ?_
    rintro e w2 ⟨hb2, b, rfl, -⟩
    have B2 := Lib.hid (below_then B1.out B1.out.size hb2)
    clear hb2 cy
    cases b <;>
    · go_wp2_with fail
      refine (awake_any _).mono ?_
      rintro e w3 ⟨rfl, hb3⟩
      have B3 := Lib.hid (below_then B2.out B2.out.size hb3)
      clear hb3
      go_wp2_with fail
      go_ret
      exact ⟨rfl, B3.out⟩
  have M := Lib.hid m
  clear HC m
  go_wp2_with fail
  refine (small35_any (· < w.heap.size) (· < w.heap.size) w1 n o _ _ _ l1 l2 roots (HI.out.r1.fresh B1.out) (HI.out.r2.fresh B1.out) (HR.out.fresh B1.out)).mono ?_
  rintro e w2 ⟨hb2, b, rfl, hsm⟩
  have B2 := Lib.hid (below_then B1.out B1.out.size hb2)
  have D2 := Lib.hid hb2
  have SM := Lib.hid hsm
  clear hb2 cy hsm
  cases b with
  | false =>
    go_wp2_with fail
    refine (awake_any _).mono ?_
    rintro e w3 ⟨rfl, hb3⟩
    have B3 := Lib.hid (below_then B2.out B2.out.size hb3)
    clear hb3
    go_wp2_with fail
    go_ret
    exact ⟨rfl, B3.out⟩
  | true =>
  have P2 := Lib.hid ((M.out.pair (SM.out rfl)).fresh D2.out)
  have RL := Lib.hid (SM.out rfl).c
  have zz2 := D2.out.size
  have zb2 := B2.out.size
  have HR2 := Lib.hid (HR.out.fresh B2.out)
  clear SM M HI X62 Y62 HR B0 B1 D1 D2
  go_wp2_with fail
  refine (reach_any _ w2 h y a H _ roots P2.out.two.p HR2.out P2.out.wel.n1 P2.out.wel.nd (by have := P2.out.bnd.fuel RL.out; omega)).mono ?_
  rintro e w3 ⟨hb3, hno3, hy3⟩
  obtain ⟨-, v3, rfl, i3⟩ := reaU_of hb3 hno3 hy3
  obtain ⟨A3, c3, rfl⟩ := i3.shape
  have I3 := Lib.hid i3
  have D3 := Lib.hid hb3
  have HR3 := Lib.hid (HR2.out.fresh hb3)
  have zz3 := hb3.size
  clear hb3 hno3 hy3 i3
  go_wp2_with fail
  refine (rreach_any wx.heap.size _ w3 r NV AV R _ roots (P2.out.two.q.fresh D3.out) P2.out.rwel HR3.out (by rw [← P2.out.sim.fuel]; have := P2.out.bnd.fuel RL.out; omega)).mono ?_
  intro e w4 hq
  obtain ⟨hb4, hno4, hy4⟩ := hq
  rw [← P2.out.sim.live] at hno4 hy4
  obtain ⟨-, v4, rfl, i4⟩ := reaU_of hb4 hno4 hy4
  obtain ⟨A4, c4, rfl⟩ := i4.shape
  have I4 := Lib.hid i4
  have I34 := Lib.hid (I3.out.fresh hb4)
  have D4 := Lib.hid (below_then D3.out D3.out.size hb4)
  have HR4 := Lib.hid (HR3.out.fresh hb4)
  have zz4 := hb4.size
  clear hb4 hno4 hy4 i4
  go_wp2_with fail
  refine (graph_any _ w4 h y a H _ roots (P2.out.two.p.fresh D4.out) HR4.out P2.out.wel.n1 P2.out.wel.nd (by have := P2.out.bnd.fuel RL.out; omega)).mono ?_
  intro e w5 hg
  obtain ⟨hb5, v5, u5, l5, rfl, i5, o5, m5, ob5⟩ := graU_of hg
  obtain ⟨A5, c5, rfl⟩ := i5.shape
  obtain ⟨U5, k5, rfl⟩ := o5.shape
  have I5 := Lib.hid i5
  have O5 := Lib.hid o5
  have M5 := Lib.hid m5
  have OB5 := Lib.hid ob5
  have I35 := Lib.hid (I34.out.fresh hb5)
  have I45 := Lib.hid (I4.out.fresh hb5)
  have D5 := Lib.hid (below_then D4.out D4.out.size hb5)
  have HR5 := Lib.hid (HR4.out.fresh hb5)
  have zz5 := hb5.size
  clear hb5 hg i5 o5 m5 ob5
  go_wp2_with fail
  refine (rgraph_any wx.heap.size _ w5 r NV AV R _ roots (P2.out.two.q.fresh D5.out) P2.out.rwel HR5.out (by rw [← P2.out.sim.fuel]; have := P2.out.bnd.fuel RL.out; omega)).mono ?_
  intro e w6 hg
  obtain ⟨hb6, v6, u6, l6, he6, i6, o6, m6, ob6⟩ := graU_of hg
  rw [← P2.out.sim.live] at he6 i6 m6
  rw [← P2.out.sim.ob] at m6
  subst he6
  obtain ⟨A6, c6, rfl⟩ := i6.shape
  obtain ⟨U6, k6, rfl⟩ := o6.shape
  have I6 := Lib.hid i6
  have O6 := Lib.hid o6
  have M6 := Lib.hid m6
  have OB6 := Lib.hid ob6
  have I36 := Lib.hid (I35.out.fresh hb6)
  have I46 := Lib.hid (I45.out.fresh hb6)
  have I56 := Lib.hid (I5.out.fresh hb6)
  have O56 := Lib.hid (OwnO.fresh O5.out hb6)
  have OB56 := Lib.hid (show ∀ x ∈ l5, ObAt (w4.heap.size ≤ ·) w6 x.val x.o from fun x hx => (OB5.out x hx).fresh hb6)
  have D6 := Lib.hid (below_then D5.out D5.out.size hb6)
  have zz6 := hb6.size
  clear hb6 hg i6 o6 m6 ob6
  go_wp2_with fail
  refine (sameInts_any _ _ w6 _ _ _ I36.out I46.out).mono ?_
  rintro e w7 ⟨rfl, n7, rfl⟩
  have D67 := Lib.hid (below_drewN (Below.refl w6.heap.size w6) n7)
  generalize w6.drewN n7 = w7 at *
  have D7 := Lib.hid (below_then D6.out D6.out.size D67.out)
  go_wp2_with fail
  refine (sameGraph_any _ _ _ _ _ _ w7 _ _ _ _ _ l5 l6 (I56.out.fresh D67.out) (I6.out.fresh D67.out) (OwnO.fresh O56.out D67.out) (OwnO.fresh O6.out D67.out) (fun x hx => (OB56.out x hx).fresh D67.out) (fun x hx => (OB6.out x hx).fresh D67.out) (M5.out.trans M6.out.symm) (graO_len P2.out.bnd RL.out M5.out)).mono ?_
  rintro e w8 ⟨rfl, hb8⟩
  have D8 := Lib.hid (below_then D7.out D7.out.size hb8)
  clear hb8
  go_wp2_with fail
  refine (like_any _ w8 h y a r NV AV H R (P2.out.two.fresh D8.out) P2.out.alike).mono ?_
  rintro e w9 ⟨rfl, hb9⟩
  have D9 := Lib.hid (below_then D8.out D8.out.size hb9)
  clear hb9
  go_wp2_with fail
  refine (awake_any _).mono ?_
  rintro e w10 ⟨rfl, hb10⟩
  have B10 := Lib.hid (below_then B2.out B2.out.size (below_then D9.out D9.out.size hb10))
  clear hb10
  go_wp2_with fail
  go_ret
  exact ⟨rfl, B10.out⟩
end Go.Proofs.Ytobniolmielikaa

/- The statement CollectGraph, where what it reads is of bulk at most 1048576: for every heap and roots the call answers true and turns nothing; no other condition. -/
namespace Go.Proofs.Ytobniolmielikaa
open Go.ChangeShapes Go.WideShapes Go.ChangeAt Go.RowKit Go.Joins

set_option maxRecDepth 100000 in
theorem collectGraph_lifted (os : Os) (started : os.Started) (H : Type) (enc : TypeId × Value → H) (F : Stop.Interp) :
    ReturnsInHanded {} Try.checked os 9 .any ((Rows.OpenSpec.upto Rows.collectGraphSpec).pre6 enc Try.prog Try.f9 Rows.collectGraphUptoRow.domain false) (((Rows.OpenSpec.upto Rows.collectGraphSpec).at F).post enc Try.prog Try.f9 false true false false) :=
  law_upto (s := Rows.collectGraphSpec) os started enc F (by kernel_rfl) Try.func9 rfl Try.underlying4 (by kernel_rfl) rfl
    (fun ds h => by match ds, h with | [_, _], _ => rfl)
    (OpenSpec.witness (enc := enc) (C := Try.checked) (s := Rows.OpenSpec.upto Rows.collectGraphSpec) (k := Rows.uptoSmall) rfl false ⟨#[], #[.agg #[.int .i64 0, .int .i64 0, .slice none 0 0, .slice none 0 0], .slice none 0 0], []⟩ 8 (by kernel_rfl) (by kernel_rfl) (by kernel_rfl)
      (x := ([.agg [.agg [.lit (.int .i64 0), .lit (.int .i64 0)], .nil, .nil], .nil], [], [])) (by kernel_rfl) rfl (by kernel_rfl))
    (fun W base args ds p hval hA hsz hb => by
      rw [Try.params9] at hA hval hsz
      obtain ⟨v0, vs0, d0, ds0, p0, q0, hargs, rfl, rfl, h0, r0⟩ := trodAll_cons hA
      obtain ⟨v1, vs1, d1, ds1, p1, q1, rfl, rfl, rfl, h1, r1⟩ := trodAll_cons r0
      obtain ⟨rfl, rfl, rfl⟩ := trodAll_nil r1
      obtain rfl : args = #[v0, v1] := by cases args; simp_all
      obtain ⟨cs, rfl, hcs⟩ := okWide_struct Try.underlying62 (hval 0 62 v0 rfl rfl)
      obtain ⟨f0, hf0⟩ := h0
      obtain ⟨f1, hf1⟩ := h1
      have hw : ∀ n ∈ DataW.weightsEach Try.prog [62, 23] [d0, d1], n ≤ reachBytes := by simpa using hsz
      simp only [Rows.uptoBulkAll] at hb
      obtain ⟨n, o, v2, v3, l1, l2, e, hi⟩ := heap_of_trod hf0 (fits_each (j := 0) hw rfl rfl) (show Rows.uptoBulk d0 ≤ 1048576 by omega)
      obtain ⟨v, xs, e1, hr⟩ := roots_of_trod hf1 (fits_each (j := 1) hw rfl rfl)
      obtain rfl : cs = #[.int .i64 n, .int .i64 o, v2, v3] := by
        cases cs
        simpa [Value.cells] using e
      obtain ⟨A, len, c, rfl⟩ := okWide_slice Try.underlying23 (hval 1 23 v1 rfl rfl)
      obtain rfl : v = .slice A len c := by simpa [Value.cells] using e1.symm
      exact collectGraph_law W n o v2 v3 _ l1 l2 xs hi hr)

theorem collectGraph_holds : Rows.CollectGraphUptoSaid :=
  OpenClaim.holds_of_cond 9 Try.f9 rfl rfl rfl rfl rfl rfl rfl ⟨rfl, rfl, rfl, rfl, rfl⟩ rfl rfl rfl rfl rfl (by kernel_rfl) Try.func9 (by kernel_rfl)
    (of_decide_eq_true (by kernel_rfl)) (by unfold Func.isWrapper; rw [if_neg (of_decide_eq_false (by kernel_rfl))]; exact ⟨rfl, rfl⟩)
    (fun os started H enc _ F => collectGraph_lifted os started H enc F)

#print axioms collectGraph_holds
end Go.Proofs.Ytobniolmielikaa

