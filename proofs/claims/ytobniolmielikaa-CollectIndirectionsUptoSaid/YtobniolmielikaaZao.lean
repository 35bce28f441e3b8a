/- The reference collector: Minor; no condition.. -/
import Derived.Test.YtobniolmielikaaZal
import Derived.Test.YtobniolmielikaaZan
/- The reference collector: Minor; no condition. -/
namespace Go.Proofs.Ytobniolmielikaa
open Go.RowKit

/-- What the old generation will hold, as the reference makes it. -/
def HM.mixR (H : HM) (L : List Int) : List (Int × Ob) := H.news L ++ H.olds L
structure ItsM (w : World) (m : List (Int × Ob)) (v : Value) (l : List It) (W : World) : Prop where
  own : Own w.heap.size W v l
  abs : absI l = m
  obs : ∀ x ∈ l, ObR w.heap.size W x.val x.o
  bel : Below w.heap.size w W
theorem ItsM.fresh {w W W' : World} {m : List (Int × Ob)} {v : Value} {l : List It} (h : ItsM w m v l W) (hb : Below W.heap.size W W') : ItsM w m v l W' :=
  ⟨h.own.fresh hb, h.abs, fun x hx => (h.obs x hx).fresh hb, below_then h.bel h.bel.size hb⟩
theorem ItsM.push {w W w' : World} {m : List (Int × Ob)} {v v' : Value} {l : List It} {x : It} {row : Obj} (h : ItsM w m v l W) (hown : Own w.heap.size w' v' (l ++ [x])) (hg : (W.alloc row).grownBy w' v.ownBlock) (ho : ObR w.heap.size W x.val x.o) :
    ItsM w (m ++ [(x.a, x.o)]) v' (l ++ [x]) w' := by
  have hb0 : Below W.heap.size W (W.alloc row) := (Below.refl _ _).alloc (Nat.le_refl _) _
  have hs := hg.size
  refine ⟨hown, ?_, ?_, (h.bel.alloc h.bel.size row).grown hg (by have := h.bel.size; simp; omega) (fun g hg => (h.own.row hg).1)⟩
  · rw [← h.abs]
    simp [absI]
  · have hk : ∀ z o, ObR w.heap.size W z o → ObR w.heap.size w' z o := fun z o hz => by
      refine ((hz.fresh hb0).turn (S := fun q => v.ownBlock = some q) (turn_grown hg) ?_)
      rintro b _ hr e
      obtain ⟨_, cs, f, hr2⟩ := h.own.row e
      obtain ⟨cs3, f3, hr3⟩ := hr
      rw [old1 hr2 row] at hr3
      simp at hr3
    intro z hz
    rcases List.mem_append.1 hz with hz | hz
    · exact hk _ _ (h.obs z hz)
    · simp at hz; subst hz; exact hk _ _ ho
theorem Ints.cellAt {ok : Nat → Prop} {w : World} {ad : Addr} {n c : Nat} {xs : List Int} {k : Nat} {x : Int} (h : Ints ok w (.slice (some ad) n c) xs) (hx : xs[k]? = some x) : w.cell? (ad.add k) = some (.int .i64 x) := by
  obtain ⟨hk, rfl⟩ := List.getElem?_eq_some_iff.1 hx
  obtain ⟨ad2, e, hc⟩ := Ints.cell h hk
  cases e
  exact hc
theorem mixR_length {H : HM} (h : Wel H) (L : List Int) : (H.mixR L).length = H.la.length + L.length := by
  unfold HM.mixR
  rw [List.length_append, olds_length h, news_length]
  omega
theorem fitB_mixR {H : HM} (h : Wel H) {L : List Int} (hL : ∀ a ∈ L, H.has a = true) : fitB (H.mixR L) = decide (H.top + L.length ≤ 4611686018427387904) := by
  rw [← fitB_mix h hL]
  unfold HM.mixR HM.mix fitB
  rw [List.all_append, List.all_append, Bool.and_comm]
theorem Que.zero {base : Nat} {w : World} {v : Value} {t : List Int} (h : Que base w v t) : Que 0 w v t := by
  rcases h with h | ⟨g, off, cc, cs, e, _, r⟩
  · exact .inl h
  · exact .inr ⟨g, off, cc, cs, e, Nat.zero_le _, r⟩

set_option maxRecDepth 100000 in
set_option maxHeartbeats 8000000 in
theorem rminor_any (base : Nat) (ok : Nat → Prop) (w : World) (r : Nat) (NV AV : Value) (R : RM) (rv : Value) (roots : List Int) (hh : RHeapAt base w r NV AV R) (hW : RWel R) (hbase : base ≤ w.heap.size) (hr : Ints ok w rv roots) (hvol : R.abs.fuel roots ≤ 500000) :
    Calls Try.prog 48 #[.pointer (some ⟨r, 0, none⟩), rv] w fun e w' => RGcEnd base w r NV AV R roots (R.abs.minor roots) 1 0 (R.abs.mixR (R.abs.minor roots).2).length (R.abs.mixR (R.abs.minor roots).2) e w' := by
  obtain ⟨A, c, rfl⟩ := hr.shape
  have HH := Lib.hid hh
  have HR := Lib.hid hr
  have HW := Lib.hid hW
  have HV := Lib.hid hvol
  have hs0 : 1 ≤ R.s0 := hW.wel.n1
  have HS0 := Lib.hid hs0
  have hrl := hh.lt
  clear hh hr hvol hs0
  go_enter Try.func48, Try.ntmps48
  go_wp2_with fail
  refine (rlive_any base _ r NV AV R (HH.out.fresh ((Below.refl _ _).alloc (Nat.le_refl _) _)) HS0.out).mono ?_
  rintro e w1 ⟨rfl, rfl⟩
  go_wp2_with fail
  refine (within_any base ok _ r NV AV R _ roots (HH.out.fresh ((Below.refl _ _).alloc (Nat.le_refl _) _)) (HR.out.alloc _)).mono ?_
  rintro e w2 ⟨rfl, hb2⟩
  rw [within_abs]
  have hbx := rowB hb2 (new0 w _) (by simp)
  have HBX2 := Lib.hid hbx
  have hb02 := below_then ((Below.refl w.heap.size w).alloc (Nat.le_refl _) (.cells (statA 0 0 0 0) 75)) (by simp) hb2
  have HB2 := Lib.hid hb02
  have hz2 := hb2.size
  simp only [World.size_alloc] at hz2
  clear hbx hb02 hb2
  cases hall : roots.all R.abs.has with
  | false =>
    have HRS := Lib.hid (show R.abs.minor roots = (35, []) by simp [HM.minor, hall])
    clear hall
    have cx := cellsH HBX2.out
    have fx := freeH HBX2.out
    go_wp2_with fail
    clear cx fx
    have c := cellsH (set8_row HBX2.out (.int .i64 0) (.int .i64 0) (.int .i64 0) (.int .i64 0) (.int .i64 0) (.int .i64 0) (.int .i64 0) (.int .i64 0))
    unfold set8 set5 at c
    refine bodyPost_ret (v := .tuple #[.slice none 0 0, .agg (statA 0 0 0 0), .int .i64 35]) (by simp [results, Try.results48, go_sem, c]) rfl ?_
    have hend := rgcEnd_no (base := base) (NV := NV) (AV := AV) (R := R) (s := R.abs.minor roots) (roots := roots) (mi := 1) (ma := 0) (pe := (R.abs.mixR (R.abs.minor roots).2).length) (m := R.abs.mixR (R.abs.minor roots).2) hrl (below_turn HB2.out _) (HH.out.fresh HB2.out) rfl HBX2.out (by rw [HRS.out]; first | decide | exact H0.out) (.int .i64 0) (.int .i64 0) (.int .i64 0) (.int .i64 0) (.int .i64 0) (.int .i64 0) (.int .i64 0) (.int .i64 0)
    rw [HRS.out] at hend ⊢
    exact hend
  | true =>
    have HALL := Lib.hid hall
    clear hall
    go_wp2_with fail
    refine (ryoung_own base ok w2 r NV AV R _ roots (HH.out.fresh HB2.out) (HR.out.fresh HB2.out)).mono ?_
    rintro e w3 ⟨u, rfl, hu, huw, hb3⟩
    rw [filter_yng] at hu huw
    obtain ⟨Au, cu, rfl⟩ := own_shape hu
    have hq3 := que_of_row hu huw
    have HAW := Lib.hid (show ∀ k, (Value.slice Au (roots.filter R.abs.yng).length cu).ownBlock = some k → w2.heap.size ≤ k ∧ k < w3.heap.size from fun k hk => ⟨(hq3.lt hk).1, (hq3.lt hk).2.1⟩)
    have HQ3 := Lib.hid hq3.zero
    have HBX3 := Lib.hid (rowB hb3 HBX2.out (heap_lt HBX2.out))
    have HB3 := Lib.hid (below_then HB2.out HB2.out.size hb3)
    have hz3 := hb3.size
    clear hu huw hq3 hb3
    go_wp2_with fail
    refine (rremembered_any base w3 r NV AV R (HH.out.fresh HB3.out) HW.out.ka).mono ?_
    rintro e w4 ⟨rv4, rfl, hrm, hb4⟩
    rw [rrem_abs HW.out] at hrm
    obtain ⟨Ar, cr, rfl⟩ := hrm.shape
    have HRM := Lib.hid hrm
    have hrml := hrm.len
    have HBX4 := Lib.hid (rowB hb4 HBX3.out (heap_lt HBX3.out))
    have HB4 := Lib.hid (below_then HB3.out HB3.out.size hb4)
    have HQ4 := Lib.hid (HQ3.out.fresh hb4)
    have hz4 := hb4.size
    have hfl := List.length_filter_le R.abs.yng roots
    have hfu : vol R.abs.all [] + roots.length ≤ 500000 := HV.out
    clear hrm hb4
    go_wp2_with fail
    go_loopw [7, 9] (fun v i wr => ∃ (k : Nat) (q : List Int), k ≤ R.abs.rem.length ∧ i = .int .i64 k ∧ Que 0 wr v q ∧ (∀ k, v.ownBlock = some k → (Value.slice Au (roots.filter R.abs.yng).length cu).ownBlock = some k ∨ w4.heap.size ≤ k) ∧ R.abs.gath (R.abs.rem.drop k) q = R.abs.gath R.abs.rem (roots.filter R.abs.yng) ∧
        vol R.abs.all (R.abs.rem.take k) + q.length ≤ R.abs.fuel roots ∧ Turn (fun k => (Value.slice Au (roots.filter R.abs.yng).length cu).ownBlock = some k) w4 wr) (fun _ i _ => R.abs.rem.length - (intOf i).toNat)
    case atStart =>
      refine ⟨0, roots.filter R.abs.yng, Nat.zero_le _, rfl, HQ4.out, fun k hk => .inl hk, rfl, ?_, Turn.refl _ _⟩
      rw [List.take_zero]
      unfold HM.fuel
      omega
    case round =>
      obtain ⟨k, q, hk, rfl, hown, hwf, hgt, hvl, ht⟩ := hrel
      have HAQ := Lib.hid hwf
      obtain ⟨Av, cv, rfl, -⟩ := hown.shape
      have HOWN := Lib.hid hown
      have HGT := Lib.hid hgt
      have HVL := Lib.hid hvl
      have HT := Lib.hid ht
      have hzr := ht.size
      have HBr := Lib.hid (HB4.out.trans (ht.below HB4.out.size (fun k e => by have := (HAW.out k e).1; omega)))
      have HBXr := Lib.hid (rowT ht HBX4.out (fun e => by have := (HAW.out _ e).1; omega))
      have hirm := HRM.out.turn ht (fun k hk e => by have := (HAW.out _ e).2; omega)
      have HIR := Lib.hid hirm
      have hvlq : vol R.abs.all (R.abs.rem.take k) + q.length ≤ 500000 := by unfold HM.fuel at hvl; omega
      by_cases hlt : k < R.abs.rem.length
      · obtain ⟨ad, eA, hc⟩ := Ints.cell hirm hlt
        have hx := List.getElem?_eq_getElem hlt
        generalize R.abs.rem[k] = x at hc hx
        have HX := Lib.hid hx
        subst eA
        clear hown hwf hgt hvl ht hirm hx
        go_wp2_with fail
        refine (rget_any base wr r NV AV R x (HH.out.fresh HBr.out)).mono ?_
        rintro e w5 ⟨v5, rfl, hob, hb5⟩
        rw [rob_abs] at hob
        obtain ⟨oa, oc, ob, od, rfl⟩ := hob.open
        obtain ⟨B, hB⟩ : ∃ B : Obj, Obj.cells #[.int .i64 (R.abs.ob x).op, .int .i64 (R.abs.ob x).n, .int .i64 (R.abs.ob x).ar, .slice oa (R.abs.ob x).refs.length oc, .slice ob (R.abs.ob x).words.length od] 25 = B := ⟨_, rfl⟩
        have hbB : Below wr.heap.size wr (w5.alloc B) := hb5.alloc hb5.size B
        have HBB := Lib.hid hbB
        have hr5 : (w5.alloc B).heap[w5.heap.size]? = some (.cells #[.int .i64 (R.abs.ob x).op, .int .i64 (R.abs.ob x).n, .int .i64 (R.abs.ob x).ar, .slice oa (R.abs.ob x).refs.length oc, .slice ob (R.abs.ob x).words.length od] 25) := by rw [new0, ← hB]
        have HR5 := Lib.hid hr5
        have hob5 := ObAt.fresh hob.at ((Below.refl _ _).alloc (Nat.le_refl _) B)
        obtain ⟨_, _, hev, hrf, -⟩ := hob5
        cases hev
        have hrl5 := hrf.len
        have HRF := Lib.hid hrf
        have cb := cellsH hr5
        have hz5 := hb5.size
        clear hc hob hb5 hbB hr5 hrf
        go_wp2_with fail
        refine (within_any base _ (w5.alloc B) r NV AV R _ (R.abs.ob x).refs ((HH.out.fresh HBr.out).fresh HBB.out) HRF.out).mono ?_
        rintro e w6 ⟨rfl, hb6⟩
        rw [within_abs]
        have HB6 := Lib.hid (below_then HBB.out HBB.out.size hb6)
        have HR6 := Lib.hid (rowB hb6 HR5.out (heap_lt HR5.out))
        have HRF6 := Lib.hid (HRF.out.fresh hb6)
        have HB06 := Lib.hid (below_then HBr.out HBr.out.size HB6.out)
        have hz6 := HB6.out.size
        clear hb6 cb hB
        cases hall : (R.abs.ob x).refs.all R.abs.has with
        | false =>
          have HRS := Lib.hid (show R.abs.minor roots = (35, []) by
            have h1 := HGT.out
            rw [drop_cons HX.out, gath_bad hall] at h1
            simp [HM.minor, HALL.out, surv_bad h1.symm])
          have HBX6 := Lib.hid (rowB HB6.out HBXr.out (heap_lt HBXr.out))
          clear hall
          have cx := cellsH HBX6.out
          have fx := freeH HBX6.out
          go_wp2_with fail
          clear cx fx
          have c := cellsH (set8_row HBX6.out (.int .i64 0) (.int .i64 0) (.int .i64 0) (.int .i64 0) (.int .i64 0) (.int .i64 0) (.int .i64 0) (.int .i64 0))
          unfold set8 set5 at c
          refine bodyPost_ret (v := .tuple #[.slice none 0 0, .agg (statA 0 0 0 0), .int .i64 35]) (by simp [results, Try.results48, go_sem, c]) rfl ?_
          have hend := rgcEnd_no (base := base) (NV := NV) (AV := AV) (R := R) (s := R.abs.minor roots) (roots := roots) (mi := 1) (ma := 0) (pe := (R.abs.mixR (R.abs.minor roots).2).length) (m := R.abs.mixR (R.abs.minor roots).2) hrl (below_turn HB06.out _) (HH.out.fresh HB06.out) rfl HBX6.out (by rw [HRS.out]; first | decide | exact H0.out) (.int .i64 0) (.int .i64 0) (.int .i64 0) (.int .i64 0) (.int .i64 0) (.int .i64 0) (.int .i64 0) (.int .i64 0)
          rw [HRS.out] at hend ⊢
          exact hend
        | true =>
          have HALX := Lib.hid hall
          have cb := cellsH HR6.out
          clear hall
          go_wp2_with fail
          refine (ryoung_own base _ w6 r NV AV R _ (R.abs.ob x).refs (HH.out.fresh HB06.out) HRF6.out).mono ?_
          rintro e w7 ⟨u7, rfl, hu7, huw7, hb7⟩
          rw [filter_yng] at hu7 huw7
          obtain ⟨A7, c7, rfl⟩ := own_shape hu7
          have HVR := Lib.hid (vol_rem HW.out.wel HX.out)
          have hfr := List.length_filter_le R.abs.yng (R.abs.ob x).refs
          have HB7 := Lib.hid (below_then HB6.out HB6.out.size hb7)
          have hz7 := HB7.out.size
          obtain ⟨v8, w8, hrun8, hm8, ht8, ho8⟩ := que_append (HOWN.out.fresh HB7.out) (Nat.zero_le _) (ints_row hu7 (by omega) huw7) (by have := HVR.out; omega) 23
          obtain ⟨Aw, cw, rfl, -⟩ := hm8.shape
          rw [List.length_append] at hm8 ho8
          have HM8 := Lib.hid hm8
          have HT8 := Lib.hid ht8
          have HO8 := Lib.hid ho8
          clear cb hu7 huw7 hb7 hm8 ht8 ho8
          go_wp2_with (at_builtin; refine wpList_append_run _ rfl _ _ 23 rfl _ _ rfl rfl _ _ hrun8 ?_)
          go_roundw
          case rel =>
            refine ⟨k + 1, q ++ (R.abs.ob x).refs.filter R.abs.yng, by omega, by go_num, HM8.out, ?_, ?_, ?_, ?_⟩
            · intro k hk
              rcases HO8.out with e | ⟨gg, e, hge⟩
              · exact HAQ.out k (e ▸ hk)
              · rw [e] at hk; cases hk; exact .inr (by omega)
            · rw [← HGT.out, drop_cons HX.out, gath_cons HALX.out]
            · have h1 := HVL.out; have h2 := HVR.out; rw [List.length_append]; omega
            · refine (HT.out.then HB7.out).under HT8.out ?_
              intro k hk e
              rcases HAQ.out k e with e | e
              · exact e
              · omega
          case measure => simp [intOf]; omega
      · have he : k = R.abs.rem.length := by omega
        subst he
        rw [List.drop_of_length_le (Nat.le_refl _)] at hgt
        have HGQ := Lib.hid (show R.abs.gath R.abs.rem (roots.filter R.abs.yng) = some q from hgt.symm)
        have HVQ := Lib.hid (show R.abs.fuel q ≤ 1000000 by unfold HM.fuel at hvl ⊢; omega)
        obtain ⟨wa, hwa⟩ : ∃ W : World, W = wr := ⟨_, rfl⟩
        subst hwa
        clear hown hwf hgt hvl ht hirm
        go_wp2_with fail
        refine (order_true base wa r NV AV R _ q (HH.out.fresh HBr.out) HOWN.out HW.out.wel.nd HVQ.out).mono ?_
        rintro e w5 ⟨hb5, hno, hyes⟩
        rw [← surv_ord HW.out.wel HALL.out HGQ.out] at hno hyes
        have HB5 := Lib.hid (below_then HBr.out HBr.out.size hb5)
        have HBX5 := Lib.hid (rowB hb5 HBXr.out (heap_lt HBXr.out))
        have HRM5 := Lib.hid (HIR.out.fresh hb5)
        have hz5 := hb5.size
        clear hb5
        cases hsv : R.abs.surv roots with
        | none =>
          have he := hno hsv
          subst he
          have HRS := Lib.hid (show R.abs.minor roots = (35, []) by simp [HM.minor, HALL.out, hsv])
          clear hno hyes hsv
          have cx := cellsH HBX5.out
          have fx := freeH HBX5.out
          go_wp2_with fail
          clear cx fx
          have c := cellsH (set8_row HBX5.out (.int .i64 0) (.int .i64 0) (.int .i64 0) (.int .i64 0) (.int .i64 0) (.int .i64 0) (.int .i64 0) (.int .i64 0))
          unfold set8 set5 at c
          refine bodyPost_ret (v := .tuple #[.slice none 0 0, .agg (statA 0 0 0 0), .int .i64 35]) (by simp [results, Try.results48, go_sem, c]) rfl ?_
          have hend := rgcEnd_no (base := base) (NV := NV) (AV := AV) (R := R) (s := R.abs.minor roots) (roots := roots) (mi := 1) (ma := 0) (pe := (R.abs.mixR (R.abs.minor roots).2).length) (m := R.abs.mixR (R.abs.minor roots).2) hrl (below_turn HB5.out _) (HH.out.fresh HB5.out) rfl HBX5.out (by rw [HRS.out]; first | decide | exact H0.out) (.int .i64 0) (.int .i64 0) (.int .i64 0) (.int .i64 0) (.int .i64 0) (.int .i64 0) (.int .i64 0) (.int .i64 0)
          rw [HRS.out] at hend ⊢
          exact hend
        | some L =>
          obtain ⟨v, he, hown, hwf⟩ := hyes L hsv
          subst he
          obtain ⟨Ao, co, rfl⟩ := own_shape hown
          obtain ⟨hnd, hhas, hyg⟩ := surv_has hsv
          have hll := surv_len HW.out.wel hsv
          have HM := Lib.hid (show R.abs.minor roots = R.abs.limit R.abs.la.length L by simp [HM.minor, HALL.out, hsv])
          have HI5 := Lib.hid ((ints_row hown (by omega) hwf).mono (ok' := fun k => w.heap.size ≤ k) (fun k _ hk => by omega))
          have HND := Lib.hid hnd
          have HHAS := Lib.hid hhas
          have HYG := Lib.hid (show ∀ x ∈ L, R.abs.has x = true ∧ R.abs.yng x = true from fun x hx => ⟨hhas x hx, hyg x hx⟩)
          have HLL := Lib.hid hll
          have hal : R.abs.la.length = R.a.length := absI_length _
          have hla := HW.out.wel.la
          have he2 := HW.out.wel.e2
          have heR : R.abs.eld = R.s1 := rfl
          clear hno hyes hsv hown hwf hnd hhas hyg hll
          go_wp2_with fail
          refine (rlimits_any base w5 r NV AV R (HH.out.fresh HB5.out)).mono ?_
          rintro e w6 ⟨rfl, n6, hw6⟩
          have hb56 : Below w5.heap.size w5 w6 := by rw [hw6]; exact below_drewN (Below.refl _ _) n6
          have HB6 := Lib.hid (below_then HB5.out HB5.out.size hb56)
          clear hw6
          go_wp2_with fail
          refine (rcount_any base w6 r NV AV R (HH.out.fresh HB6.out)).mono ?_
          rintro e w7 ⟨rfl, n7, hw7⟩
          have hb67 : Below w6.heap.size w6 w7 := by rw [hw7]; exact below_drewN (Below.refl _ _) n7
          have hb57 : Below w5.heap.size w5 w7 := hb56.trans (hb67.mono hb56.size)
          have HB7 := Lib.hid (below_then HB5.out HB5.out.size hb57)
          have HBX7 := Lib.hid (rowB hb57 HBX5.out (heap_lt HBX5.out))
          have HI7 := Lib.hid (HI5.out.fresh hb57)
          have HRM7 := Lib.hid (HRM5.out.fresh hb57)
          have hll7 := HLL.out
          clear hw7 hb56 hb67 hb57
          go_wp2_with fail
          have hsub : wrap64 (R.s1 - (R.a.length : Int)) = R.s1 - R.a.length := by unfold wrap64; omega
          refine (limited_any base w7 r NV AV R L.length (R.s1 - R.a.length) (HH.out.fresh HB7.out) HW.out).mono ?_
          rintro e w8 ⟨rfl, hb8⟩
          have hlim := lim_limit (H := R.abs) (n := R.abs.la.length) (L := L)
          rw [show R.abs.eld - ((R.abs.la.length : Nat) : Int) = R.s1 - R.a.length by rw [hal]; rfl] at hlim
          have HLIM := Lib.hid hlim
          have HB8 := Lib.hid (below_then HB7.out HB7.out.size hb8)
          have HBX8 := Lib.hid (rowB hb8 HBX7.out (heap_lt HBX7.out))
          have HI8 := Lib.hid (HI7.out.fresh hb8)
          have HRM8 := Lib.hid (HRM7.out.fresh hb8)
          clear hb8 hlim
          by_cases h0 : lim R.abs L.length (R.s1 - R.a.length) = 0
          · have hM2 : R.abs.minor roots = (0, L) := by
              rw [HM.out]
              rw [HLIM.out] at h0
              by_cases h1 : R.abs.eld < R.abs.la.length + L.length
              · rw [limit_heap h1] at h0; cases h0
              · by_cases h2 : 4611686018427387904 < R.abs.top + L.length
                · rw [limit_range h1 h2] at h0; cases h0
                · exact limit_ok h1 h2
            have hle : ¬ R.abs.eld < R.abs.la.length + L.length ∧ ¬ 4611686018427387904 < R.abs.top + L.length := by
              rw [HM.out] at hM2
              constructor
              · intro h1; rw [limit_heap h1] at hM2; cases hM2
              · intro h2
                by_cases h1 : R.abs.eld < R.abs.la.length + L.length
                · rw [limit_heap h1] at hM2; cases hM2
                · rw [limit_range h1 h2] at hM2; cases hM2
            have HM2 := Lib.hid hM2
            have HLE := Lib.hid hle
            rw [h0]
            clear hM2 hle h0 hsub
            have htop := HW.out.wel.top
            go_wp2_with fail
            refine (base_any base w8 r NV AV R (HH.out.fresh HB8.out) HW.out).mono ?_
            rintro e w9 ⟨rfl, hb9⟩
            have HB9 := Lib.hid (below_then HB8.out HB8.out.size hb9)
            have HBX9 := Lib.hid (rowB hb9 HBX8.out (heap_lt HBX8.out))
            have HI9 := Lib.hid (HI8.out.fresh hb9)
            have HRM9 := Lib.hid (HRM8.out.fresh hb9)
            clear hb9
            go_wp2_with fail
            refine (items40_any base (w.heap.size ≤ ·) w9 r NV AV R _ L (HH.out.fresh HB9.out) HW.out HI9.out (by omega)).mono ?_
            rintro e wb ⟨v8, l8, rfl, hown8, habs8, hob8, hbb⟩
            obtain ⟨A8, c8, rfl⟩ := hown8.shape
            have hll8 : l8.length = L.length := by
              have := congrArg List.length habs8
              rwa [absI_length, news_length] at this
            have ITS := Lib.hid (show ItsM w9 (R.abs.news L) (.slice A8 l8.length c8) l8 wb from ⟨hown8, habs8, hob8, hbb⟩)
            have HL8 := Lib.hid hll8
            have HBb := Lib.hid (below_then HB9.out HB9.out.size hbb)
            clear hown8 habs8 hob8 hbb hll8
            go_wp2_with fail
            refine (raddrs_any base wb r NV AV R (HH.out.fresh HBb.out) HW.out.kn HW.out.ka).mono ?_
            rintro e wc ⟨u10, rfl, hu10, hbc⟩
            rw [raddrs_abs HW.out] at hu10
            obtain ⟨A10, c10, rfl⟩ := hu10.shape
            have HU10 := Lib.hid hu10
            have ITSc := Lib.hid (ITS.out.fresh hbc)
            have hzbc := hbc.size
            have hal10 := HW.out.wel.addrs_len
            have hzb9 := ITS.out.bel.size
            clear hu10 hbc
            go_wp2_with fail
            have hitb : ∀ k, (Value.slice A8 l8.length c8).ownBlock = some k → w9.heap.size ≤ k ∧ k < wb.heap.size := fun k hk => ITS.out.own.lt k hk
            have HITB := Lib.hid hitb
            clear hitb
            go_loopw [20, 22] (fun v i wr => ∃ (k : Nat) (l : List It), k ≤ R.abs.addrs.length ∧ i = .int .i64 k ∧ ItsM w9 (R.abs.news L ++ ((R.abs.addrs.take k).filter fun a => !R.abs.yng a).map fun a => (a, mvO L R.abs.top (R.abs.ob a))) v l wr ∧ l.length ≤ L.length + k ∧ (∀ k, v.ownBlock = some k → (Value.slice A8 l8.length c8).ownBlock = some k ∨ wc.heap.size ≤ k) ∧ Turn (fun k => (Value.slice A8 l8.length c8).ownBlock = some k) wc wr) (fun _ i _ => R.abs.addrs.length - (intOf i).toNat)
            case atStart => exact ⟨0, l8, Nat.zero_le _, rfl, by simpa using ITSc.out, by rw [HL8.out]; omega, fun k hk => .inl hk, Turn.refl _ _⟩
            case round =>
              obtain ⟨k, l, hk, rfl, hs, hln, hob, ht⟩ := hrel
              obtain ⟨Av2, cv2, rfl⟩ := hs.own.shape
              have HS := Lib.hid hs
              have HOB := Lib.hid hob
              have HT := Lib.hid ht
              have HLN := Lib.hid hln
              have zb := hs.bel.size
              have zt := ht.size
              have HBR := Lib.hid (below_then HB9.out HB9.out.size hs.bel)
              have HUr := Lib.hid (HU10.out.turn ht (fun q hq e => by have := (HITB.out q e).2; omega))
              by_cases hlt : k < R.abs.addrs.length
              · obtain ⟨ad, eA, hc⟩ := Ints.cell HUr.out hlt
                have hx := List.getElem?_eq_getElem hlt
                generalize R.abs.addrs[k] = x at hc hx
                have HX := Lib.hid hx
                subst eA
                clear hs hob ht hx hln
                go_wp2_with fail
                refine (rold_any base wr r NV AV R x (HH.out.fresh HBR.out)).mono ?_
                rintro e w11 ⟨rfl, rfl⟩
                cases hy : (Go.Proofs.Ytobniolmielikaa.get (keyed R.a) x).isSome with
                | false =>
                  have HY := Lib.hid (show R.abs.yng x = true by rw [← yng_abs]; simp [RM.yng, hy])
                  clear hy
                  go_wp2_with fail
                  go_roundw
                  case rel =>
                    refine ⟨k + 1, l, by omega, by go_num, ?_, by have := HLN.out; omega, HOB.out, HT.out⟩
                    rw [olds_take HX.out, if_pos HY.out, List.append_nil]
                    exact HS.out
                  case measure => simp [intOf]; omega
                | true =>
                  have HY := Lib.hid (show R.abs.yng x = false by rw [← yng_abs]; simp [RM.yng, hy])
                  clear hy
                  go_wp2_with fail
                  refine (rget_any base w11 r NV AV R x (HH.out.fresh HBR.out)).mono ?_
                  rintro e w12 ⟨v12, rfl, hob, hb12⟩
                  rw [rob_abs] at hob
                  obtain ⟨oa, oc, ob, od, rfl⟩ := hob.open
                  obtain ⟨B, hB⟩ : ∃ B : Obj, Obj.cells #[.int .i64 (R.abs.ob x).op, .int .i64 (R.abs.ob x).n, .int .i64 (R.abs.ob x).ar, .slice oa (R.abs.ob x).refs.length oc, .slice ob (R.abs.ob x).words.length od] 25 = B := ⟨_, rfl⟩
                  have hbB : Below w11.heap.size w11 (w12.alloc B) := hb12.alloc hb12.size B
                  have HBB := Lib.hid hbB
                  have hr5 : (w12.alloc B).heap[w12.heap.size]? = some (.cells #[.int .i64 (R.abs.ob x).op, .int .i64 (R.abs.ob x).n, .int .i64 (R.abs.ob x).ar, .slice oa (R.abs.ob x).refs.length oc, .slice ob (R.abs.ob x).words.length od] 25) := by rw [new0, ← hB]
                  have HR5 := Lib.hid hr5
                  have HO5 := Lib.hid (show ObR w11.heap.size (w12.alloc B) (.agg #[.int .i64 (R.abs.ob x).op, .int .i64 (R.abs.ob x).n, .int .i64 (R.abs.ob x).ar, .slice oa (R.abs.ob x).refs.length oc, .slice ob (R.abs.ob x).words.length od]) (R.abs.ob x) from hob.fresh ((Below.refl _ _).alloc (Nat.le_refl _) B))
                  have cb := cellsH hr5
                  have hz12 := hb12.size
                  have ca := (HUr.out.fresh hbB).cellAt HX.out
                  have HRMr := Lib.hid ((HRM9.out.fresh HS.out.bel).fresh hbB)
                  clear hob hb12 hbB hr5
                  go_wp2_with fail
                  refine (has_any _ (w12.alloc B) _ R.abs.rem x HRMr.out).mono ?_
                  rintro e w13 ⟨rfl, rfl⟩
                  rw [mem_atL]
                  have HSB := Lib.hid (HS.out.fresh HBB.out)
                  have hz13 := HBB.out.size
                  by_cases hmem : x ∈ R.abs.rem
                  · rw [decide_eq_true hmem]
                    clear hmem
                    go_wp2_with fail
                    refine (rreplaced_any _ (w.heap.size ≤ ·) (w12.alloc B) _ _ (R.abs.ob x) L R.abs.top HO5.out.at ((HI9.out.fresh HS.out.bel).fresh HBB.out) htop (by omega)).mono ?_
                    rintro e w14 ⟨z, rfl, hz, hb14⟩
                    obtain ⟨za, zc, zb', zd, rfl⟩ := hz.open
                    have hr14 := rowB hb14 HR5.out (heap_lt HR5.out)
                    have hz14 := hb14.size
                    simp only [World.size_alloc] at hz14
                    have c14 := cellsH hr14
                    have f14 := freeH hr14
                    have HTT : Turn (fun q => q = w12.heap.size) w14 (set5 w14 w12.heap.size (.int .i64 (mvO L R.abs.top (R.abs.ob x)).op) (.int .i64 (mvO L R.abs.top (R.abs.ob x)).n) (.int .i64 (mvO L R.abs.top (R.abs.ob x)).ar) (.slice za (mvO L R.abs.top (R.abs.ob x)).refs.length zc) (.slice zb' (mvO L R.abs.top (R.abs.ob x)).words.length zd)) := set5_turn (S := fun q => q = w12.heap.size) (Turn.refl _ _) rfl _ _ _ _ _
                    have hbx5 : Below w11.heap.size w11 (set5 w14 w12.heap.size (.int .i64 (mvO L R.abs.top (R.abs.ob x)).op) (.int .i64 (mvO L R.abs.top (R.abs.ob x)).n) (.int .i64 (mvO L R.abs.top (R.abs.ob x)).ar) (.slice za (mvO L R.abs.top (R.abs.ob x)).refs.length zc) (.slice zb' (mvO L R.abs.top (R.abs.ob x)).words.length zd)) := (below_then HBB.out HBB.out.size hb14).trans (HTT.below (by omega) (fun q e => by omega))
                    obtain ⟨WW, hWW, hrw, hbw, how⟩ : ∃ W, W = set5 w14 w12.heap.size (.int .i64 (mvO L R.abs.top (R.abs.ob x)).op) (.int .i64 (mvO L R.abs.top (R.abs.ob x)).n) (.int .i64 (mvO L R.abs.top (R.abs.ob x)).ar) (.slice za (mvO L R.abs.top (R.abs.ob x)).refs.length zc) (.slice zb' (mvO L R.abs.top (R.abs.ob x)).words.length zd) ∧ W.heap[w12.heap.size]? = some (.cells #[.int .i64 (mvO L R.abs.top (R.abs.ob x)).op, .int .i64 (mvO L R.abs.top (R.abs.ob x)).n, .int .i64 (mvO L R.abs.top (R.abs.ob x)).ar, .slice za (mvO L R.abs.top (R.abs.ob x)).refs.length zc, .slice zb' (mvO L R.abs.top (R.abs.ob x)).words.length zd] 25) ∧ Below w11.heap.size w11 W ∧ ObR (w12.alloc B).heap.size W (.agg #[.int .i64 (mvO L R.abs.top (R.abs.ob x)).op, .int .i64 (mvO L R.abs.top (R.abs.ob x)).n, .int .i64 (mvO L R.abs.top (R.abs.ob x)).ar, .slice za (mvO L R.abs.top (R.abs.ob x)).refs.length zc, .slice zb' (mvO L R.abs.top (R.abs.ob x)).words.length zd]) (mvO L R.abs.top (R.abs.ob x)) := ⟨_, rfl, set5_row hr14 _ _ _ _ _, hbx5, hz.turn (S := fun q => q = w12.heap.size) HTT (fun q hq _ e => by simp at hq; omega)⟩
                    have HRW := Lib.hid hrw
                    have HBW := Lib.hid hbw
                    have HOW := Lib.hid how
                    have HSW := Lib.hid (HS.out.fresh HBW.out)
                    have HAW2 := Lib.hid (HUr.out.fresh HBW.out)
                    unfold set5 at hWW
                    clear hz hb14 hr14 HTT hbx5 hrw hbw how cb hB ca hc
                    go_wp2_with fail
                    rw [← hWW]
                    clear c14 f14 hWW
                    have cw := cellsH HRW.out
                    have ca := HAW2.out.cellAt HX.out
                    have hzw := HBW.out.size
                    obtain ⟨gA, capA, wA, hrun, hown, hgr, hat⟩ := row_append (HSW.out.own.fresh ((Below.refl _ _).drew)) (by have := HSW.out.bel.size; exact this) (by have := HLN.out; omega) ⟨x, mvO L R.abs.top (R.abs.ob x), za, zc, zb', zd⟩ 60
                    have NEXT := Lib.hid ((HSW.out.fresh ((Below.refl _ _).drew)).push hown hgr ((HOW.out.base (by omega)).fresh ((Below.refl _ _).drew)))
                    have HRUN := Lib.hid hrun
                    have HTA := Lib.hid ((((HT.out.then HBW.out).then ((Below.refl _ _).drew)).then ((Below.refl _ _).alloc (Nat.le_refl _) _)).under (turn_grown hgr) (fun q hq e => by
                      rcases HOB.out q e with e | e
                      · exact e
                      · omega))
                    have HAT := Lib.hid hat
                    clear hrun hown hgr hat
                    go_region_law (first
                      | (refine step_append_it rfl (.tmp 135) (.tmp 142) rfl rfl (.slice Av2 l.length cv2) (.slice (some ⟨WW.heap.size, 0, none⟩) 1 1) (by simp [Act.eval]) (by simp [Act.eval]) _ wA HRUN.out ?_))
                    all_goals go_wp2_with fail
                    all_goals
                      go_roundw
                      case rel =>
                        refine ⟨k + 1, l ++ [⟨x, mvO L R.abs.top (R.abs.ob x), za, zc, zb', zd⟩], by omega, by go_num, ?_, by have := HLN.out; rw [List.length_append]; simp only [List.length_cons, List.length_nil]; omega, ?_, HTA.out⟩
                        · rw [olds_take HX.out, if_neg (by rw [HY.out]; decide), ← List.append_assoc]
                          simpa using NEXT.out
                        · intro q hq
                          cases hq
                          rcases HAT.out with e | e
                          · exact HOB.out _ e
                          · right
                            have e2 : gA = WW.heap.size + 1 := e
                            have z1 := HT.out.size
                            have z2 := HBW.out.size
                            rw [e2]
                            show wc.heap.size ≤ WW.heap.size + 1
                            omega
                      case measure => simp [intOf]; omega
                  · rw [decide_eq_false hmem]
                    have OLD := Lib.hid (mvO_old HY.out hmem HW.out.wel HYG.out R.abs.top)
                    have HRW := Lib.hid HR5.out
                    have HBW := Lib.hid HBB.out
                    have HOW := Lib.hid HO5.out
                    have HSW := Lib.hid (HS.out.fresh HBW.out)
                    have HAW2 := Lib.hid (HUr.out.fresh HBW.out)
                    clear hmem cb ca hc
                    go_wp2_with fail
                    generalize w12.alloc B = WW at *
                    have cw := cellsH HRW.out
                    have ca := HAW2.out.cellAt HX.out
                    have hzw := HBW.out.size
                    obtain ⟨gA, capA, wA, hrun, hown, hgr, hat⟩ := row_append (HSW.out.own.fresh ((Below.refl _ _).drew)) (by have := HSW.out.bel.size; exact this) (by have := HLN.out; omega) ⟨x, R.abs.ob x, oa, oc, ob, od⟩ 60
                    have NEXT := Lib.hid ((HSW.out.fresh ((Below.refl _ _).drew)).push hown hgr ((HOW.out.base (by omega)).fresh ((Below.refl _ _).drew)))
                    have HRUN := Lib.hid hrun
                    have HTA := Lib.hid ((((HT.out.then HBW.out).then ((Below.refl _ _).drew)).then ((Below.refl _ _).alloc (Nat.le_refl _) _)).under (turn_grown hgr) (fun q hq e => by
                      rcases HOB.out q e with e | e
                      · exact e
                      · omega))
                    have HAT := Lib.hid hat
                    clear hrun hown hgr hat
                    go_region_law (first
                      | (refine step_append_it rfl (.tmp 135) (.tmp 142) rfl rfl (.slice Av2 l.length cv2) (.slice (some ⟨WW.heap.size, 0, none⟩) 1 1) (by simp [Act.eval]) (by simp [Act.eval]) _ wA HRUN.out ?_))
                    all_goals go_wp2_with fail
                    all_goals
                      go_roundw
                      case rel =>
                        refine ⟨k + 1, l ++ [⟨x, R.abs.ob x, oa, oc, ob, od⟩], by omega, by go_num, ?_, by have := HLN.out; rw [List.length_append]; simp only [List.length_cons, List.length_nil]; omega, ?_, HTA.out⟩
                        · rw [olds_take HX.out, if_neg (by rw [HY.out]; decide), ← List.append_assoc]
                          rw [OLD.out]
                          simpa using NEXT.out
                        · intro q hq
                          cases hq
                          rcases HAT.out with e | e
                          · exact HOB.out _ e
                          · right
                            have e2 : gA = WW.heap.size + 1 := e
                            have z1 := HT.out.size
                            have z2 := HBW.out.size
                            rw [e2]
                            show wc.heap.size ≤ WW.heap.size + 1
                            omega
                      case measure => simp [intOf]; omega
              · have he : k = R.abs.addrs.length := by omega
                subst he
                have hmx : R.abs.news L ++ ((R.abs.addrs.take R.abs.addrs.length).filter fun a => !R.abs.yng a).map (fun a => (a, mvO L R.abs.top (R.abs.ob a))) = R.abs.mixR L := by rw [List.take_length]; rfl
                rw [hmx] at hs
                obtain ⟨wa2, hwa2⟩ : ∃ W : World, W = wr := ⟨_, rfl⟩
                subst hwa2
                have HSE := Lib.hid hs
                have HIe := Lib.hid (HI9.out.fresh hs.bel)
                have HBXe := Lib.hid (rowB hs.bel HBX9.out (heap_lt HBX9.out))
                have hlm : l.length = (R.abs.mixR L).length := by
                  have := congrArg List.length hs.abs
                  rwa [absI_length] at this
                have hlm2 := mixR_length HW.out.wel L
                have HLM := Lib.hid hlm
                have HLM2 := Lib.hid hlm2
                have HL3 := Lib.hid (show l.length = R.a.length + L.length by rw [hlm, hlm2, hal])
                clear hlm hlm2
                clear hs hob ht hln hmx
                go_wp2_with fail
                refine (moved_any ok (w.heap.size ≤ ·) wa2 _ _ roots L R.abs.top (HR.out.fresh HBR.out) HIe.out htop (by omega)).mono ?_
                rintro e w11 ⟨z, rfl, hz, hzw, hb11⟩
                obtain ⟨Az, cz, rfl⟩ := own_shape hz
                have HB11 := Lib.hid (below_then HBR.out HBR.out.size hb11)
                have HBX11 := Lib.hid (rowB hb11 HBXe.out (heap_lt HBXe.out))
                have hrl2 := HR.out.len
                have hl1 : roots.length = (roots.map (mv L R.abs.top)).length := by simp
                have hz' : w11.ownsRow wa2.heap.size 3 1 (.slice Az roots.length cz) (roots.map (mv L R.abs.top)).length ((roots.map (mv L R.abs.top)).map (Value.int .i64)) := by rw [← hl1]; exact hz
                have HZ := Lib.hid (intsR_of_row hz' (by rw [← hl1]; omega) hzw)
                have HS11 := Lib.hid (HSE.out.fresh hb11)
                have hz9 := HB9.out.size
                have hzA := HSE.out.bel.size
                clear hz hzw hb11 hz' hl1
                go_wp2_with fail
                refine (rput_any base (w9.heap.size ≤ ·) w11 r NV AV _ _ R [] l (HH.out.fresh HB11.out) (by have := HB11.out.size; omega) HW.out.wel.n2 HW.out.wel.e2 HW.out.nx
                  ⟨none, 0, rfl, Nat.le_refl _, by simp [maxLen], fun _ => rfl, fun h => by simp at h, by simp⟩
                  ((HS11.out.own.raw (by have := HL3.out; omega)).mono fun k _ hk => hk.1) (by have := HL3.out; simp only [List.length_nil]; omega) (fun x hx => by
                    rw [List.nil_append] at hx
                    exact (HS11.out.obs x hx).at.mono fun k _ hk => hk.1) (fun k hk => by omega)).mono ?_
                rintro e w12 ⟨rfl, NV', AV', R', hR', hput, ht12⟩
                have hrep : R.abs.repl (absI []) (absI l) = 0 := by
                  rw [HS11.out.abs]
                  show R.abs.repl [] _ = 0
                  rw [repl_fit (by have := HW.out.wel.n1; omega) (by rw [fitB_mixR HW.out.wel HHAS.out, decide_eq_true]; have := HLE.out.2; omega), if_neg]
                  rw [HLM2.out]
                  have := HLE.out.1
                  omega
                have hR2 := hput.yes hrep
                rw [HS11.out.abs] at hR2
                have hsr : srtI (absI []) = [] := rfl
                rw [hsr] at hR2
                have hnr : ¬ RB r NV AV w.heap.size := by
                  rintro (e | e | e)
                  · omega
                  · obtain ⟨_, cs, f, hr3⟩ := (HH.out.fresh HB11.out).nown.row e
                    rw [HBX11.out] at hr3
                    simp at hr3
                  · obtain ⟨_, cs, f, hr3⟩ := (HH.out.fresh HB11.out).aown.row e
                    rw [HBX11.out] at hr3
                    simp at hr3
                have HBX12 := Lib.hid (rowT ht12 HBX11.out hnr)
                have HZ12 := Lib.hid (HZ.out.turn ht12 (fun k _ hk e => (HH.out.fresh HB11.out).notRB3 k hk e))
                have HT12 := Lib.hid ((below_turn HB11.out (RB r NV AV)).trans ht12)
                have HR12 := Lib.hid hR'
                have HR2 := Lib.hid hR2
                have hzz := HT12.out.size
                clear hR' hput ht12 hrep hR2 hsr hnr
                have cx := cellsH HBX12.out
                have fx := freeH HBX12.out
                go_wp2_with fail
                clear cx fx
                rw [HLM.out]
                have c := cellsH (set8_row HBX12.out (.int .i64 0) (.int .i64 0) (.int .i64 0) (.int .i64 0) (.int .i64 1) (.int .i64 0) (.int .i64 L.length) (.int .i64 (R.abs.mixR L).length))
                unfold set8 set5 at c
                refine bodyPost_ret (v := .tuple #[.slice Az roots.length cz, .agg (statA 1 0 L.length (R.abs.mixR L).length), .int .i64 0]) (by simp [results, Try.results48, go_sem, c]) rfl ?_
                rw [HM2.out]
                refine rgcEnd_yes (base := base) (s := (0, L)) (m := R.abs.mixR L) (roots := roots) (mi := 1) (ma := 0) (pe := (R.abs.mixR L).length) hrl HT12.out HR12.out HR2.out HBX12.out rfl (Ints.mono HZ12.out fun k _ hk => ⟨by omega, ?_⟩) (.int .i64 0) (.int .i64 0) (.int .i64 0) (.int .i64 0) (.int .i64 1) (.int .i64 0) (.int .i64 L.length) (.int .i64 (R.abs.mixR L).length)
                have := heap_lt HBXe.out
                omega
          · have hM2 : R.abs.minor roots = (lim R.abs L.length (R.s1 - R.a.length), []) := by
              rw [HM.out]
              rw [HLIM.out] at h0 ⊢
              by_cases h1 : R.abs.eld < R.abs.la.length + L.length
              · rw [limit_heap h1]
              · by_cases h2 : 4611686018427387904 < R.abs.top + L.length
                · rw [limit_range h1 h2]
                · rw [limit_ok h1 h2] at h0; exact absurd rfl h0
            have HM2 := Lib.hid hM2
            have H0 := Lib.hid h0
            have hb0 : (lim R.abs L.length (R.s1 - R.a.length) == 0) = false := by simpa using h0
            clear hM2 h0 hsub
            generalize lim R.abs L.length (R.s1 - R.a.length) = lm at *
            have cx := cellsH HBX8.out
            have fx := freeH HBX8.out
            go_wp2_with fail
            clear cx fx
            have c := cellsH (set8_row HBX8.out (.int .i64 0) (.int .i64 0) (.int .i64 0) (.int .i64 0) (.int .i64 0) (.int .i64 0) (.int .i64 0) (.int .i64 0))
            unfold set8 set5 at c
            refine bodyPost_ret (v := .tuple #[.slice none 0 0, .agg (statA 0 0 0 0), .int .i64 lm]) (by simp [results, Try.results48, go_sem, c]) rfl ?_
            have hend := rgcEnd_no (base := base) (NV := NV) (AV := AV) (R := R) (s := R.abs.minor roots) (roots := roots) (mi := 1) (ma := 0) (pe := (R.abs.mixR (R.abs.minor roots).2).length) (m := R.abs.mixR (R.abs.minor roots).2) hrl (below_turn HB8.out _) (HH.out.fresh HB8.out) rfl HBX8.out (by rw [HM2.out]; first | decide | exact H0.out) (.int .i64 0) (.int .i64 0) (.int .i64 0) (.int .i64 0) (.int .i64 0) (.int .i64 0) (.int .i64 0) (.int .i64 0)
            rw [HM2.out] at hend ⊢
            exact hend
end Go.Proofs.Ytobniolmielikaa

