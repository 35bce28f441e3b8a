/- Texts of the collector's proof, joined: Sur2, Min. -/
import Derived.Test.YtobniolmielikaaZan
import Derived.Deep.RegionLaw
import Derived.Sort.QuietIn
import Derived.Test.YtobniolmielikaaZal
/- The collector's survivors; no condition. -/
namespace Go.Proofs.Ytobniolmielikaa
open Go.RowKit Go.Shelf
attribute [local go_sem] Oper.semAt_some

set_option maxRecDepth 100000 in
set_option maxHeartbeats 8000000 in
theorem survivors_any (ok : Nat → Prop) (w : World) (g h y a : Nat) (H : HM) (rv : Value) (roots : List Int) (hw : WalkAt w g h false) (hh : HeapAt w h y a H) (hW : Wel H) (hr : Ints ok w rv roots) (hg : ¬ HB h y a g) (hok : ∀ k, ok k → k ≠ g) (hvol : H.fuel roots ≤ 500000) :
    Calls Try.prog 85 #[.pointer (some ⟨g, 0, none⟩), rv] w (SurvEnd w g h H roots) := by
  obtain ⟨A, c, rfl⟩ := hr.shape
  have HH0 := Lib.hid (show ∀ W', Turn (fun k => k = g) w W' → HeapAt W' h y a H from fun W' ht => by
    refine hh.turn ht (fun e => hg (.inl e.symm)) (fun e => hg (.inr (.inl e.symm))) (fun e => hg (.inr (.inr e.symm))) ?_
    rintro k ⟨cs, f, hk⟩ rfl
    unfold WalkAt at hw
    rw [hw] at hk
    simp at hk)
  have HW := Lib.hid hW
  have HV := Lib.hid hvol
  have HG := Lib.hid hg
  have HWK := Lib.hid hw
  have hgl := heap_lt hw
  have hhl := hh.lt
  have hmm := @run_makeMap Try.prog
  obtain ⟨Bx, hBx⟩ : ∃ Bx : Obj, Obj.cells #[.pointer (some ⟨g, 0, none⟩)] 115 = Bx := ⟨_, rfl⟩
  have YA := Lib.hid (young_any ok (w.alloc Bx) h y a H _ roots (hh.alloc Bx) (hr.alloc Bx))
  have cbx := cellsH (show (w.alloc Bx).heap[w.heap.size]? = _ by rw [new0, ← hBx])
  have cg := cellsH (old1 hw Bx)
  clear hh hW hr hg hok hvol hw
  refine (callsIn_wide (n := 4)).1 (callsIn_of_wp_marks Try.func85 rfl trivial ?_ rfl)
  simp only [Try.ntmps85, List.size_toArray, List.length_cons, List.length_nil, Nat.reduceAdd, Nat.reduceSub, Array.replicate_succ, Array.replicate_zero, List.push_toArray, List.append_toArray, List.nil_append, List.cons_append]
  gi_wp2
  refine ⟨trivial, ?_⟩
  refine (callsIn_wide.2 YA.out).mono ?_
  rintro e w1 ⟨u, rfl, hu, huw, hb1⟩
  obtain ⟨Au, cu, rfl⟩ := row_shape hu
  clear cbx cg
  have hbx1 := rowB hb1 (new0 w Bx) (by simp)
  rw [← hBx] at hbx1
  have hz1 := hb1.size
  simp only [World.size_alloc] at hz1 hu
  have hb01 := below_then ((Below.refl w.heap.size w).alloc (Nat.le_refl _) Bx) (by simp) hb1
  have cbx := cellsH hbx1
  have cg := cellsH (HWK.out.fresh hb01)
  have HBX1 := Lib.hid hbx1
  have HB1 := Lib.hid hb01
  have HU := Lib.hid (que_of_row hu huw)
  clear hbx1 hb01 hu huw hb1 hBx
  gi_wp2
  refine ⟨trivial, ?_⟩
  refine (callsIn_wide.2 (remembered_any w1 h y a H (HH0.out w1 (turn_of_below HB1.out (fun k h1 h2 => by omega))) HW.out.ka (by have := HW.out.la; have := HW.out.e2; omega))).mono ?_
  rintro e w2 ⟨r, rfl, hrm, hb2⟩
  obtain ⟨Ar, cr, rfl⟩ := hrm.shape
  have HRM := Lib.hid hrm
  have hrml := hrm.len
  have HBX2 := Lib.hid (rowB hb2 HBX1.out (heap_lt HBX1.out))
  have HB2 := Lib.hid (below_then HB1.out HB1.out.size hb2)
  have HU2 := Lib.hid (HU.out.fresh hb2)
  have HAW := Lib.hid (show ∀ k, (Value.slice Au (roots.filter H.yng).length cu).ownBlock = some k → w.heap.size + 1 ≤ k ∧ k < w1.heap.size from fun k hk => ⟨(HU.out.lt hk).1, (HU.out.lt hk).2.1⟩)
  have hz2 := hb2.size
  have hfl := List.length_filter_le H.yng roots
  have hfu : vol H.all [] + roots.length ≤ 500000 := HV.out
  clear cbx cg hrm hb2
  gi_wp2
  gi_loopw [28, 6] (fun i v wr => ∃ (k : Nat) (q : List Int), k ≤ H.rem.length ∧ i = .int .i64 k ∧ Que (w.heap.size + 1) wr v q ∧ (∀ k, v.ownBlock = some k → (Value.slice Au (roots.filter H.yng).length cu).ownBlock = some k ∨ w2.heap.size ≤ k) ∧ H.gath (H.rem.drop k) q = H.gath H.rem (roots.filter H.yng) ∧
      vol H.all (H.rem.take k) + q.length ≤ H.fuel roots ∧ WalkAt wr g h false ∧ Turn (fun k => k = g ∨ (Value.slice Au (roots.filter H.yng).length cu).ownBlock = some k) w2 wr) (fun i _ _ => H.rem.length - (intOf i).toNat)
  case atStart =>
    refine ⟨0, roots.filter H.yng, Nat.zero_le _, rfl, HU2.out, fun k hk => .inl hk, rfl, ?_, HWK.out.fresh HB2.out, Turn.refl _ _⟩
    rw [List.take_zero]
    unfold HM.fuel
    omega
  case round =>
    obtain ⟨k, q, hk, rfl, hown, hwf, hgt, hvl, hwk, ht⟩ := hrel
    have HAQ := Lib.hid hwf
    obtain ⟨Av, cv, rfl, -⟩ := hown.shape
    have HOWN := Lib.hid hown
    have HGT := Lib.hid hgt
    have HVL := Lib.hid hvl
    have HWKr := Lib.hid hwk
    have HT := Lib.hid ht
    have T0 := Lib.hid ((turn_of_below HB2.out (fun k h1 h2 => by omega) : Turn (fun k => k = g) w w2).under ht (fun k hk e => by rcases e with e | e; exact e; have := (HAW.out k e).1; omega))
    have hzr := ht.size
    have hbxr := rowT ht HBX2.out (fun e => by rcases e with e | e; omega; have := (HAW.out _ e).1; omega)
    have HBXr := Lib.hid hbxr
    have hirm := HRM.out.turn ht (fun k hk e => by rcases e with e | e; omega; have := (HAW.out _ e).2; omega)
    have HIR := Lib.hid hirm
    by_cases hlt : k < H.rem.length
    · obtain ⟨ad, eA, hc⟩ := Ints.cell hirm hlt
      have hx := List.getElem?_eq_getElem hlt
      generalize H.rem[k] = x at hc hx
      have hxh := rem_has HW.out (List.mem_of_getElem? hx)
      have HX := Lib.hid hx
      have HXH := Lib.hid hxh
      have cbx := cellsH hbxr
      subst eA
      clear hown hwf hgt hvl hwk ht hbxr hirm hx hxh
      gi_wp2
      refine ⟨trivial, ?_⟩
      refine (callsIn_wide.2 (object_any wr g h y a H false x HWKr.out (HH0.out wr T0.out))).mono ?_
      rintro e w3 ⟨v3, rfl, hob, hwk3, ht3⟩
      rw [HXH.out] at hwk3
      obtain ⟨oa, oc, ob, od, rfl⟩ := hob.open
      obtain ⟨B, hB⟩ : ∃ B : Obj, Obj.cells #[.int .i64 (H.ob x).op, .int .i64 (H.ob x).n, .int .i64 (H.ob x).ar, .slice oa (H.ob x).refs.length oc, .slice ob (H.ob x).words.length od] 25 = B := ⟨_, rfl⟩
      clear cbx hc
      have hz3 := ht3.size
      have ht4 : Turn (fun k => k = g) wr (w3.alloc B) := ht3.alloc B
      have hwk4 : WalkAt (w3.alloc B) g h false := WalkAt.fresh (by simpa using hwk3) ((Below.refl _ _).alloc (Nat.le_refl _) B)
      have hr4 : (w3.alloc B).heap[w3.heap.size]? = some (.cells #[.int .i64 (H.ob x).op, .int .i64 (H.ob x).n, .int .i64 (H.ob x).ar, .slice oa (H.ob x).refs.length oc, .slice ob (H.ob x).words.length od] 25) := by rw [new0, ← hB]
      have hgw3 := heap_lt hwk3
      have T4 := Lib.hid (T0.out.trans ht4)
      have HT4 := Lib.hid ht4
      have HWK4 := Lib.hid hwk4
      have HR4 := Lib.hid hr4
      have hob4 := ObAt.fresh hob.at ((Below.refl _ _).alloc (Nat.le_refl _) B)
      obtain ⟨_, _, hev, hrf, -⟩ := hob4
      cases hev
      have hrl := hrf.len
      have HRF := Lib.hid hrf
      have c4 := cellsH hr4
      have hnw := Lib.hid (show wr.heap.size ≤ w3.heap.size from hz3)
      clear hob hwk3 ht3 ht4 hwk4 hr4 hrf
      gi_wp2
      clear c4 hB
      have HZ4 := Lib.hid (show w3.heap.size < (w3.alloc B).heap.size from by simp)
      generalize w3.alloc B = W4 at *
      gi_loopw [38] (fun i wi => ∃ j : Nat, j ≤ (H.ob x).refs.length ∧ i = .int .i64 j ∧ WalkAt wi g h (!((H.ob x).refs.take j).all H.has) ∧ Turn (fun k => k = g) W4 wi) (fun i _ => (H.ob x).refs.length - (intOf i).toNat)
      case atStart => exact ⟨0, Nat.zero_le _, rfl, HWK4.out, Turn.refl _ _⟩
      case round =>
        obtain ⟨j, hj, rfl, hwi, hti⟩ := hrel
        have HWI := Lib.hid hwi
        have HTI := Lib.hid hti
        have T5 := Lib.hid (T4.out.trans hti)
        have hbx5 := rowT (HT4.out.trans hti) HBXr.out (by omega)
        have HBX5 := Lib.hid hbx5
        by_cases hlj : j < (H.ob x).refs.length
        · obtain ⟨ad, eA, hc⟩ := Ints.cell (HRF.out.turn hti (fun k hk e => by omega)) hlj
          have hy := List.getElem?_eq_getElem hlj
          generalize (H.ob x).refs[j] = z at hy hc
          have HY := Lib.hid hy
          have cbx := cellsH hbx5
          subst eA
          clear hwi hti hbx5 hy
          gi_wp2
          refine ⟨trivial, ?_⟩
          refine (callsIn_wide.2 (object_any wr g h y a H _ z HWI.out (HH0.out wr T5.out))).mono ?_
          rintro e w6 ⟨v6, rfl, -, hwk6, ht6⟩
          have HWK6 := Lib.hid hwk6
          have HT6 := Lib.hid ht6
          clear cbx hc hwk6 ht6
          gi_wp2
          go_roundw
          case rel =>
            refine ⟨j + 1, by omega, by go_num, ?_, HTI.out.trans HT6.out⟩
            rw [all_take _ HY.out]
            have := HWK6.out
            rw [← Bool.not_and] at this
            exact this
          case measure => simp [intOf]; omega
        · have he : j = (H.ob x).refs.length := by omega
          subst he
          rw [List.take_length] at hwi
          have cbx := cellsH hbx5
          have cwi := cellsH hwi
          have HWI2 := Lib.hid hwi
          clear hwi hti hbx5
          cases hall : (H.ob x).refs.all H.has with
          | false =>
            simp only [hall, Bool.not_false] at cwi HWI2
            have HALL := Lib.hid hall
            clear hall
            gi_wp2
            refine ⟨_, results_tmp2 rfl _ _ _, T5.out, true, _, _, rfl, HWI2.out, fun _ => ?_, (fun e => by cases e)⟩
            have h1 := HGT.out
            rw [drop_cons HX.out, gath_bad HALL.out] at h1
            simp [HM.surv, ← h1]
          | true =>
            simp only [hall, Bool.not_true] at cwi HWI2
            have HALL := Lib.hid hall
            clear hall
            have hr5 := rowT HTI.out HR4.out (by omega)
            have c5 := cellsH hr5
            have hown5 := HOWN.out.turn (HT4.out.trans HTI.out) (fun q hq e => by
              obtain ⟨_, _, cs, f, hr⟩ := HOWN.out.lt hq
              have h1 := HWKr.out
              unfold WalkAt at h1
              rw [e, h1] at hr
              simp at hr)
            have HOWN5 := Lib.hid hown5
            have hhd := HH0.out wr T5.out
            have YY := Lib.hid (young_any _ wr.drew h y a H _ (H.ob x).refs hhd.drew ((HRF.out.turn HTI.out (fun k hk e => by omega)).fresh (Below.refl _ _).drew))
            have HVR := Lib.hid (vol_rem HW.out HX.out)
            have hfr := List.length_filter_le H.yng (H.ob x).refs
            have hz5 : w.heap.size + 1 ≤ wr.heap.size := by have h1 := HT4.out.size; have h2 := HTI.out.size; omega
            clear hr5 hown5 hhd
            gi_wp2
            refine wpIn_only ?_
            go_region_law (first
              | (have hz := HRUN; clear hz; refine step_append_any rfl (.tmp 50) (.tmp 57) 23 rfl rfl (.slice Av q.length cv) (.slice A7 ((H.ob x).refs.filter H.yng).length c7) (by simp [Act.eval]) (by simp [Act.eval]) v8 w8 HRUN.out ?_)
              | (go_simp; go_at_call 105; refine YY.out.mono ?_; rintro e w7 ⟨u7, rfl, hu7, huw7, hb7⟩; obtain ⟨A7, c7, rfl⟩ := row_shape hu7; have hb7' := undrew hb7; obtain ⟨v8, w8, hrun8, hm8, ht8, ho8⟩ := que_append (HOWN5.out.fresh hb7') (by have := hb7'.size; omega) (ints_row hu7 (by omega) huw7) (by have := HVL.out; have := HVR.out; have := HV.out; omega) 23; have HRUN := Lib.hid hrun8; have HM8 := Lib.hid hm8; have HT8 := Lib.hid ht8; have HO8 := Lib.hid ho8; have HB7 := Lib.hid hb7'; clear hu7 huw7 hb7 hb7' hrun8 hm8 ht8 ho8))
            all_goals
              dsimp only [onlyOn]
              gi_wp2
              go_roundw
              case rel =>
                have hs78 : w2.heap.size ≤ w7.heap.size := by have h1 := HT.out.size; have h2 := HT4.out.size; have h3 := HTI.out.size; have h4 := HB7.out.size; omega
                have htt : Turn (fun k => k = g ∨ (Value.slice Au (roots.filter H.yng).length cu).ownBlock = some k) w2 w8 := by
                  refine ((HT.out.trans ((HT4.out.trans HTI.out).mono fun k _ e => .inl e)).then HB7.out).under HT8.out ?_
                  intro k hk e
                  rcases HAQ.out k e with e | e
                  · exact .inr e
                  · omega
                have hng : ∀ k, (Value.slice Av q.length cv).ownBlock = some k → k ≠ g := by
                  rintro k hq rfl
                  obtain ⟨_, _, cs, f, hr⟩ := HOWN.out.lt hq
                  have h1 := HWKr.out
                  unfold WalkAt at h1
                  rw [h1] at hr
                  simp at hr
                refine ⟨k + 1, q ++ (H.ob x).refs.filter H.yng, by omega, by go_num, HM8.out, ?_, ?_, ?_, ?_, htt⟩
                · intro k hk
                  rcases HO8.out with e | ⟨gg, e, hge⟩
                  · exact HAQ.out k (e ▸ hk)
                  · rw [e] at hk; cases hk; exact .inr (by omega)
                · rw [← HGT.out, drop_cons HX.out, gath_cons HALL.out]
                · have h1 := HVL.out; have h2 := HVR.out; rw [List.length_append]; omega
                · exact (HWI2.out.fresh HB7.out).turn HT8.out (fun e => hng _ e rfl)
              case measure => simp [intOf]; omega
    · have he : k = H.rem.length := by omega
      subst he
      rw [List.drop_of_length_le (Nat.le_refl _)] at hgt
      have HGQ := Lib.hid (show H.gath H.rem (roots.filter H.yng) = some q from hgt.symm)
      have HVQ := Lib.hid (show H.fuel q ≤ 1000000 by unfold HM.fuel at hvl ⊢; omega)
      have HNG := Lib.hid (show ∀ k, (Value.slice Av q.length cv).ownBlock = some k → k ≠ g from by
        rintro k hq rfl
        obtain ⟨_, _, cs, f, hr⟩ := HOWN.out.lt hq
        have h1 := HWKr.out
        unfold WalkAt at h1
        rw [h1] at hr
        simp at hr)
      have HWS := Lib.hid (show w.heap.size ≠ g by omega)
      have HWKe := HWKr
      clear hown hwf hgt hvl hwk ht hirm
      have cbx := cellsH hbxr
      have cbx3 := fun B1 => cellsH (old1 hbxr B1)
      have cbx4 := fun B1 B2 => cellsH (old1 (old1 hbxr B1) B2)
      have cbx5 := fun B1 B2 B3 => cellsH (old1 (old1 (old1 hbxr B1) B2) B3)
      clear hbxr
      gi_wp2
      refine ⟨trivial, ?_⟩
      refine (callsIn_wide.2 (reached_any _ g 106 #[.pointer (some ⟨w.heap.size, 0, none⟩)] Av _ cv)).mono ?_
      rintro e w3 ⟨rfl, hw3⟩
      clear cbx cbx3 cbx4 cbx5
      obtain ⟨w2, hw2⟩ : ∃ w2, ((wr.alloc (.cells #[.slice none 0 0] 23)).alloc (.map #[] 0)).alloc (.cells #[.map (some (wr.heap.size + 1))] 52) = w2 := ⟨_, rfl⟩
      rw [hw2] at hw3 ⊢
      have z2 : w2.heap.size = wr.heap.size + 3 := by rw [← hw2]; simp
      have b2 : Below wr.heap.size wr w2 := by rw [← hw2]; exact (((Below.refl _ _).alloc (Nat.le_refl _) _).alloc (by simp) _).alloc (by simp; omega) _
      have r1 : w2.heap[wr.heap.size]? = some (.cells #[.slice none 0 0] 23) := by rw [← hw2]; exact new30 _ _ _ _
      have r2 : w2.heap[wr.heap.size + 1]? = some (.map #[] 0) := by rw [← hw2]; exact new31 _ _ _ _
      have r3 : w2.heap[wr.heap.size + 2]? = some (.cells #[.map (some (wr.heap.size + 1))] 52) := by rw [← hw2]; exact new32 _ _ _ _
      have z3 : w3.heap.size = w2.heap.size + 3 := by rw [hw3]; simp
      have b3 : Below w2.heap.size w2 w3 := by rw [hw3]; exact (((Below.refl _ _).alloc (Nat.le_refl _) _).alloc (by simp) _).alloc (by simp; omega) _
      have q1 : w3.heap[w2.heap.size]? = some (.cells #[.pointer (some ⟨g, 0, none⟩)] 115) := by rw [hw3]; exact new30 _ _ _ _
      have q2 : w3.heap[w2.heap.size + 1]? = some (.cells #[.slice Av q.length cv] 23) := by rw [hw3]; exact new31 _ _ _ _
      have q3 : w3.heap[w2.heap.size + 1 + 1]? = some (.cells #[.func (.func 106) #[] #[.pointer (some ⟨w.heap.size, 0, none⟩)]] 48) := by rw [hw3]; exact new32 _ _ _ _
      have r1' := rowB b3 r1 (by omega)
      have r2' := rowB b3 r2 (by omega)
      have r3' := rowB b3 r3 (by omega)
      have b03 : Turn (fun k => k = g) w w3 := (T0.out.then (show Below wr.heap.size wr w2 from b2)).then b3
      have hg3 : WalkAt w3 g h false := (HWKe.out.fresh b2).fresh b3
      have hHB : ∀ k, HB h y a k → k < w.heap.size := fun k hk => by
        rcases hk with rfl | rfl | rfl
        · exact hhl.1
        · exact hhl.2.1
        · exact hhl.2.2
      have hs1 : w.heap.size ≤ wr.heap.size := T0.out.size
      have GIVE := Lib.hid (reached_it w3 g h y a (w2.heap.size + 1) (w2.heap.size + 1 + 1) w2.heap.size 106 #[.pointer (some ⟨w.heap.size, 0, none⟩)] (.slice Av q.length cv) H q H.yng (fun k => k = wr.heap.size ∨ k = wr.heap.size + 1) hg3 (HH0.out w3 b03) ⟨q2, q3, q1⟩
        (((que_ints2 (ok := fun k => ¬ (k = g ∨ k = wr.heap.size ∨ k = wr.heap.size + 1)) HOWN.out (by have := HVQ.out; unfold HM.fuel at this; omega) (fun k hk => by have h1 := (HOWN.out.lt hk).2.1; have h2 := HNG.out k hk; omega)).fresh b2).fresh b3) HW.out.nd HVQ.out
        (by
          rintro k (rfl | rfl)
          · refine ⟨by omega, by omega, by omega, by omega, fun e => by have := hHB _ e; omega, ?_⟩
            rintro ⟨cs, f, hx⟩
            rw [r1'] at hx
            simp at hx
          · refine ⟨by omega, by omega, by omega, by omega, fun e => by have := hHB _ e; omega, ?_⟩
            rintro ⟨cs, f, hx⟩
            rw [r2'] at hx
            cases hx) ⟨by omega, by omega, by omega, HG.out⟩ (enters_of Try.func106 (by kernel_rfl) rfl)
        (fun W x ht hwx hhx => accept_any W g h y a w.heap.size H false x (rowT ht (rowB b3 (rowB b2 HBXr.out (heap_lt HBXr.out)) (by have := heap_lt HBXr.out; omega)) (by have := heap_lt HBXr.out; have := HWS.out; omega)) hwx hhx))
      have KEEP : Keep w.heap.size wr.heap.size (wr.heap.size + 2) (wr.heap.size + 1) [] (· = g) (fun k => k = wr.heap.size ∨ k = wr.heap.size + 1) w3 := by
        refine ⟨.slice none 0 0, fun _ => False, r1', r3', World.ownsRow_nil _ _ _ _, by simp, ⟨[], ⟨#[], 0, r2', ⟨rfl, by simp, by simp, by simp⟩⟩, .nil⟩, fun k hk => hk.elim, fun k => by simp [Value.ownBlock], ⟨by omega, by omega⟩, by omega, by omega, fun k hk => by cases hk⟩
      have KP := Lib.hid KEEP
      have B03 := Lib.hid b03
      have hz3 : wr.heap.size + 6 = w3.heap.size := by omega
      have Z3 := Lib.hid hz3
      have hgz : g < w3.heap.size := by omega
      clear hz3 KEEP q1 q2 q3 r1 r2 r3 r1' r2' r3' b2 b3 b03 hw3 hw2 z2 z3 hg3 hhl hHB
      gi_wp2
      refine rangeFunc_it (n := 2) (gf := 120) rfl (enters_of Try.func120 (by kernel_rfl) rfl) (fun _ => rfl) GIVE.out okIt_less (fun k hk => by subst hk; exact hgz) (fun xs W l o hl he => endIt_put o hgz hl he) (Keep w.heap.size wr.heap.size (wr.heap.size + 2) (wr.heap.size + 1)) (keep_rounds _ _ _ _) KP.out ?round ?done
      case round =>
        rintro l pre M C ⟨xa, ⟨o1, o2, o3, refs, words⟩, ra, rc, wa, wc⟩ W hMl hwl hlW hkp hok hlen
        dsimp only [It.val]
        obtain ⟨B, hB⟩ : ∃ B : Obj, Obj.cells #[.int .i64 o1, .int .i64 o2, .int .i64 o3, .slice ra refs.length rc, .slice wa words.length wc] 25 = B := ⟨_, rfl⟩
        have HKP := Lib.hid hkp
        have HOK := Lib.hid hok
        have HBB := Lib.hid hB
        have HML := Lib.hid hMl
        clear hkp hok hMl
        gi_wp2
        refine ⟨(Turn.refl C W).alloc B, fun o => ?_⟩
        have ht2 : Turn M W ((W.alloc B).putObj l o) := turn_putObj ((Turn.refl M W).alloc B) (.inl HML.out) o
        have hkp2 := (keep_rounds _ _ _ _).step M _ HKP.out ht2 (fun k hk => .inl hk)
        have hbx2 : ((W.alloc B).putObj l o).heap[W.heap.size]? = some B := (World.putObj_heap_other (by omega)).trans (new0 W B)
        have hz2 : ((W.alloc B).putObj l o).heap.size = W.heap.size + 1 := by rw [World.putObj_size, World.size_alloc]
        have hok2 : OkIt w.heap.size ⟨xa, ⟨o1, o2, o3, refs, words⟩, ra, rc, wa, wc⟩ M C ((W.alloc B).putObj l o) := HOK.out.turn ht2 (by have := (show w.heap.size ≤ w3.heap.size from B03.out.size); omega)
        generalize (W.alloc B).putObj l o = W2 at *
        obtain ⟨v, D, hk2⟩ := hkp2
        obtain ⟨Av, cv, rfl⟩ : ∃ A c, v = .slice A pre.length c := by
          obtain ⟨_, ⟨rfl, h0⟩ | ⟨g', cap, cur, rfl, _⟩⟩ := hk2.row
          · rw [h0]; exact ⟨_, _, rfl⟩
          · exact ⟨_, _, rfl⟩
        have hbase : w.heap.size ≤ W2.heap.size := by have := (show w.heap.size ≤ w3.heap.size from B03.out.size); omega
        obtain ⟨gg, cc, w', hrun, hown, hgr, hat⟩ := run_push hk2.row hbase (by have := HVQ.out; omega) xa
        obtain ⟨p1, p2, p3, ml, p4⟩ := hk2.four (v' := .slice (some ⟨gg, 0, none⟩) (pre.length + 1) cc) hgr
        obtain ⟨W3, hrun3, hm3, ht3, hs3⟩ := run_update_map (P := Try.prog) (t := 52) (k := 3) (e := 25) Try.underlying52 Try.underlying3 p4 xa (.agg #[.int .i64 o1, .int .i64 o2, .int .i64 o3, .slice ra refs.length rc, .slice wa words.length wc])
        have hbo := cellsH hk2.box
        have hbo' := cellsH p1
        have hfo' := freeH p1
        have hbb := cellsH p2
        have hbx := cellsH (rowT p3 (show W2.heap[W.heap.size]? = some (.cells #[.int .i64 o1, .int .i64 o2, .int .i64 o3, .slice ra refs.length rc, .slice wa words.length wc] 25) by rw [hbx2, HBB.out]) (fun e => by have := (keep_rounds _ _ _ _).apart HKP.out _ e; omega))
        have HK2 := Lib.hid hk2
        have HOWN := Lib.hid hown
        have HGR := Lib.hid hgr
        have HAT := Lib.hid hat
        have HM3 := Lib.hid hm3
        have HT3 := Lib.hid ht3
        have HP4 := Lib.hid p4
        have HOK2 := Lib.hid hok2
        have HZ2 := Lib.hid hz2
        clear hz2
        clear hk2 hown hgr hat hm3 ht3 hs3 p4 p3 p2 p1 hok2 ht2 hbx2 hB
        gi_wp2_with (gi_at_builtin; refine wpListIn_append_run _ rfl _ _ 23 rfl _ _ rfl rfl _ _ hrun ?_)
        obtain ⟨e1, C', e2, e3⟩ := HK2.out.push (W3 := W3) HOK2.out hs1 HOWN.out HGR.out HAT.out (fun l' h1 _ => by have e := HP4.out.unique h1; subst e; exact ⟨HM3.out, HT3.out⟩)
        exact ⟨e1, C', e2, fun k hk => (e3 k hk).imp id (fun e => by have := HZ2.out; omega)⟩
      case done =>
        rintro D xs M C W hD hMD ⟨bad, hwk, ht, hn, hs, ho⟩ ⟨v, D', hkp⟩ hdf
        have HWZ := Lib.hid hwk
        have HT9 := Lib.hid ht
        have HN := Lib.hid hn
        have HSS := Lib.hid hs
        have HO := Lib.hid ho
        have HKP := Lib.hid hkp
        have HDF := Lib.hid hdf
        clear hwk ht hn hs ho hkp hdf
        obtain ⟨Aw, cw, rfl⟩ : ∃ A c, v = .slice A xs.length c := by
          obtain ⟨_, ⟨rfl, h0⟩ | ⟨g', cap, cur, rfl, _⟩⟩ := HKP.out.row
          · rw [h0]; exact ⟨_, _, rfl⟩
          · exact ⟨_, _, rfl⟩
        have hbo := cellsH HKP.out.box
        have hbb := cellsH HKP.out.mbox
        gi_wp2
        gi_quiet (fail)
        clear hbo hbb
        gi_wp2
        refine ⟨by simp, .inl ⟨_, _, rfl, run_takeDeferred (show (W.drewN nq).heap[D]? = _ from HDF.out), ?_⟩⟩
        refine ⟨_, results_tmp2 rfl _ _ _, ?_, bad, _, _, rfl, ?_, ?_, ?_⟩
        · exact B03.out.under (turn_putObj (HT9.out.drewN nq) (.inr hD) _) (fun k hk e => by omega)
        · unfold WalkAt
          rw [World.putObj_heap_other (by omega)]
          exact HWZ.out
        · intro e
          simp only [HM.surv, HGQ.out]
          exact HN.out e
        · intro e
          have hfound := bfs_found _ _ _ _ (HSS.out e)
          obtain ⟨f1, f2, f3⟩ := keep_end HKP.out HDF.out nq H HO.out (hfound.nodup (by simp))
          refine ⟨xs.map (·.a), _, ?_, rfl, ?_, f2, f3, by omega⟩
          · simp only [HM.surv, HGQ.out]
            exact HSS.out e
          · exact f1
end Go.Proofs.Ytobniolmielikaa

/- The collector's Minor; no condition. -/
namespace Go.Proofs.Ytobniolmielikaa
open Go.RowKit

theorem turn_g_below {w w1 W : World} {g : Nat} (h0 : Below w.heap.size w w1) (hg : w.heap.size ≤ g) (ht : Turn (fun k => k = g) w1 W) : Below w.heap.size w W := h0.trans (ht.below h0.size (fun k e => by omega))

theorem IntMap.turn {w w' : World} {b : Nat} {ok : Nat → Prop} {M : List (Int × Int)} (h : IntMap w b M) (ht : Turn ok w w') (hb : ¬ ok b) : IntMap w' b M := MapAt.turn h ht hb

set_option maxRecDepth 100000 in
set_option maxHeartbeats 8000000 in
theorem minor_any (ok : Nat → Prop) (w : World) (h y a : Nat) (H : HM) (rv : Value) (roots : List Int) (hh : HeapAt w h y a H) (hW : Wel H) (hr : Ints ok w rv roots) (hok : ∀ k, ok k → ¬ HB h y a k) (hvol : H.fuel roots ≤ 500000) :
    Calls Try.prog 45 #[.pointer (some ⟨h, 0, none⟩), rv] w fun e w' => GcEnd w h y a H roots (H.minor roots) 1 0 (H.mix (H.minor roots).2).length (H.mix (H.minor roots).2) e w' := by
  obtain ⟨A, c, rfl⟩ := hr.shape
  have HH := Lib.hid hh
  have HR := Lib.hid (hr.mono (ok' := fun k => k < w.heap.size ∧ ok k) (fun k h1 h2 => ⟨h1, h2⟩))
  have HW := Lib.hid hW
  have HV := Lib.hid hvol
  have HOK := Lib.hid hok
  have hmm := @run_makeMap Try.prog
  obtain ⟨Z, hZ⟩ : ∃ Z : Obj, Obj.cells (statA 0 0 0 0) 75 = Z := ⟨_, rfl⟩
  have S0 := Lib.hid (start_any ok (w.alloc Z) h y a H _ roots (hh.alloc Z) (hr.alloc Z) hW.n1)
  have NO := Lib.hid (show ∀ w', Below w.heap.size w w' → ∀ err, err ≠ 0 → ∃ H', HeapAt w' h y a H' ∧ Gone H err (H.mix (H.minor roots).2) H' from fun w' hb err hne => ⟨H, hh.fresh hb, ⟨fun _ => rfl, fun e => absurd e hne⟩⟩)
  have hhl := hh.lt
  clear hh hr hvol hok
  go_enter Try.func45, Try.ntmps45
  go_wp2_with fail
  refine S0.out.mono ?_
  rintro e w1 ⟨hyes, hno, hb1⟩
  have hbx := rowB hb1 (new0 w Z) (by simp)
  rw [← hZ] at hbx
  have HBX := Lib.hid hbx
  have hb01 := below_then ((Below.refl w.heap.size w).alloc (Nat.le_refl _) Z) (by simp) hb1
  have HB1 := Lib.hid hb01
  clear hb1 hbx hb01 hZ
  cases hall : roots.all H.has with
  | false =>
    have he := hno hall
    subst he
    have HRS := Lib.hid (show H.minor roots = (35, []) by simp [HM.minor, hall])
    clear hno hyes hall
    have cx := cellsH HBX.out
    have fx := freeH HBX.out
    go_wp2_with fail
    clear cx fx
    have c := cellsH (set8_row HBX.out (.int .i64 0) (.int .i64 0) (.int .i64 0) (.int .i64 0) (.int .i64 0) (.int .i64 0) (.int .i64 0) (.int .i64 0))
    unfold set8 set5 at c
    refine bodyPost_ret (v := .tuple #[.slice none 0 0, .agg (statA 0 0 0 0), .int .i64 35]) (by simp [results, Try.results45, go_sem, c]) rfl ?_
    have hend := gcEnd_no (r := H.minor roots) (roots := roots) (mi := 1) (ma := 0) (pe := (H.mix (H.minor roots).2).length) HH.out.lt (below_turn HB1.out _) (NO.out _ HB1.out _ (by rw [HRS.out]; decide)) HBX.out (by rw [HRS.out]; decide) (.int .i64 0) (.int .i64 0) (.int .i64 0) (.int .i64 0) (.int .i64 0) (.int .i64 0) (.int .i64 0) (.int .i64 0)
    rw [HRS.out] at hend ⊢
    exact hend
  | true =>
    obtain ⟨g, he, hwk, hgz⟩ := hyes hall
    simp only [World.size_alloc] at hgz
    subst he
    have hgl1 := heap_lt hwk
    have HALL := Lib.hid hall
    have HWK := Lib.hid hwk
    have HNG := Lib.hid (show ¬ Go.Proofs.Ytobniolmielikaa.HB h y a g from by rintro (e | e | e) <;> omega)
    clear hno hyes hall hwk
    go_wp2_with fail
    refine (survivors_any (fun k => k < w.heap.size ∧ ok k) w1 g h y a H _ roots HWK.out (HH.out.fresh HB1.out) HW.out (HR.out.fresh HB1.out) HNG.out (fun k hk => by omega) HV.out).mono ?_
    rintro e w2 ⟨ht2, bad, v, m, rfl, hwk2, hbadt, hbadf⟩
    have HT2 := Lib.hid ht2
    have hz12 := ht2.size
    have HB2 := Lib.hid (turn_g_below HB1.out (by omega) ht2)
    have HBX2 := Lib.hid (rowT ht2 HBX.out (by omega))
    have HWK2 := Lib.hid hwk2
    have cwk := cellsH hwk2
    clear ht2 hwk2
    cases bad with
    | true =>
      have hsv := hbadt rfl
      have HRS := Lib.hid (show H.minor roots = (35, []) by simp [HM.minor, HALL.out, hsv])
      clear hbadt hbadf hsv
      have cx := cellsH HBX2.out
      have fx := freeH HBX2.out
      go_wp2_with fail
      clear cx fx
      have c := cellsH (set8_row HBX2.out (.int .i64 0) (.int .i64 0) (.int .i64 0) (.int .i64 0) (.int .i64 0) (.int .i64 0) (.int .i64 0) (.int .i64 0))
      unfold set8 set5 at c
      refine bodyPost_ret (v := .tuple #[.slice none 0 0, .agg (statA 0 0 0 0), .int .i64 35]) (by simp [results, Try.results45, go_sem, c]) rfl ?_
      have hend := gcEnd_no (r := H.minor roots) (roots := roots) (mi := 1) (ma := 0) (pe := (H.mix (H.minor roots).2).length) HH.out.lt (below_turn HB2.out _) (NO.out _ HB2.out _ (by rw [HRS.out]; decide)) HBX2.out (by rw [HRS.out]; decide) (.int .i64 0) (.int .i64 0) (.int .i64 0) (.int .i64 0) (.int .i64 0) (.int .i64 0) (.int .i64 0) (.int .i64 0)
      rw [HRS.out] at hend ⊢
      exact hend
    | false =>
      obtain ⟨L, b, hsv, rfl, hown, hwf, hobj, hbb⟩ := hbadf rfl
      obtain ⟨Ao, co, rfl⟩ := row_shape hown
      obtain ⟨hnd, hhas, -⟩ := surv_has hsv
      have hll := surv_len HW.out hsv
      have HRS := Lib.hid (show H.minor roots = H.limit H.la.length L by simp [HM.minor, HALL.out, hsv])
      have HI2 := Lib.hid (ints_row hown (by omega) hwf)
      have HOBJ := Lib.hid hobj
      have HND := Lib.hid hnd
      have HHAS := Lib.hid hhas
      have HLL := Lib.hid hll
      have hz1 := HB1.out.size
      have HZB := Lib.hid hbb
      clear hbadt hbadf hsv hown hwf hobj hnd hhas hll hbb
      go_wp2_with fail
      refine (count_any w2 h y a H (HH.out.fresh HB2.out)).mono ?_
      rintro e w3 ⟨rfl, n3, hw3⟩
      have hb23 : Below w2.heap.size w2 w3 := by rw [hw3]; exact below_drewN (Below.refl _ _) n3
      have HB3 := Lib.hid (below_then HB2.out HB2.out.size hb23)
      clear hw3
      go_wp2_with fail
      refine (limits_any w3 h y a H (HH.out.fresh HB3.out)).mono ?_
      rintro e w4 ⟨rfl, n4, hw4⟩
      have hb34 : Below w3.heap.size w3 w4 := by rw [hw4]; exact below_drewN (Below.refl _ _) n4
      have hb24 : Below w2.heap.size w2 w4 := hb23.trans (hb34.mono hb23.size)
      have HB4 := Lib.hid (below_then HB2.out HB2.out.size hb24)
      have HBX4 := Lib.hid (rowB hb24 HBX2.out (heap_lt HBX2.out))
      have HWK4 := Lib.hid (HWK2.out.fresh hb24)
      have HI4 := Lib.hid (HI2.out.fresh hb24)
      have HOBJ4 := Lib.hid (HOBJ.out.fresh hb24)
      have HZ24 := Lib.hid hb24.size
      have hlal := HW.out.la
      have he2 := HW.out.e2
      have hll := HLL.out
      clear hw4 hb34 hb23 hb24 cwk
      by_cases hlim : H.eld < H.la.length + L.length
      · have HM2 := Lib.hid (show H.minor roots = (33, []) by rw [HRS.out]; exact limit_heap (by omega))
        have cx := cellsH HBX4.out
        have fx := freeH HBX4.out
        go_wp2_with fail
        clear cx fx
        have c := cellsH (set8_row HBX4.out (.int .i64 0) (.int .i64 0) (.int .i64 0) (.int .i64 0) (.int .i64 0) (.int .i64 0) (.int .i64 0) (.int .i64 0))
        unfold set8 set5 at c
        refine bodyPost_ret (v := .tuple #[.slice none 0 0, .agg (statA 0 0 0 0), .int .i64 33]) (by simp [results, Try.results45, go_sem, c]) rfl ?_
        have hend := gcEnd_no (r := H.minor roots) (roots := roots) (mi := 1) (ma := 0) (pe := (H.mix (H.minor roots).2).length) HH.out.lt (below_turn HB4.out _) (NO.out _ HB4.out _ (by rw [HM2.out]; decide)) HBX4.out (by rw [HM2.out]; decide) (.int .i64 0) (.int .i64 0) (.int .i64 0) (.int .i64 0) (.int .i64 0) (.int .i64 0) (.int .i64 0) (.int .i64 0)
        rw [HM2.out] at hend ⊢
        exact hend
      · go_wp2_with fail
        refine (moves_any (w1.heap.size ≤ ·) w4 h y a H _ L (HH.out.fresh HB4.out) HW.out HI4.out HND.out (by omega)).mono ?_
        rintro e w5 ⟨bt, rfl, hto, hbt, hb5⟩
        have HB5 := Lib.hid (below_then HB4.out HB4.out.size hb5)
        have HTO := Lib.hid hto
        have HI5 := Lib.hid (HI4.out.fresh hb5)
        have HOBJ5 := Lib.hid (HOBJ4.out.fresh hb5)
        have HBX5 := Lib.hid (rowB hb5 HBX4.out (heap_lt HBX4.out))
        have HWK5 := Lib.hid (HWK4.out.fresh hb5)
        have hz45 := hb5.size
        have hz02 := HB2.out.size
        have hz24 := HZ24.out
        have hbt' : w4.heap.size ≤ bt := hbt
        have hgl := heap_lt HWK4.out
        clear hto hbt hb5
        go_wp2_with fail
        refine (addrs_any (w5.alloc (.map #[] 0)) h y a H ((HH.out.fresh HB5.out).alloc _) HW.out.ky HW.out.ka (by have := HW.out.ly; have := HW.out.n2; omega) (by omega)).mono ?_
        rintro e w6 ⟨u6, rfl, hu6, hb6⟩
        obtain ⟨A6, c6, rfl⟩ := hu6.shape
        have hb56 : Below w5.heap.size w5 w6 := below_then ((Below.refl _ _).alloc (Nat.le_refl _) (.map #[] 0)) (by simp) hb6
        have HI6L := Lib.hid (((HI5.out.mono (ok' := fun q => w1.heap.size ≤ q ∧ q < w5.heap.size) (fun q h1 h2 => ⟨by omega, h1⟩)).fresh hb56))
        have HOBJ6L := Lib.hid ((ObjMapO.mono HOBJ5.out (ok' := fun q => w1.heap.size ≤ q ∧ q < w5.heap.size) (fun q h1 h2 => ⟨by omega, h1⟩)).fresh hb56)
        have HM6 := Lib.hid (show MapAt w6 w5.heap.size [] from (MapAt.made w5).below hb6 (by simp))
        have HU6 := Lib.hid (hu6.mono (ok' := fun k => w5.heap.size < k) (fun k _ hk => by simp at hk; omega))
        have HB6 := Lib.hid (below_then HB5.out HB5.out.size hb56)
        have HTO6 := Lib.hid (HTO.out.below hb56)
        have HI6 := Lib.hid (HI5.out.fresh hb56)
        have HOBJ6 := Lib.hid (HOBJ5.out.fresh hb56)
        have HBX6 := Lib.hid (rowB hb56 HBX5.out (heap_lt HBX5.out))
        have HWK6 := Lib.hid (HWK5.out.fresh hb56)
        have hz56 : w5.heap.size < w6.heap.size := by have := hb6.size; simp at this; omega
        have hal := HW.out.addrs_len
        clear hu6 hb6 hb56
        go_wp2_with fail
        -- the old ones
        go_loopw [69] (fun i wr => ∃ k : Nat, k ≤ H.addrs.length ∧ i = .int .i64 k ∧ ObjMapO (fun q => w1.heap.size ≤ q ∧ q ≠ w5.heap.size) wr w5.heap.size (((H.addrs.take k).filter fun a => !H.yng a).map fun a => (a, mvO L H.top (H.ob a))) ∧ WalkAt wr g h false ∧ Turn (fun q => q = g ∨ q = w5.heap.size) w6 wr) (fun i _ => H.addrs.length - (intOf i).toNat)
        case atStart => exact ⟨0, Nat.zero_le _, rfl, ⟨[], HM6.out, .nil⟩, HWK6.out, Turn.refl _ _⟩
        case round =>
          obtain ⟨k, hk, rfl, hom, hwk, ht⟩ := hrel
          have HOM := Lib.hid hom
          have HWKr := Lib.hid hwk
          have HT := Lib.hid ht
          have hsr := ht.size
          have HHr := Lib.hid ((HH.out.fresh HB6.out).turn ht (by omega) (by omega) (by omega) (fun q hq e => by
            obtain ⟨cs, f, hq⟩ := hq
            rcases e with rfl | rfl
            · have h1 := HWK6.out
              unfold WalkAt at h1
              rw [h1] at hq
              simp at hq
            · obtain ⟨es, cl, hm, _⟩ := HM6.out
              rw [hm] at hq
              cases hq))
          have hbl : bt < w5.heap.size := by obtain ⟨es, cl, hm, _⟩ := HTO.out; exact heap_lt hm
          have HTOr := Lib.hid (IntMap.turn HTO6.out ht (by omega))
          by_cases hlt : k < H.addrs.length
          · obtain ⟨ad, eA, hc⟩ := Ints.cell (HU6.out.turn ht (fun q hq e => by omega)) hlt
            have hx := List.getElem?_eq_getElem hlt
            generalize H.addrs[k] = x at hx hc
            have HX := Lib.hid hx
            have HXH := Lib.hid ((HW.out.addr_mem).1 (List.mem_of_getElem? hx))
            subst eA
            clear hx hom hwk ht
            go_wp2_with fail
            refine (old_any wr h y a H x HHr.out).mono ?_
            rintro e w7 ⟨rfl, hb7⟩
            have HB7 := Lib.hid hb7
            clear hc
            cases hy : (Go.Proofs.Ytobniolmielikaa.get H.la x).isSome with
            | false =>
              have HY := Lib.hid (show H.yng x = true by simp [HM.yng, hy])
              clear hy hb7
              go_wp2_with fail
              go_roundw
              case rel =>
                refine ⟨k + 1, by omega, by go_num, ?_, HWKr.out.fresh HB7.out, HT.out.then HB7.out⟩
                rw [olds_take HX.out, if_pos HY.out, List.append_nil]
                exact HOM.out.fresh HB7.out
              case measure => simp [intOf]; omega
            | true =>
              have HY := Lib.hid (show H.yng x = false by simp [HM.yng, hy])
              clear hy
              have hz7 := hb7.size
              clear hb7
              go_wp2_with fail
              refine (object_any w7 g h y a H false x (HWKr.out.fresh HB7.out) (HHr.out.fresh HB7.out)).mono ?_
              rintro e w8 ⟨v8, rfl, hob, hwk8, ht8⟩
              rw [HXH.out] at hwk8
              obtain ⟨oa, oc, ob, od, rfl⟩ := hob.open
              obtain ⟨B, hB⟩ : ∃ B : Obj, Obj.cells #[.int .i64 (H.ob x).op, .int .i64 (H.ob x).n, .int .i64 (H.ob x).ar, .slice oa (H.ob x).refs.length oc, .slice ob (H.ob x).words.length od] 25 = B := ⟨_, rfl⟩
              have hz8 := ht8.size
              have HWK8 := Lib.hid (show WalkAt w8 g h false from hwk8)
              have HT8 := Lib.hid ((HT.out.then HB7.out).trans (ht8.mono fun q _ e => .inl e))
              have HOM8 := Lib.hid (((HOM.out.fresh HB7.out).turn ht8 (by omega) (fun q hq e => by omega)))
              have HOB8 := Lib.hid hob
              have HTO8 := Lib.hid (IntMap.turn (HTOr.out.below HB7.out) ht8 (by omega))
              have cb := cellsH (show (w8.alloc B).heap[w8.heap.size]? = _ by rw [new0, ← hB])
              clear hob hwk8 ht8
              go_wp2_with fail
              obtain ⟨_, _, hev, hrf, hwd⟩ := HOB8.out
              cases hev
              refine (replaced_any _ (w8.alloc B) _ (H.ob x).refs bt (posM H.top L) (Ints.alloc hrf B) (HTO8.out.below ((Below.refl _ _).alloc (Nat.le_refl _) B)) (posM_wf HW.out (by omega))).mono ?_
              rintro e w9 ⟨u, rfl, hu, huw, hb9⟩
              obtain ⟨Au, cu, rfl⟩ := row_shape hu
              have hz9 := hb9.size
              simp only [World.size_alloc] at hu hz9
              have hrb := rowB hb9 (new0 w8 B) (by simp)
              rw [← hB] at hrb
              have hb89 : Below w8.heap.size w8 w9 := below_then ((Below.refl _ _).alloc (Nat.le_refl _) B) (by simp) hb9
              have T10 : Turn (fun q => q = w8.heap.size) w9 (w9.setCell ⟨w8.heap.size, 3, none⟩ (.slice Au (H.ob x).refs.length cu)) := turnSet _ _ _ _
              have hr10 := rowSet hrb 3 (.slice Au (H.ob x).refs.length cu)
              have hb810 : Below w8.heap.size w8 (w9.setCell ⟨w8.heap.size, 3, none⟩ (.slice Au (H.ob x).refs.length cu)) := hb89.setCell (p := ⟨w8.heap.size, 3, none⟩) (Nat.le_refl _) _
              obtain ⟨lm, hlm, hkm⟩ := HOM8.out.fresh hb810
              obtain ⟨w11, hrun, hm11, ht11, hs11⟩ := run_update_map (P := Try.prog) (t := 52) (k := 3) (e := 25) Try.underlying52 Try.underlying3 hlm x (.agg #[.int .i64 (H.ob x).op, .int .i64 (H.ob x).n, .int .i64 (H.ob x).ar, .slice Au (H.ob x).refs.length cu, .slice ob (H.ob x).words.length od])
              have hob10 : ObAt (fun q => w1.heap.size ≤ q ∧ q ≠ w5.heap.size) (w9.setCell ⟨w8.heap.size, 3, none⟩ (.slice Au (H.ob x).refs.length cu)) (.agg #[.int .i64 (H.ob x).op, .int .i64 (H.ob x).n, .int .i64 (H.ob x).ar, .slice Au (H.ob x).refs.length cu, .slice ob (H.ob x).words.length od]) (mvO L H.top (H.ob x)) := by
                have hl1 : (H.ob x).refs.length = ((H.ob x).refs.map (via (posM H.top L))).length := by simp
                have hrl := hrf.len
                have hu' : w9.ownsRow (w8.heap.size + 1) 3 1 (.slice Au (H.ob x).refs.length cu) ((H.ob x).refs.map (via (posM H.top L))).length (((H.ob x).refs.map (via (posM H.top L))).map (Value.int .i64)) := by rw [← hl1]; exact hu
                have hi := ints_row hu' (by rw [← hl1]; omega) huw
                rw [show mvO L H.top (H.ob x) = viaO (posM H.top L) (H.ob x) from (viaO_posM HND.out _).symm]
                refine ⟨_, _, rfl, ?_, ?_⟩
                · exact (hi.turn T10 fun q hq e => by omega).mono fun q _ hq => by omega
                · exact (Ints.fresh hwd hb810).mono fun q _ hq => by have := hq.1; omega
              have hnew : x ∉ (((H.addrs.take k).filter fun a => !H.yng a).map fun a => (a, mvO L H.top (H.ob a))).map (·.1) := by
                intro hin
                simp only [List.map_map, List.mem_map] at hin
                obtain ⟨z, hz, rfl⟩ := hin
                exact take_nodup_new HW.out.addrs_nodup HX.out (List.mem_filter.1 hz).1
              have hob11 := ObjMapO.put hkm hm11 ht11 hob10 (fun q hq => by omega)
              rw [put_new hnew] at hob11
              have HOB11 := Lib.hid hob11
              have HWK11 := Lib.hid (((HWK8.out.fresh hb810).turn ht11 (by omega)))
              have HT11 := Lib.hid ((HT8.out.then hb810).trans (ht11.mono fun q _ e => .inr e))
              have c9 := cellsH hrb
              have f9 := freeH hrb
              have c10 := cellsH hr10
              clear hob11 hnew hob10 ht11 hs11 hm11 hkm hlm hb810 hr10 T10 hb89 hrb hu hb9 hB cb hrf hwd
              go_wp2_with fail
              go_roundw
              case rel =>
                refine ⟨k + 1, by omega, by go_num, ?_, HWK11.out, HT11.out⟩
                rw [olds_take HX.out, if_neg (by rw [HY.out]; decide)]
                exact HOB11.out
              case measure => simp [intOf]; omega
          · have he : k = H.addrs.length := by omega
            subst he
            rw [List.take_length] at hom
            have hom2 : ObjMapO (fun q => w1.heap.size ≤ q ∧ q ≠ w5.heap.size) wr w5.heap.size (H.olds L ++ (H.news L).take 0) := by rw [List.take_zero, List.append_nil]; exact hom
            have HO2 := Lib.hid hom2
            have hbl2 := ObjMapO.lt HOBJ4.out
            have hbl : bt < w5.heap.size := by obtain ⟨es, cl, hm, _⟩ := HTO.out; exact heap_lt hm
            obtain ⟨wA, hwA⟩ : ∃ W : World, W = wr := ⟨_, rfl⟩
            subst hwA
            have HBA := Lib.hid (HB6.out.trans (ht.below HB6.out.size (fun q e => by omega)))
            have HBXA := Lib.hid (rowT ht HBX6.out (by omega))
            have HIA := Lib.hid ((HI6L.out.turn ht (fun q hq e => by have := hq.1; have := hq.2; omega)))
            have HOBJA := Lib.hid ((HOBJ6L.out.turn ht (by have := HZB.out; omega) (fun q hq e => by have := hq.1; have := hq.2; omega)))
            have HROOT := Lib.hid ((HR.out.fresh HB6.out).turn ht (fun q hq e => by have := hq.1; omega))
            clear hom hwk ht hom2
            go_wp2_with fail
            go_loopw [90] (fun i wr => ∃ k : Nat, k ≤ L.length ∧ i = .int .i64 k ∧ ObjMapO (fun q => w1.heap.size ≤ q ∧ q ≠ w5.heap.size) wr w5.heap.size (H.olds L ++ (H.news L).take k) ∧ Turn (fun q => q = w5.heap.size) wA wr) (fun i _ => L.length - (intOf i).toNat)
            case atStart => exact ⟨0, Nat.zero_le _, rfl, HO2.out, Turn.refl _ _⟩
            case round =>
              obtain ⟨k, hk, rfl, hom, hb⟩ := hrel
              have HOM := Lib.hid hom
              have HB := Lib.hid hb
              have zb := hb.size
              by_cases hlt : k < L.length
              · obtain ⟨ad, eA, hc⟩ := Ints.cell (HIA.out.turn hb (fun q hq e => by have := hq.2; omega)) hlt
                have hx := List.getElem?_eq_getElem hlt
                generalize L[k] = x at hx hc
                have hxL : x ∈ L := List.mem_of_getElem? hx
                obtain ⟨oa, oc, ob, od, hlk, hov⟩ := run_lookup_obj (HOBJA.out.turn hb (by have := HZB.out; omega) (fun q hq e => by have := hq.2; omega)) (get_objs H.ob hxL)
                have hlk0 := hlk wr rfl
                have HX := Lib.hid hx
                have HOV := Lib.hid hov
                have HTOq := Lib.hid (IntMap.turn HTOr.out hb (by omega))
                subst eA
                obtain ⟨B, hB⟩ : ∃ B : Obj, Obj.cells #[.int .i64 (H.ob x).op, .int .i64 (H.ob x).n, .int .i64 (H.ob x).ar, .slice oa (H.ob x).refs.length oc, .slice ob (H.ob x).words.length od] 25 = B := ⟨_, rfl⟩
                have cb := cellsH (show (wr.alloc B).heap[wr.heap.size]? = _ by rw [new0, ← hB])
                clear hx hxL hlk hov hom hb
                go_wp2_with fail
                obtain ⟨_, _, hev, hrf, hwd⟩ := HOV.out
                cases hev
                refine (replaced_any _ (wr.alloc B) _ (H.ob x).refs bt (posM H.top L) (hrf.alloc B) (HTOq.out.below ((Below.refl _ _).alloc (Nat.le_refl _) B)) (posM_wf HW.out (by have := HLL.out; omega))).mono ?_
                rintro e w7 ⟨u, rfl, hu, huw, hb7⟩
                obtain ⟨Au, cu, rfl⟩ := row_shape hu
                have hz7 := hb7.size
                simp only [World.size_alloc] at hu hb7 hz7
                have hrb := rowB hb7 (new0 wr B) (by simp)
                rw [← hB] at hrb
                have hb07 : Below wr.heap.size wr w7 := below_then ((Below.refl _ _).alloc (Nat.le_refl _) B) (by simp) (by simpa using hb7)
                have T8 : Turn (fun q => q = wr.heap.size) w7 (w7.setCell ⟨wr.heap.size, 3, none⟩ (.slice Au (H.ob x).refs.length cu)) := turnSet _ _ _ _
                have hr8 := rowSet hrb 3 (.slice Au (H.ob x).refs.length cu)
                have hb08 : Below wr.heap.size wr (w7.setCell ⟨wr.heap.size, 3, none⟩ (.slice Au (H.ob x).refs.length cu)) := hb07.setCell (p := ⟨wr.heap.size, 3, none⟩) (Nat.le_refl _) _
                have lkp := run_lookup_pos (HTOq.out.below hb08) HND.out HX.out
                obtain ⟨lm, hlm, hkm⟩ := HOM.out.fresh hb08
                obtain ⟨w9, hrun9, hm9, ht9, hs9⟩ := run_update_map (P := Try.prog) (t := 52) (k := 3) (e := 25) Try.underlying52 Try.underlying3 hlm (H.top + k) (.agg #[.int .i64 (H.ob x).op, .int .i64 (H.ob x).n, .int .i64 (H.ob x).ar, .slice Au (H.ob x).refs.length cu, .slice ob (H.ob x).words.length od])
                have hob8 : ObAt (fun q => w1.heap.size ≤ q ∧ q ≠ w5.heap.size) (w7.setCell ⟨wr.heap.size, 3, none⟩ (.slice Au (H.ob x).refs.length cu)) (.agg #[.int .i64 (H.ob x).op, .int .i64 (H.ob x).n, .int .i64 (H.ob x).ar, .slice Au (H.ob x).refs.length cu, .slice ob (H.ob x).words.length od]) (mvO L H.top (H.ob x)) := by
                  have hl1 : (H.ob x).refs.length = ((H.ob x).refs.map (via (posM H.top L))).length := by simp
                  have hrl := hrf.len
                  have hu' : w7.ownsRow (wr.heap.size + 1) 3 1 (.slice Au (H.ob x).refs.length cu) ((H.ob x).refs.map (via (posM H.top L))).length (((H.ob x).refs.map (via (posM H.top L))).map (Value.int .i64)) := by rw [← hl1]; exact hu
                  have hi := ints_row hu' (by rw [← hl1]; omega) huw
                  rw [show mvO L H.top (H.ob x) = viaO (posM H.top L) (H.ob x) from (viaO_posM HND.out _).symm]
                  refine ⟨_, _, rfl, ?_, ?_⟩
                  · exact (hi.turn T8 fun k hk e => by omega).mono fun k _ hk => by omega
                  · exact (hwd.fresh hb08).mono fun k _ hk => by have := hk.1; omega
                have hob9 := ObjMapO.put hkm hm9 ht9 hob8 (fun k hk => by omega)
                rw [put_new (mix_new HW.out), List.append_assoc, ← news_take HX.out] at hob9
                have HOB9 := Lib.hid hob9
                have HB9 := Lib.hid ((HB.out.then hb08).trans ht9)
                have c7 := cellsH hrb
                have f7 := freeH hrb
                have c8 := cellsH hr8
                clear hob9 hob8 ht9 hs9 hm9 hkm hlm hb08 hr8 T8 hb07 hrb hu hb7 hB cb hc hlk0 hrf hwd
                go_wp2_with fail
                go_roundw
                case rel => exact ⟨k + 1, by omega, by go_num, HOB9.out, HB9.out⟩
                case measure => simp [intOf]; omega
              · have he : k = L.length := by omega
                subst he
                have htk : (H.news L).take L.length = H.news L := List.take_of_length_le (by rw [news_length]; omega)
                rw [htk] at hom
                have hb0 := HBA.out.trans (hb.below HBA.out.size (fun q e => by omega))
                have HB0 := Lib.hid hb0
                have hom2 : ObjMapO (fun q => (w1.heap.size ≤ q ∧ q ≠ w5.heap.size) ∧ q < wr.heap.size) wr w5.heap.size (H.mix L) := ObjMapO.mono hom (fun q hq hd => ⟨hd, hq⟩)
                have HO3 := Lib.hid hom2
                have HBX5 := Lib.hid (rowT hb HBXA.out (by omega))
                have HROOT5 := Lib.hid (HROOT.out.turn hb (fun q hq e => by have := hq.1; omega))
                have HTO5 := Lib.hid (IntMap.turn HTOr.out hb (by omega))
                have hnur : 0 ≤ H.nur := by have := HW.out.n1; omega
                have HNR := Lib.hid hnur
                have HHB := Lib.hid (show ∀ k, Go.Proofs.Ytobniolmielikaa.HB h y a k → k < w.heap.size from fun k hk => by rcases hk with rfl | rfl | rfl <;> omega)
                clear hom hb hb0 hom2 hnur
                go_wp2_with fail
                refine (replaceN_any _ wr h y a w5.heap.size H (H.mix L) (HH.out.fresh HB0.out) HNR.out HO3.out (fun k hk => hk.2) (fun k hk e => by have := HHB.out k e; omega) (by have := HHB.out y (.inr (.inl rfl)); omega) (by have := HHB.out a (.inr (.inr rfl)); omega)).mono ?_
                rintro e w7 ⟨rfl, H', hH', hrp, ht7⟩
                have hnotHB : ¬ Go.Proofs.Ytobniolmielikaa.HB h y a w.heap.size := fun e => by have := HHB.out _ e; omega
                have HBX7 := Lib.hid (rowT ht7 HBX5.out hnotHB)
                have HH7 := Lib.hid hH'
                have HRP := Lib.hid hrp
                have HT7 := Lib.hid ht7
                have hT7 : Turn (Go.Proofs.Ytobniolmielikaa.HB h y a) w w7 := (below_turn HB0.out _).trans ht7
                have HTW := Lib.hid hT7
                clear hH' hrp ht7 hT7 hnotHB
                have htop := HW.out.top
                have hll := HLL.out
                by_cases hfit : H.top + L.length ≤ 4611686018427387904
                · have hrv : H.repl [] (H.mix L) = 0 := by
                    rw [repl_fit HNR.out (by rw [fitB_mix HW.out HHAS.out, decide_eq_true hfit]), mix_length HW.out, if_neg (by omega)]
                  have HM2 := Lib.hid (show H.minor roots = (0, L) by rw [HRS.out]; exact limit_ok (by omega) (by omega))
                  have HRV := Lib.hid hrv
                  rw [hrv]
                  have GONE := Lib.hid (show Gone H 0 (H.mix L) H' from ⟨fun e => absurd rfl e, fun _ => by
                    obtain ⟨a1, a2, a3, a4, a5⟩ := HRP.out.yes HRV.out
                    have e0 : nxt ([] : List (Int × Ob)) = 0 := rfl
                    have hnn := (nxt_lt (H.mix L)).2.1
                    exact ⟨a1, a2, List.Perm.eq_nil a3, a4, by rw [a5, e0]; omega⟩⟩)
                  have hz7 := HTW.out.size
                  have hnb : ∀ q, w.heap.size ≤ q → ¬ Go.Proofs.Ytobniolmielikaa.HB h y a q := fun q hq e => by have := HHB.out _ e; omega
                  have hto7 : IntMap w7 bt (posM H.top L) := IntMap.turn HTO5.out HT7.out (hnb _ (by omega))
                  have hir7 := HROOT5.out.turn HT7.out (fun q hq => HOK.out q hq.2)
                  have hom7 := HO3.out.turn HT7.out (hnb _ (by omega)) (fun q hq => hnb _ (by have := hq.1.1; omega))
                  have hrl := hir7.len
                  have HIR7 := Lib.hid hir7
                  have HTO7 := Lib.hid hto7
                  have HO7 := Lib.hid hom7
                  have cx := cellsH HBX7.out
                  have fx := freeH HBX7.out
                  clear hir7 hto7 hom7 hnb hrv
                  go_wp2_with fail
                  refine (replaced_any _ w7 _ roots bt (posM H.top L) HIR7.out HTO7.out (posM_wf HW.out (by omega))).mono ?_
                  rintro e w8 ⟨u, rfl, hu, huw, hb8⟩
                  obtain ⟨Au, cu, rfl⟩ := row_shape hu
                  have hbx8 := rowB hb8 HBX7.out (heap_lt HBX7.out)
                  have HBX8 := Lib.hid hbx8
                  have HT8 := Lib.hid (HTW.out.then hb8)
                  have HH8 := Lib.hid (HH7.out.fresh hb8)
                  have hz8 := hb8.size
                  obtain ⟨lm, hlm, hkm⟩ := HO7.out.fresh hb8
                  have hln := fun ty => run_len_map (P := Try.prog) (t := 52) (k := 3) (e := 25) Try.underlying52 hlm ty
                  have hlmix : lm.length = (H.mix L).length := by have := congrArg List.length hkm.keys; simpa using this
                  rw [hlmix] at hln
                  have hl1 : roots.length = (roots.map (via (posM H.top L))).length := by simp
                  have hu' : w8.ownsRow w7.heap.size 3 1 (.slice Au roots.length cu) (roots.map (via (posM H.top L))).length ((roots.map (via (posM H.top L))).map (Value.int .i64)) := by rw [← hl1]; exact hu
                  have hi := (ints_row hu' (by rw [← hl1]; omega) huw).mono (ok' := fun k => w.heap.size ≤ k ∧ k ≠ w.heap.size) (fun k _ hk => by have := heap_lt HBX7.out; omega)
                  have hmap : roots.map (via (posM H.top L)) = roots.map (mv L H.top) := List.map_congr_left fun x _ => via_posM HND.out x
                  rw [hmap] at hi
                  have HI := Lib.hid hi
                  clear cx fx hbx8 hb8 hu hu' huw hi hl1 hmap hkm hlm hlmix
                  have cx := cellsH HBX8.out
                  have fx := freeH HBX8.out
                  go_wp2_with fail
                  clear cx fx
                  have c := cellsH (set8_row HBX8.out (.int .i64 0) (.int .i64 0) (.int .i64 0) (.int .i64 0) (.int .i64 1) (.int .i64 0) (.int .i64 L.length) (.int .i64 (H.mix L).length))
                  unfold set8 set5 at c
                  refine bodyPost_ret (v := .tuple #[.slice Au roots.length cu, .agg (statA 1 0 L.length (H.mix L).length), .int .i64 0]) (by simp [results, Try.results45, go_sem, c]) rfl ?_
                  rw [HM2.out]
                  exact gcEnd_yes (r := (0, L)) (m := H.mix L) (roots := roots) (mi := 1) (ma := 0) (pe := (H.mix L).length) HH.out.lt HT8.out ⟨H', HH8.out, GONE.out⟩ HBX8.out rfl HI.out (.int .i64 0) (.int .i64 0) (.int .i64 0) (.int .i64 0) (.int .i64 1) (.int .i64 0) (.int .i64 L.length) (.int .i64 (H.mix L).length)
                · have hrv : H.repl [] (H.mix L) = 1 := repl_unfit (by rw [fitB_mix HW.out HHAS.out, decide_eq_false hfit])
                  have HM2 := Lib.hid (show H.minor roots = (39, []) by rw [HRS.out]; exact limit_range (by omega) (by omega))
                  have HRV := Lib.hid hrv
                  rw [hrv]
                  have cx := cellsH HBX7.out
                  have fx := freeH HBX7.out
                  clear hrv
                  go_wp2_with fail
                  clear cx fx
                  have c := cellsH (set8_row HBX7.out (.int .i64 0) (.int .i64 0) (.int .i64 0) (.int .i64 0) (.int .i64 0) (.int .i64 0) (.int .i64 0) (.int .i64 0))
                  unfold set8 set5 at c
                  refine bodyPost_ret (v := .tuple #[.slice none 0 0, .agg (statA 0 0 0 0), .int .i64 39]) (by simp [results, Try.results45, go_sem, c]) rfl ?_
                  have hend := gcEnd_no (r := H.minor roots) (m := H.mix (H.minor roots).2) (roots := roots) (mi := 1) (ma := 0) (pe := (H.mix (H.minor roots).2).length) HH.out.lt HTW.out ⟨H', HH7.out, ⟨fun _ => HRP.out.no (by rw [HRV.out]; decide), fun e => by rw [HM2.out] at e; cases e⟩⟩ HBX7.out (by rw [HM2.out]; decide) (.int .i64 0) (.int .i64 0) (.int .i64 0) (.int .i64 0) (.int .i64 0) (.int .i64 0) (.int .i64 0) (.int .i64 0)
                  rw [HM2.out] at hend ⊢
                  exact hend
end Go.Proofs.Ytobniolmielikaa

