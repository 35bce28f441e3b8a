/- Texts of the collector's proof, joined: Rcl2, Rcl3, Gc5, Gc6, Gc7, Rcl4. -/
import Derived.Test.YtobniolmielikaaZaj
import Derived.Test.YtobniolmielikaaZak
import Derived.Deep.LoopGhost
import Derived.Test.YtobniolmielikaaZai
import Derived.Test.YtobniolmielikaaZah
import Derived.Deep.QuietTactic
import Derived.BigQuiet
import Derived.Test.YtobniolmielikaaZad
/- The reference collector: young (its row), order; no condition. -/
namespace Go.Proofs.Ytobniolmielikaa
open Go.RowKit

theorem yng_abs (R : RM) (x : Int) : R.yng x = R.abs.yng x := by
  unfold RM.yng HM.yng
  show _ = !(Go.Proofs.Ytobniolmielikaa.get (absI R.a) x).isSome
  rw [get_abs]
  cases Go.Proofs.Ytobniolmielikaa.get (keyed R.a) x <;> rfl
theorem filter_yng (R : RM) (l : List Int) : l.filter R.yng = l.filter R.abs.yng := by
  congr 1
  funext x
  exact yng_abs R x
theorem within_abs (R : RM) (l : List Int) : (l.all fun x => (R.get x).2 == 0) = l.all R.abs.has := by
  congr 1
  funext x
  rw [rget_abs, HM.get_has]
theorem rob_abs (R : RM) (x : Int) : (R.get x).1 = R.abs.ob x := by rw [rget_abs, HM.get_ob]

set_option maxHeartbeats 1000000 in
theorem ryoung_own (base : Nat) (ok : Nat → Prop) (w : World) (r : Nat) (NV AV : Value) (R : RM) (v : Value) (l : List Int) (hh : RHeapAt base w r NV AV R) (h : Ints ok w v l) :
    Calls Try.prog 89 #[.pointer (some ⟨r, 0, none⟩), v] w fun e w' => ∃ u, e = .returned u ∧ w'.ownsRow w.heap.size 3 1 u (l.filter R.yng).length ((l.filter R.yng).map (Value.int .i64)) ∧ (∀ x ∈ l.filter R.yng, (Lit.int .i64 x).wf = true) ∧ Below w.heap.size w w' := by
  obtain ⟨A, c, rfl⟩ := h.shape
  have hlen := h.len
  have H := Lib.hid h
  have HH := Lib.hid hh
  clear h hh
  go_enter Try.func89, Try.ntmps89
  go_wp2_with fail
  go_loopw [5, 6] (fun u i wr => ∃ (n : Nat) (xs : List Int), n ≤ l.length ∧ i = .int .i64 n ∧ xs = (l.take n).filter R.yng ∧ wr.ownsRow w.heap.size 3 1 u xs.length (xs.map (Value.int .i64)) ∧ Below w.heap.size w wr) (fun _ i _ => l.length - (intOf i).toNat)
  case atStart => exact ⟨0, [], Nat.zero_le _, rfl, rfl, row_of_nil _ _ _, Below.refl _ _⟩
  case round =>
    obtain ⟨n, xs, hn, rfl, hxs, hown, hb⟩ := hrel
    have HXS := Lib.hid hxs
    have OWN := Lib.hid hown
    have HB := Lib.hid hb
    have zb := hb.size
    have hxl : xs.length ≤ n := by
      rw [hxs]
      have h1 := List.length_filter_le R.yng (l.take n)
      have h2 := List.length_take_le n l
      omega
    by_cases hlt : n < l.length
    · obtain ⟨ad, eA, hc⟩ := Ints.cell (H.out.fresh hb) hlt
      have hx := List.getElem?_eq_getElem hlt
      have hwf := Ints.wf H.out l[n] (List.getElem_mem _)
      generalize l[n] = y at hc hx hwf
      have HX := Lib.hid hx
      have HLT := Lib.hid hlt
      have HW := Lib.hid hwf
      subst eA
      clear hx hxs hown hb hwf
      go_wp2_with fail
      refine (rold_any base wr r NV AV R y (HH.out.fresh HB.out)).mono ?_
      rintro e w2 ⟨rfl, rfl⟩
      cases he : (Go.Proofs.Ytobniolmielikaa.get (keyed R.a) y).isSome with
      | true =>
        have HY := Lib.hid (show R.yng y = false by simp [RM.yng, he])
        clear he
        go_wp2_with fail
        go_roundw
        case rel => exact ⟨n + 1, xs, by have := HLT.out; omega, by go_num, by rw [filter_snoc5 _ HX.out, HY.out]; simpa using HXS.out, OWN.out, HB.out⟩
        case measure => have := HLT.out; simp [intOf]; omega
      | false =>
        have HY := Lib.hid (show R.yng y = true by simp [RM.yng, he])
        clear he
        go_wp2_with (at_builtin; refine wpList_append_ints _ rfl _ _ 23 rfl w.heap.size 3 Try.underlying23 info3 _ xs.length xs rfl (OWN.out.alloc _) (fun _ => True) _ [y] rfl (ints_oneAt (new0 _ _) HW.out) (by have := HLT.out; simp; omega) (by simp; omega) ?_; intro st' w10 hown' hg'; have HO := Lib.hid hown'; have HG := Lib.hid hg'; clear hown' hg')
        go_roundw
        case rel => exact ⟨n + 1, xs ++ [y], by have := HLT.out; omega, by go_num, by rw [filter_snoc5 _ HX.out, HY.out, HXS.out]; simp, by simpa using HO.out, (HB.out.alloc zb _).grown HG.out (by simp; omega) (fun q hq => (OWN.out.lt q hq).1)⟩
        case measure => have := HLT.out; simp [intOf]; omega
    · have he : n = l.length := by omega
      have hx2 : xs = l.filter R.yng := by rw [hxs, he, List.take_length]
      have HX2 := Lib.hid hx2
      clear he hxs hown hb hx2
      go_wp2_with fail
      go_ret
      refine ⟨_, rfl, ?_, ?_, HB.out⟩
      · rw [← HX2.out]; exact OWN.out
      · intro z hz
        exact Ints.wf H.out z (List.mem_filter.1 hz).1
/-- A queue is a slice of ints. -/
theorem que_ints {base : Nat} {w : World} {v : Value} {t : List Int} (h : Que base w v t) (hl : t.length ≤ 1000000) : Ints (fun _ => True) w v t := by
  have hwf := h.wf
  rcases h with ⟨rfl, rfl⟩ | ⟨g, off, c, cs, rfl, _, hg, h1, h2, h3, h4, _⟩
  · exact Ints.nil _ _
  · refine ⟨_, c, rfl, h1, h2, (fun h => by cases h), fun _ => ⟨_, rfl, trivial, heap_lt hg, fun i x hx => ?_⟩, by omega, hwf⟩
    rw [Addr.add_lit]
    simp only [World.cell?, hg]
    simpa using h4 i x hx
theorem vol_next {H : HM} (hd : (H.all.map (·.1)).Nodup) {x : Int} {out : List Int} (hx : x ∉ out) : vol H.all (out ++ [x]) + (H.ob x).refs.length ≤ vol H.all out := by
  cases hh : H.has x with
  | true =>
    have := vol_step hd ((get_mem hd).1 (HM.get_some hh)) hx
    omega
  | false =>
    have hg := HM.get_none' hh
    rw [vol_same (get_none.1 hg)]
    have : H.ob x = ob0 := by unfold HM.ob; rw [hg]; rfl
    rw [this]
    exact Nat.le_refl _
/-- An append whose run is known. -/
theorem wpList_append_run {P : Program} (w : World) {ops : Array Oper} {rest : List Oper} {o : Oper} {a : Act} {Q : Exit → Act → World → Prop}
    (hg : o.guard = none) (s x : Operand) (t : TypeId) (hop : o.op = Op.call { callee := Callee.builtin Builtin.append, args := #[s, x], argTypes := #[t, t] })
    (u y : Value) (hs : a.eval s = u) (hx : a.eval x = y) (v : Value) (w' : World) (hrun : (Builtin.append_ #[t, t] o.type #[u, y]).run P w = .ok v w')
    (hK : wpList P ops Q rest (a.put o.dst v) w') : wpList P ops Q (o :: rest) a w := by
  refine wpList_plain hg fun K hK' => ?_
  unfold Oper.wp
  simp [execOp, hop, resolve, invoke, builtin, hs, hx, hrun, Result.andThen]
  exact hK' _ _ hK
/-- What order answers. -/
def HM.ordR (H : HM) (acc : Int → Bool) (q : List Int) : Option (List Int) := if q.all H.has = true then rbfs H.all acc (H.fuel q) [] q else none
def OrdEnd (w : World) (o : Option (List Int)) (e : Ending) (w' : World) : Prop :=
  Below w.heap.size w w' ∧ (o = none → e = .returned (.tuple #[.slice none 0 0, .bool false])) ∧
  ∀ L, o = some L → ∃ u, e = .returned (.tuple #[u, .bool true]) ∧ w'.ownsRow w.heap.size 3 1 u L.length (L.map (Value.int .i64)) ∧ ∀ x ∈ L, (Lit.int .i64 x).wf = true
theorem mem_atL {l : List Int} {x : Int} : decide (0 ≤ atL l x) = decide (x ∈ l) := by
  rw [Bool.eq_iff_iff, decide_eq_true_eq, decide_eq_true_eq]
  exact atL_mem

set_option maxRecDepth 100000 in
set_option maxHeartbeats 4000000 in
theorem order_false (base : Nat) (w : World) (r : Nat) (NV AV : Value) (R : RM) (v : Value) (q : List Int) (hh : RHeapAt base w r NV AV R) (hq : Que 0 w v q) (hd : (R.abs.all.map (·.1)).Nodup) (hvol : R.abs.fuel q ≤ 1000000) :
    Calls Try.prog 72 #[.pointer (some ⟨r, 0, none⟩), v, .bool false] w (OrdEnd w (R.abs.ordR (fun _ => true) q)) := by
  obtain ⟨A, c, rfl, hle⟩ := hq.shape
  have HH := Lib.hid hh
  have HQ := Lib.hid hq
  have HD := Lib.hid hd
  have HV := Lib.hid hvol
  have hin := within_any base (fun _ => True) w r NV AV R _ q hh (que_ints hq (by unfold HM.fuel at hvol; omega))
  rw [within_abs] at hin
  have WI := Lib.hid hin
  clear hh hq hd hvol hle hin
  go_enter Try.func72, Try.ntmps72
  go_wp2_with fail
  refine WI.out.mono ?_
  rintro e w1 ⟨rfl, hb1⟩
  have HB1 := Lib.hid hb1
  have HQ1 := Lib.hid (HQ.out.fresh hb1)
  have zb1 := hb1.size
  clear hb1
  cases hall : q.all R.abs.has with
  | false =>
    have HO := Lib.hid (show R.abs.ordR (fun _ => true) q = none by simp [HM.ordR, hall])
    clear hall
    go_wp2_with fail
    go_ret2
    exact ⟨HB1.out, fun _ => rfl, fun L hL => by rw [HO.out] at hL; cases hL⟩
  | true =>
    have HO := Lib.hid (show R.abs.ordR (fun _ => true) q = rbfs R.abs.all (fun _ => true) (R.abs.fuel q) [] q by simp [HM.ordR, hall])
    clear hall
    go_upto_region 4 with (fail)
    go_loopg [1, 8] (R.abs.fuel q) (fun gh qv ov wr => ∃ (n : Nat) (out t : List Int), gh = n ∧ vol R.abs.all out + t.length ≤ n ∧ n + out.length ≤ R.abs.fuel q ∧ rbfs R.abs.all (fun _ => true) n out t = R.abs.ordR (fun _ => true) q ∧ Que 0 wr qv t ∧ (∀ g, qv.ownBlock = some g → ov.ownBlock ≠ some g) ∧ wr.ownsRow w.heap.size 3 1 ov out.length (out.map (Value.int .i64)) ∧ (∀ x ∈ out, (Lit.int .i64 x).wf = true) ∧ Below w.heap.size w wr)
    case atStart => exact ⟨_, [], q, rfl, by simp [HM.fuel], by simp, HO.out.symm, HQ1.out, (fun g _ => by simp [Value.ownBlock]), row_of_nil _ _ _, by simp, HB1.out⟩
    case round =>
      obtain ⟨n, out, t, hgn, hn, hno, hres, hqu, hap, hown, hwf, hb⟩ := hrel
      replace hgn := hgn.symm
      subst hgn
      obtain ⟨Ao, co, rfl⟩ := own_shape hown
      have HN := Lib.hid hn
      have HNO := Lib.hid hno
      have HRES := Lib.hid hres
      have HAP := Lib.hid hap
      clear hap
      have HOw13 := Lib.hid hown
      have HWF := Lib.hid hwf
      have HB := Lib.hid hb
      have zb := hb.size
      cases t with
      | nil =>
        obtain ⟨Aq, cq, rfl, _⟩ := hqu.shape
        clear hn hno hres hqu hown hwf hb
        go_wp2_with fail
        go_ret2
        have hr := HRES.out
        rw [rbfs_nil] at hr
        refine ⟨HB.out, (fun e => by rw [e] at hr; cases hr), fun L hL => ?_⟩
        rw [hL] at hr
        cases hr
        exact ⟨_, rfl, HOw13.out, HWF.out⟩
      | cons x t =>
        obtain ⟨Aq, cq, rfl, _⟩ := hqu.shape
        obtain ⟨gq, off, rfl, hc⟩ := hqu.head
        obtain ⟨B, hq', hown', hrun⟩ := hqu.tail
        have hwx := hqu.wf x (by simp)
        have HQT := Lib.hid hq'
        have HWX := Lib.hid hwx
        have HAT := Lib.hid (show ∀ g, (Value.slice B t.length (cq - 1)).ownBlock = some g → (Value.slice Ao out.length co).ownBlock ≠ some g from fun g hg => HAP.out g (hown' ▸ hg))
        simp only [List.length_cons] at hrun hn ⊢
        obtain ⟨m, rfl⟩ : ∃ m, n = m + 1 := ⟨n - 1, by omega⟩
        have HM := Lib.hid hn
        clear hn hno hres hqu hown hwf hb hq' hown' hwx
        go_wp2_with fail
        refine (has_any (w.heap.size ≤ ·) wr _ out x (ints_of_row HOw13.out (by have := HNO.out; have := HV.out; omega) HWF.out)).mono ?_
        rintro e w2 ⟨rfl, rfl⟩
        rw [mem_atL]
        by_cases hx : x ∈ out
        · have HX := Lib.hid hx
          rw [decide_eq_true hx]
          clear hx
          go_wp2_with fail
          go_roundg m
          case measure => omega
          case rel =>
            have hr := HRES.out
            rw [rbfs_skip HX.out] at hr
            exact ⟨m, out, t, rfl, by have := HM.out; omega, by have := HNO.out; omega, hr, HQT.out, HAT.out, HOw13.out, HWF.out, HB.out⟩
        · have HX := Lib.hid hx
          rw [decide_eq_false hx]
          clear hx
          obtain ⟨go, cco, w10, hrun10, hown10, hgr10, hat10⟩ := run_push HOw13.out zb (by have := HNO.out; have := HV.out; omega) x
          go_wp2_with (at_builtin; refine wpList_append_run _ rfl _ _ 23 rfl _ _ rfl rfl _ _ hrun10 ?_)
          clear hrun10 hrun hc
          have hb10 := (HB.out.alloc zb (.cells #[.int .i64 x] 3)).grown hgr10 (by simp; omega) (fun q hq => (HOw13.out.lt q hq).1)
          have HB10 := Lib.hid hb10
          have zb10 := hb10.size
          have hq10 : Que 0 w10 (.slice B t.length (cq - 1)) t := (HQT.out.fresh ((Below.refl _ _).alloc (Nat.le_refl _) (.cells #[.int .i64 x] 3))).kept fun g hg => hgr10.block g (by
            have := (HQT.out.lt hg).2.1
            simp
            omega) (fun e => HAT.out g hg e.symm)
          have hap10 : ∀ g, (Value.slice B t.length (cq - 1)).ownBlock = some g → (Value.slice (some ⟨go, 0, none⟩) (out.length + 1) cco).ownBlock ≠ some g := by
            intro g hg e
            have e2 : go = g := by simpa [Value.ownBlock] using e
            subst e2
            rcases hat10 with e | e
            · exact HAT.out _ hg e
            · have := (HQT.out.lt hg).2.1
              omega
          have HQ10 := Lib.hid hq10
          have HAP10 := Lib.hid hap10
          have HO10 := Lib.hid hown10
          clear hb10 hq10 hap10 hown10 hgr10 hat10
          refine (rget_any base w10 r NV AV R x (HH.out.fresh (HB10.out))).mono ?_
          rintro e w11 ⟨v11, rfl, hob, hb11⟩
          rw [rob_abs] at hob
          obtain ⟨oa, oc, ob, od, rfl⟩ := hob.open
          obtain ⟨B11, hB11⟩ : ∃ B : Obj, Obj.cells #[.int .i64 (R.abs.ob x).op, .int .i64 (R.abs.ob x).n, .int .i64 (R.abs.ob x).ar, .slice oa (R.abs.ob x).refs.length oc, .slice ob (R.abs.ob x).words.length od] 25 = B := ⟨_, rfl⟩
          have hb12 : Below w10.heap.size w10 (w11.alloc B11) := hb11.alloc hb11.size B11
          have HB12 := Lib.hid (HB10.out.trans (hb12.mono zb10))
          have zb12 := HB12.out.size
          have HO12 := Lib.hid (own_keep HO10.out fun g hg => hb12.block g (by obtain ⟨_, _, _, hr⟩ := own_row HO10.out hg; exact heap_lt hr))
          have HQ12 := Lib.hid (HQ10.out.fresh hb12)
          have hcb : (w11.alloc B11).heap[w11.heap.size]? = some (.cells #[.int .i64 (R.abs.ob x).op, .int .i64 (R.abs.ob x).n, .int .i64 (R.abs.ob x).ar, .slice oa (R.abs.ob x).refs.length oc, .slice ob (R.abs.ob x).words.length od] 25) := by rw [new0, hB11]
          have HCB := Lib.hid hcb
          have hc12 := cellsH hcb
          have hob12 := ObAt.fresh hob.at ((Below.refl _ _).alloc (Nat.le_refl _) B11)
          obtain ⟨_, _, hev, hrf, -⟩ := hob12
          cases hev
          have HRF := Lib.hid hrf
          have hrl := hrf.len
          clear hb11 hob hb12 hcb hrf
          go_wp2_with fail
          have hwi := within_any base _ (w11.alloc B11) r NV AV R _ (R.abs.ob x).refs (HH.out.fresh HB12.out) HRF.out
          rw [within_abs] at hwi
          refine hwi.mono ?_
          clear hwi
          rintro e w13 ⟨rfl, hb13⟩
          have hvn := vol_next HD.out HX.out
          have HVN := Lib.hid hvn
          have HB13 := Lib.hid (below_then HB12.out zb12 hb13)
          have zb13 := HB13.out.size
          have HO13 := Lib.hid (own_keep HO12.out fun g hg => hb13.block g (by obtain ⟨_, _, _, hr⟩ := own_row HO12.out hg; exact heap_lt hr))
          have HQ13 := Lib.hid (HQ12.out.fresh hb13)
          have HRF13 := Lib.hid (HRF.out.fresh hb13)
          have HC13 := Lib.hid (rowB hb13 HCB.out (heap_lt HCB.out))
          have hwfo : ∀ z ∈ out ++ [x], (Lit.int .i64 z).wf = true := fun z hz => by
            rcases List.mem_append.1 hz with hz | hz
            · exact HWF.out z hz
            · simp at hz; subst hz; exact HWX.out
          have HWO := Lib.hid hwfo
          clear hc12 hb13 hvn hwfo hB11
          cases hin : (R.abs.ob x).refs.all R.abs.has with
          | false =>
            have HIN := Lib.hid hin
            clear hin
            go_wp2_with fail
            go_ret2
            have hr := HRES.out
            rw [rbfs_bad HX.out HIN.out] at hr
            exact ⟨HB13.out, fun _ => rfl, fun L hL => by rw [← hr] at hL; cases hL⟩
          | true =>
            have HIN := Lib.hid hin
            have hc13 := cellsH HC13.out
            clear hin
            have BN := HB13
            have ON := HO13
            have QN := HQ13
            have NEXTI := HRF13
            have HNL := Lib.hid (Nat.le_refl (R.abs.ob x).refs.length)
            go_upto_region 17 with (at_builtin; refine wpList_append_ints _ rfl (.tmp 50) (.tmp 51) 23 rfl w13.heap.size 3 Try.underlying23 info3 _ 0 [] rfl (row_of_nil _ _ _) (fun _ => True) _ t rfl (que_ints QN.out (by have := HM.out; have := HNO.out; have := HV.out; omega)) (by have := HM.out; have := HNO.out; have := HV.out; omega) (Nat.le_refl _) ?_; intro st1 w14 hm1 hg1; have HM1 := Lib.hid hm1; have HG1 := Lib.hid hg1; clear hm1 hg1)
            have hm1 := HM1.out
            rw [List.nil_append, Nat.zero_add] at hm1
            obtain ⟨A1, c1, rfl⟩ := own_shape hm1
            have HM1' := Lib.hid hm1
            have hni := NEXTI.out.fresh ((Below.refl w13.heap.size w13).grown HG1.out (Nat.le_refl _) (fun k hk => by cases hk))
            have NI := Lib.hid hni
            clear hm1 hni
            go_wp2_with (at_builtin; refine wpList_append_ints _ rfl (.tmp 53) (.tmp 54) 23 rfl w13.heap.size 3 Try.underlying23 info3 _ t.length t rfl HM1'.out _ _ (R.abs.ob x).refs rfl NI.out (by have := HM.out; have := HNO.out; have := HV.out; have := HVN.out; have := HNL.out; omega) (by have := HG1.out.size; omega) ?_; intro st2 w15 hm2 hg2; have HM2 := Lib.hid hm2; have HG2 := Lib.hid hg2; clear hm2 hg2)
            have hb14 : Below w13.heap.size w13 w14 := (Below.refl _ _).grown HG1.out (Nat.le_refl _) (fun k hk => by cases hk)
            have hb15 : Below w13.heap.size w13 w15 := hb14.grown HG2.out hb14.size (fun k hk => (HM1'.out.lt k hk).1)
            have hB15 := below_then BN.out (by have := BN.out.size; omega) hb15
            have hO15 := own_keep ON.out fun g hg => hb15.block g (by obtain ⟨_, _, _, hr⟩ := own_row ON.out hg; exact heap_lt hr)
            have hm2 := HM2.out
            rw [← List.length_append] at hm2
            have hq15 := que_of_row hm2 (fun z hz => by
              rcases List.mem_append.1 hz with hz | hz
              · exact QN.out.wf z hz
              · exact NEXTI.out.wf z hz)
            have hap15 : ∀ g, st2.ownBlock = some g → (Value.slice (some ⟨go, 0, none⟩) (out.length + 1) cco).ownBlock ≠ some g := by
              intro g hg e
              have h1 := (hq15.lt hg).1
              obtain ⟨_, _, _, hr⟩ := own_row ON.out e
              have := heap_lt hr
              omega
            have HQ15 := Lib.hid ((show Que 0 w15 st2 (t ++ (R.abs.ob x).refs) from by
              rcases hq15 with h | ⟨g, off, cc, cs, e, _, r⟩
              · exact .inl h
              · exact .inr ⟨g, off, cc, cs, e, Nat.zero_le _, r⟩))
            have HAP15 := Lib.hid hap15
            have HO15 := Lib.hid hO15
            have HB15 := Lib.hid hB15
            clear hap15 hO15 hB15 hb14 hb15 hm2 hq15
            go_roundg m
            case measure => omega
            case rel =>
              have hr := HRES.out
              rw [rbfs_go HX.out HIN.out] at hr
              refine ⟨m, out ++ [x], t ++ (R.abs.ob x).refs, rfl, ?_, ?_, (by rw [List.filter_eq_self.2 (fun _ _ => rfl)] at hr; exact hr), HQ15.out, HAP15.out, ?_, HWO.out, HB15.out⟩
              · have h1 := HVN.out; have h2 := HM.out; have h3 := HNL.out; rw [List.length_append]; omega
              · have := HNO.out; rw [List.length_append, List.length_cons, List.length_nil]; omega
              · rw [List.length_append]; exact HO15.out

set_option maxRecDepth 100000 in
set_option maxHeartbeats 4000000 in
theorem order_true (base : Nat) (w : World) (r : Nat) (NV AV : Value) (R : RM) (v : Value) (q : List Int) (hh : RHeapAt base w r NV AV R) (hq : Que 0 w v q) (hd : (R.abs.all.map (·.1)).Nodup) (hvol : R.abs.fuel q ≤ 1000000) :
    Calls Try.prog 72 #[.pointer (some ⟨r, 0, none⟩), v, .bool true] w (OrdEnd w (R.abs.ordR R.abs.yng q)) := by
  obtain ⟨A, c, rfl, hle⟩ := hq.shape
  have HH := Lib.hid hh
  have HQ := Lib.hid hq
  have HD := Lib.hid hd
  have HV := Lib.hid hvol
  have hin := within_any base (fun _ => True) w r NV AV R _ q hh (que_ints hq (by unfold HM.fuel at hvol; omega))
  rw [within_abs] at hin
  have WI := Lib.hid hin
  clear hh hq hd hvol hle hin
  go_enter Try.func72, Try.ntmps72
  go_wp2_with fail
  refine WI.out.mono ?_
  rintro e w1 ⟨rfl, hb1⟩
  have HB1 := Lib.hid hb1
  have HQ1 := Lib.hid (HQ.out.fresh hb1)
  have zb1 := hb1.size
  clear hb1
  cases hall : q.all R.abs.has with
  | false =>
    have HO := Lib.hid (show R.abs.ordR R.abs.yng q = none by simp [HM.ordR, hall])
    clear hall
    go_wp2_with fail
    go_ret2
    exact ⟨HB1.out, fun _ => rfl, fun L hL => by rw [HO.out] at hL; cases hL⟩
  | true =>
    have HO := Lib.hid (show R.abs.ordR R.abs.yng q = rbfs R.abs.all R.abs.yng (R.abs.fuel q) [] q by simp [HM.ordR, hall])
    clear hall
    go_upto_region 4 with (fail)
    go_loopg [1, 8] (R.abs.fuel q) (fun gh qv ov wr => ∃ (n : Nat) (out t : List Int), gh = n ∧ vol R.abs.all out + t.length ≤ n ∧ n + out.length ≤ R.abs.fuel q ∧ rbfs R.abs.all R.abs.yng n out t = R.abs.ordR R.abs.yng q ∧ Que 0 wr qv t ∧ (∀ g, qv.ownBlock = some g → ov.ownBlock ≠ some g) ∧ wr.ownsRow w.heap.size 3 1 ov out.length (out.map (Value.int .i64)) ∧ (∀ x ∈ out, (Lit.int .i64 x).wf = true) ∧ Below w.heap.size w wr)
    case atStart => exact ⟨_, [], q, rfl, by simp [HM.fuel], by simp, HO.out.symm, HQ1.out, (fun g _ => by simp [Value.ownBlock]), row_of_nil _ _ _, by simp, HB1.out⟩
    case round =>
      obtain ⟨n, out, t, hgn, hn, hno, hres, hqu, hap, hown, hwf, hb⟩ := hrel
      replace hgn := hgn.symm
      subst hgn
      obtain ⟨Ao, co, rfl⟩ := own_shape hown
      have HN := Lib.hid hn
      have HNO := Lib.hid hno
      have HRES := Lib.hid hres
      have HAP := Lib.hid hap
      clear hap
      have HOwy := Lib.hid hown
      have HWF := Lib.hid hwf
      have HB := Lib.hid hb
      have zb := hb.size
      cases t with
      | nil =>
        obtain ⟨Aq, cq, rfl, _⟩ := hqu.shape
        clear hn hno hres hqu hown hwf hb
        go_wp2_with fail
        go_ret2
        have hr := HRES.out
        rw [rbfs_nil] at hr
        refine ⟨HB.out, (fun e => by rw [e] at hr; cases hr), fun L hL => ?_⟩
        rw [hL] at hr
        cases hr
        exact ⟨_, rfl, HOwy.out, HWF.out⟩
      | cons x t =>
        obtain ⟨Aq, cq, rfl, _⟩ := hqu.shape
        obtain ⟨gq, off, rfl, hc⟩ := hqu.head
        obtain ⟨B, hq', hown', hrun⟩ := hqu.tail
        have hwx := hqu.wf x (by simp)
        have HQT := Lib.hid hq'
        have HWX := Lib.hid hwx
        have HAT := Lib.hid (show ∀ g, (Value.slice B t.length (cq - 1)).ownBlock = some g → (Value.slice Ao out.length co).ownBlock ≠ some g from fun g hg => HAP.out g (hown' ▸ hg))
        simp only [List.length_cons] at hrun hn ⊢
        obtain ⟨m, rfl⟩ : ∃ m, n = m + 1 := ⟨n - 1, by omega⟩
        have HM := Lib.hid hn
        clear hn hno hres hqu hown hwf hb hq' hown' hwx
        go_wp2_with fail
        refine (has_any (w.heap.size ≤ ·) wr _ out x (ints_of_row HOwy.out (by have := HNO.out; have := HV.out; omega) HWF.out)).mono ?_
        rintro e w2 ⟨rfl, rfl⟩
        rw [mem_atL]
        by_cases hx : x ∈ out
        · have HX := Lib.hid hx
          rw [decide_eq_true hx]
          clear hx
          go_wp2_with fail
          go_roundg m
          case measure => omega
          case rel =>
            have hr := HRES.out
            rw [rbfs_skip HX.out] at hr
            exact ⟨m, out, t, rfl, by have := HM.out; omega, by have := HNO.out; omega, hr, HQT.out, HAT.out, HOwy.out, HWF.out, HB.out⟩
        · have HX := Lib.hid hx
          rw [decide_eq_false hx]
          clear hx
          obtain ⟨go, cco, w10, hrun10, hown10, hgr10, hat10⟩ := run_push HOwy.out zb (by have := HNO.out; have := HV.out; omega) x
          go_wp2_with (at_builtin; refine wpList_append_run _ rfl _ _ 23 rfl _ _ rfl rfl _ _ hrun10 ?_)
          clear hrun10 hrun hc
          have hb10 := (HB.out.alloc zb (.cells #[.int .i64 x] 3)).grown hgr10 (by simp; omega) (fun q hq => (HOwy.out.lt q hq).1)
          have HB10 := Lib.hid hb10
          have zb10 := hb10.size
          have hq10 : Que 0 w10 (.slice B t.length (cq - 1)) t := (HQT.out.fresh ((Below.refl _ _).alloc (Nat.le_refl _) (.cells #[.int .i64 x] 3))).kept fun g hg => hgr10.block g (by
            have := (HQT.out.lt hg).2.1
            simp
            omega) (fun e => HAT.out g hg e.symm)
          have hap10 : ∀ g, (Value.slice B t.length (cq - 1)).ownBlock = some g → (Value.slice (some ⟨go, 0, none⟩) (out.length + 1) cco).ownBlock ≠ some g := by
            intro g hg e
            have e2 : go = g := by simpa [Value.ownBlock] using e
            subst e2
            rcases hat10 with e | e
            · exact HAT.out _ hg e
            · have := (HQT.out.lt hg).2.1
              omega
          have HQ10 := Lib.hid hq10
          have HAP10 := Lib.hid hap10
          have HO10 := Lib.hid hown10
          clear hb10 hq10 hap10 hown10 hgr10 hat10
          refine (rget_any base w10 r NV AV R x (HH.out.fresh (HB10.out))).mono ?_
          rintro e w11 ⟨v11, rfl, hob, hb11⟩
          rw [rob_abs] at hob
          obtain ⟨oa, oc, ob, od, rfl⟩ := hob.open
          obtain ⟨B11, hB11⟩ : ∃ B : Obj, Obj.cells #[.int .i64 (R.abs.ob x).op, .int .i64 (R.abs.ob x).n, .int .i64 (R.abs.ob x).ar, .slice oa (R.abs.ob x).refs.length oc, .slice ob (R.abs.ob x).words.length od] 25 = B := ⟨_, rfl⟩
          have hb12 : Below w10.heap.size w10 (w11.alloc B11) := hb11.alloc hb11.size B11
          have HB12 := Lib.hid (HB10.out.trans (hb12.mono zb10))
          have zb12 := HB12.out.size
          have HO12 := Lib.hid (own_keep HO10.out fun g hg => hb12.block g (by obtain ⟨_, _, _, hr⟩ := own_row HO10.out hg; exact heap_lt hr))
          have HQ12 := Lib.hid (HQ10.out.fresh hb12)
          have hcb : (w11.alloc B11).heap[w11.heap.size]? = some (.cells #[.int .i64 (R.abs.ob x).op, .int .i64 (R.abs.ob x).n, .int .i64 (R.abs.ob x).ar, .slice oa (R.abs.ob x).refs.length oc, .slice ob (R.abs.ob x).words.length od] 25) := by rw [new0, hB11]
          have HCB := Lib.hid hcb
          have hc12 := cellsH hcb
          have hob12 := ObAt.fresh hob.at ((Below.refl _ _).alloc (Nat.le_refl _) B11)
          obtain ⟨_, _, hev, hrf, -⟩ := hob12
          cases hev
          have HRF := Lib.hid hrf
          have hrl := hrf.len
          clear hb11 hob hb12 hcb hrf
          go_wp2_with fail
          have hwi := within_any base _ (w11.alloc B11) r NV AV R _ (R.abs.ob x).refs (HH.out.fresh HB12.out) HRF.out
          rw [within_abs] at hwi
          refine hwi.mono ?_
          clear hwi
          rintro e w13 ⟨rfl, hb13⟩
          have hvn := vol_next HD.out HX.out
          have HVN := Lib.hid hvn
          have HB13 := Lib.hid (below_then HB12.out zb12 hb13)
          have zb13 := HB13.out.size
          have HO13 := Lib.hid (own_keep HO12.out fun g hg => hb13.block g (by obtain ⟨_, _, _, hr⟩ := own_row HO12.out hg; exact heap_lt hr))
          have HQ13 := Lib.hid (HQ12.out.fresh hb13)
          have HRF13 := Lib.hid (HRF.out.fresh hb13)
          have HC13 := Lib.hid (rowB hb13 HCB.out (heap_lt HCB.out))
          have hwfo : ∀ z ∈ out ++ [x], (Lit.int .i64 z).wf = true := fun z hz => by
            rcases List.mem_append.1 hz with hz | hz
            · exact HWF.out z hz
            · simp at hz; subst hz; exact HWX.out
          have HWO := Lib.hid hwfo
          clear hc12 hb13 hvn hwfo hB11
          cases hin : (R.abs.ob x).refs.all R.abs.has with
          | false =>
            have HIN := Lib.hid hin
            clear hin
            go_wp2_with fail
            go_ret2
            have hr := HRES.out
            rw [rbfs_bad HX.out HIN.out] at hr
            exact ⟨HB13.out, fun _ => rfl, fun L hL => by rw [← hr] at hL; cases hL⟩
          | true =>
            have HIN := Lib.hid hin
            have hc13 := cellsH HC13.out
            clear hin
            go_wp2_with fail
            refine (ryoung_own base _ w13 r NV AV R _ (R.abs.ob x).refs (HH.out.fresh HB13.out) HRF13.out).mono ?_
            rintro e wy ⟨u, rfl, hu, huw, hby⟩
            rw [filter_yng] at hu huw
            obtain ⟨Au, cu, rfl⟩ := own_shape hu
            have hfl := List.length_filter_le R.abs.yng (R.abs.ob x).refs
            have HNL := Lib.hid hfl
            have BN := Lib.hid (below_then HB13.out zb13 hby)
            have ON := Lib.hid (own_keep HO13.out fun g hg => hby.block g (by obtain ⟨_, _, _, hr⟩ := own_row HO13.out hg; exact heap_lt hr))
            have QN := Lib.hid (HQ13.out.fresh hby)
            have NEXTI := Lib.hid (ints_of_row hu (by omega) huw)
            clear hu huw hby hfl
            go_upto_region 17 with (at_builtin; refine wpList_append_ints _ rfl (.tmp 50) (.tmp 51) 23 rfl wy.heap.size 3 Try.underlying23 info3 _ 0 [] rfl (row_of_nil _ _ _) (fun _ => True) _ t rfl (que_ints QN.out (by have := HM.out; have := HNO.out; have := HV.out; omega)) (by have := HM.out; have := HNO.out; have := HV.out; omega) (Nat.le_refl _) ?_; intro st1 w14 hm1 hg1; have HM1 := Lib.hid hm1; have HG1 := Lib.hid hg1; clear hm1 hg1)
            have hm1 := HM1.out
            rw [List.nil_append, Nat.zero_add] at hm1
            obtain ⟨A1, c1, rfl⟩ := own_shape hm1
            have HM1' := Lib.hid hm1
            have hni := NEXTI.out.fresh ((Below.refl wy.heap.size wy).grown HG1.out (Nat.le_refl _) (fun k hk => by cases hk))
            have NI := Lib.hid hni
            clear hm1 hni
            go_wp2_with (at_builtin; refine wpList_append_ints _ rfl (.tmp 53) (.tmp 54) 23 rfl wy.heap.size 3 Try.underlying23 info3 _ t.length t rfl HM1'.out _ _ ((R.abs.ob x).refs.filter R.abs.yng) rfl NI.out (by have := HM.out; have := HNO.out; have := HV.out; have := HVN.out; have := HNL.out; omega) (by have := HG1.out.size; omega) ?_; intro st2 w15 hm2 hg2; have HM2 := Lib.hid hm2; have HG2 := Lib.hid hg2; clear hm2 hg2)
            have hb14 : Below wy.heap.size wy w14 := (Below.refl _ _).grown HG1.out (Nat.le_refl _) (fun k hk => by cases hk)
            have hb15 : Below wy.heap.size wy w15 := hb14.grown HG2.out hb14.size (fun k hk => (HM1'.out.lt k hk).1)
            have hB15 := below_then BN.out (by have := BN.out.size; omega) hb15
            have hO15 := own_keep ON.out fun g hg => hb15.block g (by obtain ⟨_, _, _, hr⟩ := own_row ON.out hg; exact heap_lt hr)
            have hm2 := HM2.out
            rw [← List.length_append] at hm2
            have hq15 := que_of_row hm2 (fun z hz => by
              rcases List.mem_append.1 hz with hz | hz
              · exact QN.out.wf z hz
              · exact NEXTI.out.wf z hz)
            have hap15 : ∀ g, st2.ownBlock = some g → (Value.slice (some ⟨go, 0, none⟩) (out.length + 1) cco).ownBlock ≠ some g := by
              intro g hg e
              have h1 := (hq15.lt hg).1
              obtain ⟨_, _, _, hr⟩ := own_row ON.out e
              have := heap_lt hr
              omega
            have HQ15 := Lib.hid ((show Que 0 w15 st2 (t ++ ((R.abs.ob x).refs.filter R.abs.yng)) from by
              rcases hq15 with h | ⟨g, off, cc, cs, e, _, r⟩
              · exact .inl h
              · exact .inr ⟨g, off, cc, cs, e, Nat.zero_le _, r⟩))
            have HAP15 := Lib.hid hap15
            have HO15 := Lib.hid hO15
            have HB15 := Lib.hid hB15
            clear hap15 hO15 hB15 hb14 hb15 hm2 hq15
            go_roundg m
            case measure => omega
            case rel =>
              have hr := HRES.out
              rw [rbfs_go HX.out HIN.out] at hr
              refine ⟨m, out ++ [x], t ++ ((R.abs.ob x).refs.filter R.abs.yng), rfl, ?_, ?_, hr, HQ15.out, HAP15.out, ?_, HWO.out, HB15.out⟩
              · have h1 := HVN.out; have h2 := HM.out; have h3 := HNL.out; rw [List.length_append]; omega
              · have := HNO.out; rw [List.length_append, List.length_cons, List.length_nil]; omega
              · rw [List.length_append]; exact HO15.out
end Go.Proofs.Ytobniolmielikaa

/- The reference collector: base, limited, live; no condition. -/
namespace Go.Proofs.Ytobniolmielikaa
open Go.RowKit

set_option maxHeartbeats 1000000 in
theorem base_any (base : Nat) (w : World) (r : Nat) (NV AV : Value) (R : RM) (hh : RHeapAt base w r NV AV R) (hW : RWel R) :
    Calls Try.prog 81 #[.pointer (some ⟨r, 0, none⟩)] w fun e w' => e = .returned (.int .i64 R.abs.top) ∧ Below w.heap.size w w' := by
  have HA := Lib.hid (raddrs_any base w r NV AV R hh hW.kn hW.ka)
  have HW := Lib.hid hW
  have hal := hW.wel.addrs_len
  clear hh hW
  go_enter Try.func81, Try.ntmps81
  go_wp2_with fail
  refine HA.out.mono ?_
  rintro e w1 ⟨u, rfl, hu, hb1⟩
  rw [raddrs_abs HW.out] at hu
  obtain ⟨Au, cu, rfl⟩ := hu.shape
  have HU := Lib.hid hu
  have HB1 := Lib.hid hb1
  clear hu hb1
  go_wp2_with fail
  go_loop [5, 3] (fun i n => ∃ k : Nat, k ≤ R.abs.addrs.length ∧ i = .int .i64 k ∧ n = .int .i64 (topL (R.abs.addrs.take k))) (fun i _ => R.abs.addrs.length - (intOf i).toNat)
  case atStart => exact ⟨0, Nat.zero_le _, rfl, rfl⟩
  case round =>
    obtain ⟨k, hk, rfl, rfl⟩ := hrel
    have htl := topL_le HW.out.wel k
    by_cases hlt : k < R.abs.addrs.length
    · obtain ⟨ad, eA, hc⟩ := Ints.cell HU.out hlt
      have hx := List.getElem?_eq_getElem hlt
      have hxb : 0 ≤ R.abs.addrs[k] + 1 ∧ R.abs.addrs[k] + 1 ≤ 4611686018427387904 := by
        have h1 := topL_le HW.out.wel (k + 1)
        rw [topL_snoc hx] at h1
        have h2 := (HW.out.wel.addr_mem).1 (List.mem_of_getElem? hx)
        have h3 := HW.out.wel.key ((get_mem HW.out.wel.nd).1 (HM.get_some h2))
        omega
      generalize R.abs.addrs[k] = x at hx hc hxb
      have HX := Lib.hid hx
      subst eA
      clear hx
      go_wp2_with fail
      all_goals
        go_round
        case rel => exact ⟨k + 1, by omega, by go_num, by rw [topL_snoc HX.out]⟩
        case measure => simp [intOf]; omega
    · have he : k = R.abs.addrs.length := by omega
      subst he
      rw [List.take_length, topL_addrs HW.out.wel]
      go_wp2_with fail
      go_ret
      exact ⟨rfl, HB1.out⟩
/-- What limited answers. -/
def lim (H : HM) (n : Int) (space : Int) : Int := if space < n then 33 else if 4611686018427387904 - H.top < n then 39 else 0
set_option maxHeartbeats 1000000 in
theorem limited_any (base : Nat) (w : World) (r : Nat) (NV AV : Value) (R : RM) (n : Nat) (space : Int) (hh : RHeapAt base w r NV AV R) (hW : RWel R) :
    Calls Try.prog 80 #[.pointer (some ⟨r, 0, none⟩), .int .i64 n, .int .i64 space] w fun e w' => e = .returned (.int .i64 (lim R.abs n space)) ∧ Below w.heap.size w w' := by
  have BA := Lib.hid (base_any base w r NV AV R hh hW)
  have htop := hW.wel.top
  clear hh hW
  by_cases h1 : space < n
  · have HL := Lib.hid (show lim R.abs n space = 33 by simp [lim, h1])
    go_enter Try.func80, Try.ntmps80
    go_wp2_with fail
    go_ret
    exact ⟨by rw [HL.out]; rfl, Below.refl _ _⟩
  · by_cases h2 : 4611686018427387904 - R.abs.top < n
    · have HL := Lib.hid (show lim R.abs n space = 39 by simp [lim, h1, h2])
      go_enter Try.func80, Try.ntmps80
      go_wp2_with fail
      refine BA.out.mono ?_
      rintro e w1 ⟨rfl, hb⟩
      have HB := Lib.hid hb
      clear hb
      go_wp2_with fail
      go_ret
      exact ⟨by rw [HL.out]; rfl, HB.out⟩
    · have HL := Lib.hid (show lim R.abs n space = 0 by simp [lim, h1, h2])
      go_enter Try.func80, Try.ntmps80
      go_wp2_with fail
      refine BA.out.mono ?_
      rintro e w1 ⟨rfl, hb⟩
      have HB := Lib.hid hb
      clear hb
      go_wp2_with fail
      go_ret
      exact ⟨by rw [HL.out]; rfl, HB.out⟩
set_option maxHeartbeats 400000 in
theorem rlive_any (base : Nat) (w : World) (r : Nat) (NV AV : Value) (R : RM) (hh : RHeapAt base w r NV AV R) (hn : 1 ≤ R.s0) :
    Calls Try.prog 71 #[.pointer (some ⟨r, 0, none⟩)] w fun e w' => e = .returned (.bool true) ∧ w' = w := by
  obtain ⟨c0, -, -, -, -⟩ := hh.cells
  have hd : decide (0 < R.s0) = true := by rw [decide_eq_true_eq]; omega
  clear hh
  go_enter Try.func71, Try.ntmps71
  go_wp2_with fail
  go_ret
  exact ⟨by rw [← hd]; rfl, rfl⟩
set_option maxHeartbeats 400000 in
theorem rlimits_any (base : Nat) (w : World) (r : Nat) (NV AV : Value) (R : RM) (hh : RHeapAt base w r NV AV R) :
    Calls Try.prog 79 #[.pointer (some ⟨r, 0, none⟩)] w fun e w' => e = .returned (.tuple #[.int .i64 R.s0, .int .i64 R.s1]) ∧ ∃ n, w' = w.drewN n := by
  obtain ⟨c0, c1, -, -, -⟩ := hh.cells
  clear hh
  go_enter Try.func79, Try.ntmps79
  go_wp2_with fail
  go_quiet (fail)
  go_wp2_with fail
  go_ret2
  exact ⟨rfl, _, rfl⟩
end Go.Proofs.Ytobniolmielikaa

/- The collector on lists: both searches find the same; no program in sight; no condition. -/
namespace Go.Proofs.Ytobniolmielikaa
open Go.RowKit

theorem ordR_live {H : HM} (h : Wel H) (q : List Int) : H.ordR (fun _ => true) q = H.live q := by
  unfold HM.ordR HM.live
  by_cases hall : q.all H.has = true
  · rw [if_pos hall, if_pos hall]
    have := bfs_rbfs (E := H.all) (acc := fun _ => true) h.nd (fun _ _ => rfl) (H.fuel q) (H.fuel q) [] q (by simp [HM.fuel]) (by rw [List.filter_eq_self.2 (fun _ _ => rfl)]; simp [HM.fuel]) (fun x hx => List.all_eq_true.1 hall x hx) (by simp)
    rw [List.filter_eq_self.2 (fun _ _ => rfl)] at this
    exact this
  · rw [if_neg hall, if_neg hall]
theorem yng_none {H : HM} {x : Int} (hg : get H.all x = none) : H.yng x = true := by
  unfold HM.all at hg
  rw [get_append] at hg
  unfold HM.yng
  cases h1 : Go.Proofs.Ytobniolmielikaa.get H.ly x with
  | some o => rw [h1] at hg; cases hg
  | none => rw [h1] at hg; simp only at hg; rw [hg]; rfl
theorem ordR_bfs {H : HM} (h : Wel H) {q : List Int} (hq : q.all H.has = true) (hy : ∀ x ∈ q, H.yng x = true) : H.ordR H.yng q = bfs H.all H.yng (H.fuel q) [] q := by
  unfold HM.ordR
  rw [if_pos hq]
  have hf : q.filter H.yng = q := List.filter_eq_self.2 hy
  have := bfs_rbfs (E := H.all) (acc := H.yng) h.nd (fun x hx => yng_none hx) (H.fuel q) (H.fuel q) [] q (by simp [HM.fuel]) (by rw [hf]; simp [HM.fuel]) (fun x hx => List.all_eq_true.1 hq x hx) (by simp)
  rw [hf] at this
  exact this
theorem lim_limit {H : HM} {n : Nat} {L : List Int} : lim H L.length (H.eld - n) = (H.limit n L).1 := by
  unfold lim HM.limit
  by_cases h1 : H.eld < n + L.length
  · rw [if_pos h1, if_pos (by omega)]
  · rw [if_neg h1, if_neg (by omega)]
    by_cases h2 : 4611686018427387904 < H.top + L.length
    · rw [if_pos h2, if_pos (by omega)]
    · rw [if_neg h2, if_neg (by omega)]
end Go.Proofs.Ytobniolmielikaa

/- The collector on lists: what a minor collection makes; no program in sight; no condition. -/
namespace Go.Proofs.Ytobniolmielikaa
open Go.RowKit

theorem nodup_le : ∀ {L M : List Int}, L.Nodup → (∀ a ∈ L, a ∈ M) → L.length ≤ M.length
  | [], _, _, _ => by simp
  | a :: L, M, hn, hs => by
    have h1 := List.nodup_cons.1 hn
    have ha := hs a (by simp)
    have ih := nodup_le (L := L) (M := M.erase a) h1.2 (fun b hb => by
      have hne : b ≠ a := fun e => h1.1 (e ▸ hb)
      exact (List.mem_erase_of_ne hne).2 (hs b (by simp [hb])))
    rw [List.length_erase_of_mem ha] at ih
    have := List.length_pos_of_mem ha
    simp only [List.length_cons]
    omega
theorem addrs_perm (H : HM) : H.addrs.Perm (keysOf H.ly ++ keysOf H.la) := List.mergeSort_perm _ _
theorem yng_ly {H : HM} (h : Wel H) {a : Int} (ha : a ∈ keysOf H.ly) : H.yng a = true := by
  unfold HM.yng
  cases hg : Go.Proofs.Ytobniolmielikaa.get H.la a with
  | none => rfl
  | some o =>
    have h1 := h.nd
    unfold HM.all at h1
    rw [List.map_append, List.nodup_append] at h1
    have h2 : (a, o) ∈ H.la := (get_mem h1.2.1).1 hg
    exact absurd rfl (h1.2.2 a ha a (List.mem_map_of_mem (f := fun p : Int × Ob => p.1) h2))
theorem yng_la {H : HM} {a : Int} (ha : a ∈ keysOf H.la) : H.yng a = false := by
  unfold HM.yng
  cases hg : Go.Proofs.Ytobniolmielikaa.get H.la a with
  | none => exact absurd ha (get_none.1 hg)
  | some o => rfl
theorem olds_perm {H : HM} (h : Wel H) : (H.addrs.filter fun a => !H.yng a).Perm (keysOf H.la) := by
  have h1 := (addrs_perm H).filter fun a => !H.yng a
  rw [List.filter_append] at h1
  have e1 : (keysOf H.ly).filter (fun a => !H.yng a) = [] := List.filter_eq_nil_iff.2 fun a ha => by rw [yng_ly h ha]; simp
  have e2 : (keysOf H.la).filter (fun a => !H.yng a) = keysOf H.la := List.filter_eq_self.2 fun a ha => by rw [yng_la ha]; rfl
  rw [e1, e2, List.nil_append] at h1
  exact h1
theorem olds_length {H : HM} (h : Wel H) (L : List Int) : (H.olds L).length = H.la.length := by
  unfold HM.olds
  rw [List.length_map, (olds_perm h).length_eq]
  unfold keysOf
  rw [List.length_map]
theorem olds_mem {H : HM} {L : List Int} {p : Int × Ob} (hp : p ∈ H.olds L) : ∃ a, a ∈ H.addrs ∧ H.yng a = false ∧ p = (a, mvO L H.top (H.ob a)) := by
  unfold HM.olds at hp
  obtain ⟨a, ha, rfl⟩ := List.mem_map.1 hp
  obtain ⟨h1, h2⟩ := List.mem_filter.1 ha
  exact ⟨a, h1, by simpa using h2, rfl⟩
theorem fitB_olds {H : HM} (h : Wel H) (L : List Int) : fitB (H.olds L) = true := by
  refine List.all_eq_true.2 fun p hp => ?_
  obtain ⟨a, ha, _, rfl⟩ := olds_mem hp
  have hh := (h.addr_mem).1 ha
  have hk := h.key ((get_mem h.nd).1 (HM.get_some hh))
  have hv := vld_mv (L := L) h.top.1 (h.vld hh)
  unfold fit1
  simp only [Bool.and_eq_true, decide_eq_true_eq]
  exact ⟨⟨hk.1, hk.2.1⟩, hv⟩
/-- What the old generation will hold. -/
def HM.mix (H : HM) (L : List Int) : List (Int × Ob) := H.olds L ++ H.news L
theorem mix_length {H : HM} (h : Wel H) (L : List Int) : (H.mix L).length = H.la.length + L.length := by
  unfold HM.mix
  rw [List.length_append, olds_length h, news_length]
theorem fitB_mix {H : HM} (h : Wel H) {L : List Int} (hL : ∀ a ∈ L, H.has a = true) : fitB (H.mix L) = decide (H.top + L.length ≤ 4611686018427387904) := by
  unfold HM.mix
  have : fitB (H.olds L ++ H.news L) = (fitB (H.olds L) && fitB (H.news L)) := by simp [fitB]
  rw [this, fitB_olds h, Bool.true_and, fitB_news h hL]
theorem olds_lt {H : HM} (h : Wel H) {L : List Int} {p : Int × Ob} (hp : p ∈ H.olds L) : p.1 < H.top := by
  obtain ⟨a, ha, _, rfl⟩ := olds_mem hp
  exact h.lt_top ((h.addr_mem).1 ha)
theorem mix_new {H : HM} (h : Wel H) {L : List Int} {k : Nat} : H.top + k ∉ (H.olds L ++ (H.news L).take k).map (·.1) := by
  rw [List.map_append, List.mem_append]
  rintro (hin | hin)
  · obtain ⟨p, hp, e⟩ := List.mem_map.1 hin
    have := olds_lt h hp
    omega
  · exact news_new hin
theorem surv_found {H : HM} {roots L : List Int} (h : H.surv roots = some L) : ∃ q, H.gath H.rem (roots.filter H.yng) = some q ∧ bfs H.all H.yng (H.fuel q) [] q = some L := by
  unfold HM.surv at h
  cases hg : H.gath H.rem (roots.filter H.yng) with
  | none => rw [hg] at h; cases h
  | some q => rw [hg] at h; exact ⟨q, rfl, h⟩
theorem surv_has {H : HM} {roots L : List Int} (h : H.surv roots = some L) : L.Nodup ∧ (∀ a ∈ L, H.has a = true) ∧ (∀ a ∈ L, H.yng a = true) := by
  obtain ⟨q, _, hb⟩ := surv_found h
  have hf := bfs_found _ _ _ _ hb
  refine ⟨hf.nodup (by simp), fun a ha => ?_, fun a ha => ?_⟩
  · rcases hf.there a ha with h1 | h1
    · simp at h1
    · exact h1.2
  · rcases hf.there a ha with h1 | h1
    · simp at h1
    · exact h1.1
theorem surv_len {H : HM} (hW : Wel H) {roots L : List Int} (h : H.surv roots = some L) : L.length ≤ 131072 := by
  obtain ⟨h1, h2, _⟩ := surv_has h
  have := nodup_le h1 (fun a ha => (hW.addr_mem).2 (h2 a ha))
  have := hW.addrs_len
  omega
theorem olds_take {H : HM} {L : List Int} {k : Nat} {x : Int} (hx : H.addrs[k]? = some x) :
    (((H.addrs.take (k + 1)).filter fun a => !H.yng a).map fun a => (a, mvO L H.top (H.ob a))) = (((H.addrs.take k).filter fun a => !H.yng a).map fun a => (a, mvO L H.top (H.ob a))) ++ if H.yng x = true then [] else [(x, mvO L H.top (H.ob x))] := by
  rw [List.take_add_one, hx, List.filter_append, List.map_append]
  congr 1
  cases hy : H.yng x <;> simp [hy]
end Go.Proofs.Ytobniolmielikaa

/- The collector on lists: what the reference's minor collection makes; no program in sight; no condition. -/
namespace Go.Proofs.Ytobniolmielikaa
open Go.RowKit

theorem gath_inv {H : HM} : ∀ {rem q q' : List Int}, H.gath rem q = some q' → (∀ x ∈ q, H.has x = true ∧ H.yng x = true) → ∀ x ∈ q', H.has x = true ∧ H.yng x = true
  | [], q, q', h, hq => by
    simp only [HM.gath, Option.some.injEq] at h
    exact h ▸ hq
  | a :: rem, q, q', h, hq => by
    unfold HM.gath at h
    by_cases hall : (H.ob a).refs.all H.has = true
    · rw [if_pos hall] at h
      refine gath_inv h fun x hx => ?_
      rcases List.mem_append.1 hx with hx | hx
      · exact hq x hx
      · obtain ⟨h1, h2⟩ := List.mem_filter.1 hx
        exact ⟨List.all_eq_true.1 hall x h1, h2⟩
    · rw [if_neg hall] at h; cases h
/-- What survives, as the reference searches it. -/
theorem surv_ord {H : HM} (h : Wel H) {roots q : List Int} (hr : roots.all H.has = true) (hg : H.gath H.rem (roots.filter H.yng) = some q) : H.surv roots = H.ordR H.yng q := by
  have hq := gath_inv hg (fun x hx => by
    obtain ⟨h1, h2⟩ := List.mem_filter.1 hx
    exact ⟨List.all_eq_true.1 hr x h1, h2⟩)
  rw [ordR_bfs h (List.all_eq_true.2 fun x hx => (hq x hx).1) (fun x hx => (hq x hx).2)]
  unfold HM.surv
  rw [hg]
theorem surv_bad {H : HM} {roots : List Int} (hg : H.gath H.rem (roots.filter H.yng) = none) : H.surv roots = none := by
  unfold HM.surv
  rw [hg]
/-- An old object that is not remembered refers to nothing young. -/
theorem mvO_old {H : HM} {a : Int} (ho : H.yng a = false) (hr : a ∉ H.rem) (hW : Wel H) {L : List Int} (hL : ∀ x ∈ L, H.has x = true ∧ H.yng x = true) (base : Int) : mvO L base (H.ob a) = H.ob a := by
  refine mvO_none fun r hrr hin => ?_
  obtain ⟨h1, h2⟩ := hL r hin
  cases hg : Go.Proofs.Ytobniolmielikaa.get H.la a with
  | none => simp [HM.yng, hg] at ho
  | some o =>
    have hnd := hW.nd
    unfold HM.all at hnd
    rw [List.map_append, List.nodup_append] at hnd
    have hm : (a, o) ∈ H.la := (get_mem hnd.2.1).1 hg
    have hob : H.ob a = o := by
      unfold HM.ob
      rw [(get_mem hW.nd).2 (List.mem_append_right H.ly hm)]
      rfl
    rw [hob] at hrr
    apply hr
    unfold HM.rem srt
    rw [List.mem_mergeSort]
    refine List.mem_map.2 ⟨(a, o), List.mem_filter.2 ⟨hm, ?_⟩, rfl⟩
    unfold HM.has at h1
    unfold HM.all at h1
    rw [get_append] at h1
    unfold HM.yng at h2
    cases hgy : Go.Proofs.Ytobniolmielikaa.get H.ly r with
    | none =>
      rw [hgy] at h1
      simp only at h1
      rw [h1] at h2
      cases h2
    | some o2 =>
      unfold refsTo
      refine List.any_eq_true.2 ⟨r, hrr, ?_⟩
      first | (rw [hgy]; rfl) | simp [hgy]
end Go.Proofs.Ytobniolmielikaa

/- The reference collector: replaced; no condition. -/
namespace Go.Proofs.Ytobniolmielikaa
open Go.RowKit

set_option maxRecDepth 100000 in
set_option maxHeartbeats 2000000 in
theorem rreplaced_any (ok ok' : Nat → Prop) (w : World) (v u : Value) (o : Ob) (L : List Int) (base : Int) (h : ObAt ok w v o) (hL : Ints ok' w u L) (hb : 0 ≤ base ∧ base ≤ 4611686018427387904) (hl : L.length ≤ 1000000) :
    Calls Try.prog 76 #[v, u, .int .i64 base] w fun e w' => ∃ z, e = .returned z ∧ ObR w.heap.size w' z (mvO L base o) ∧ Below w.heap.size w w' := by
  obtain ⟨rv, wv, rfl, h1, h2⟩ := h
  obtain ⟨ra, rc, rfl⟩ := h1.shape
  obtain ⟨wa, wc, rfl⟩ := h2.shape
  obtain ⟨La, Lc, rfl⟩ := hL.shape
  have l1 := h1.len
  have l2 := h2.len
  have H1 := Lib.hid h1
  have H2 := Lib.hid h2
  have HL := Lib.hid hL
  clear h1 h2 hL
  go_enter Try.func76, Try.ntmps76
  go_wp2_with fail
  refine (moved_any ok ok' _ _ _ o.refs L base (((H1.out.alloc _).alloc _).alloc _) (((HL.out.alloc _).alloc _).alloc _) hb hl).mono ?_
  rintro e w1 ⟨z, rfl, hz, hzw, hb1⟩
  obtain ⟨A1, k1, rfl⟩ := own_shape hz
  have r0 := rowB hb1 (new30 _ _ _ _) (by simp <;> omega)
  have r1 := rowB hb1 (new31 _ _ _ _) (by simp <;> omega)
  have r2 := rowB hb1 (new32 _ _ _ _) (by simp <;> omega)
  have b1 := below_then ((((Below.refl w.heap.size w).alloc (Nat.le_refl _) _).alloc (by simp) _).alloc (by simp; omega) _) (by simp; omega) hb1
  have z1 := hb1.size
  simp only [World.size_alloc] at z1 hz
  have hl1 : o.refs.length = (o.refs.map (mv L base)).length := by simp
  have hz' : w1.ownsRow (w.heap.size + 1 + 1 + 1) 3 1 (.slice A1 o.refs.length k1) (o.refs.map (mv L base)).length ((o.refs.map (mv L base)).map (Value.int .i64)) := by rw [← hl1]; exact hz
  have hi := intsR_of_row hz' (by rw [← hl1]; omega) hzw
  have HI := Lib.hid hi
  have R0 := Lib.hid r0
  have R1 := Lib.hid r1
  have R2 := Lib.hid r2
  have B1 := Lib.hid b1
  have c2 := cellsH r2
  have f2 := freeH r2
  have c0 := cellsH (rowSetNe (i := 4) (rowSetNe (i := 3) r0 (by omega : w.heap.size ≠ w.heap.size + 1 + 1) (.slice A1 o.refs.length k1)) (by omega : w.heap.size ≠ w.heap.size + 1 + 1) (.slice none 0 0))
  have c2' := cellsH (rowSet (rowSet r2 3 (.slice A1 o.refs.length k1)) 4 (.slice none 0 0))
  -- behind the two stores
  have t3 : Turn (fun k => k = w.heap.size + 1 + 1) w1 ((w1.setCell ⟨w.heap.size + 1 + 1, 3, none⟩ (.slice A1 o.refs.length k1)).setCell ⟨w.heap.size + 1 + 1, 4, none⟩ (.slice none 0 0)) := (turnSet _ _ 3 _).trans (turnSet _ _ 4 _)
  have R3 := Lib.hid (rowSet (rowSet r2 3 (.slice A1 o.refs.length k1)) 4 (.slice none 0 0))
  have T3 := Lib.hid t3
  have hb3 : Below w.heap.size w ((w1.setCell ⟨w.heap.size + 1 + 1, 3, none⟩ (.slice A1 o.refs.length k1)).setCell ⟨w.heap.size + 1 + 1, 4, none⟩ (.slice none 0 0)) := (b1.setCell (p := ⟨w.heap.size + 1 + 1, 3, none⟩) (by simp <;> omega) _).setCell (p := ⟨w.heap.size + 1 + 1, 4, none⟩) (by simp <;> omega) _
  have HB3 := Lib.hid hb3
  clear hz hzw hb1 r0 r1 r2 b1 hl1 hz' hi t3 hb3
  go_wp2_with (at_builtin; refine wpList_append_ints _ rfl _ _ 23 rfl w1.heap.size 3 Try.underlying23 info3 _ 0 [] rfl (row_of_nil _ _ _) ok _ o.words rfl (H2.out.fresh HB3.out) (by omega) (by simp) ?_; intro v2 w2 hown hg; rw [List.nil_append, Nat.zero_add] at hown; obtain ⟨A2, k2, rfl⟩ := own_shape hown; have i2 := intsR_of_row hown (by omega) H2.out.wf; have I2 := Lib.hid i2; have bg := (Below.refl w1.heap.size _).grown hg (by simp) (fun k hk => by cases hk); have BG := Lib.hid bg; have q2 := rowB bg R3.out (by omega); have Q2 := Lib.hid q2; have Q1 := Lib.hid (rowB bg (rowT T3.out R1.out (by omega)) (by omega)); have cc2 := cellsH q2; have ff2 := freeH q2; have cc1 := cellsH Q1.out; have ff1 := freeH Q1.out; have zg := bg.size; clear hown hg i2 bg q2)
  clear cc2 ff2 cc1 ff1 c0 c2 f2 c2'
  have q1 := rowSetNe (k := w.heap.size + 1 + 1) (i := 4) Q1.out (by omega) (.slice A2 o.words.length k2)
  have c5 := cellsH (set5_row q1 (.int .i64 o.op) (.int .i64 o.n) (.int .i64 o.ar) (.slice A1 o.refs.length k1) (.slice A2 o.words.length k2))
  unfold set5 at c5
  have tF := (turnSet w2 (w.heap.size + 1 + 1) 4 (.slice A2 o.words.length k2))
  have tG := set5_turn (S := fun k => k = w.heap.size + 1) (Turn.refl _ (w2.setCell ⟨w.heap.size + 1 + 1, 4, none⟩ (.slice A2 o.words.length k2))) rfl (.int .i64 o.op) (.int .i64 o.n) (.int .i64 o.ar) (.slice A1 o.refs.length k1) (.slice A2 o.words.length k2)
  refine bodyPost_ret (v := .agg #[.int .i64 o.op, .int .i64 o.n, .int .i64 o.ar, .slice A1 o.refs.length k1, .slice A2 o.words.length k2]) (by simp [results, Try.results76, go_sem, c5]) rfl ⟨_, rfl, ⟨_, _, rfl, ?_, ?_⟩, ?_⟩
  · exact (((((HI.out.turn T3.out (fun k hk _ e => by omega)).keep BG.out.size (fun k hk _ hl => BG.out.block k (by simpa using hl))).turn tF (fun k hk _ e => by omega)).turn tG (fun k hk _ e => by omega)).base (by omega))
  · exact (((I2.out.turn tF (fun k hk _ e => by omega)).turn tG (fun k hk _ e => by omega)).base (by omega))
  · exact set5_below ((HB3.out.trans (BG.out.mono (by have := HB3.out.size; simp at this; omega))).setCell (p := ⟨w.heap.size + 1 + 1, 4, none⟩) (by simp <;> omega) _) (by omega) _ _ _ _ _
end Go.Proofs.Ytobniolmielikaa

