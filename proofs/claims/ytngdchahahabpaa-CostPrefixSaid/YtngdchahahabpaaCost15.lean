/- The reference's Age; no condition. -/
import Derived.Test.YtngdchahahabpaaCost14
import Derived.Test.YtngdchahahabpaaCostW1
import Derived.Deep.RegionLaw
namespace Go.Proofs.Ytngdchahahabpaa
open Go.RowKit

/-- The ids of the reference's Age. -/
def rids (out : List Int) : List Ev → List Int
  | [] => out
  | e :: r => rids (if e.op = 1 ∧ has 2 e.id (e :: r) = true then ins out e.id else out) r
/-- Where a thunk is allocated, and where its evaluation begins behind that. -/
def fa (l : List Ev) (id : Int) : Int := fstL 1 id l 0
def fe (l : List Ev) (id : Int) : Int := fstL 2 id (l.drop (fa l id).toNat) (fa l id).toNat
def stepAt (l : List Ev) (i : Nat) : Int := match l[i]? with | some e => e.step | none => 0
def rage (l : List Ev) (id : Int) : Int := wrap64 (stepAt l (fe l id).toNat - stepAt l (fa l id).toNat)

theorem fstL_spec (op id : Int) : ∀ (l : List Ev) (i : Nat), 0 ≤ fstL op id l i → ∃ k, ∃ h : k < l.length, fstL op id l i = ((i + k : Nat) : Int) ∧ l[k].op = op ∧ l[k].id = id ∧ ∀ j, (hj : j < k) → ¬ (l[j].op = op ∧ l[j].id = id)
  | [], i, h => by simp [fstL] at h
  | e :: r, i, h => by
    unfold fstL at h ⊢
    by_cases hm : e.op = op ∧ e.id = id
    · rw [if_pos hm]
      exact ⟨0, by simp, by simp, hm.1, hm.2, fun j hj => by omega⟩
    · rw [if_neg hm] at h ⊢
      obtain ⟨k, hk, h1, h2, h3, h4⟩ := fstL_spec op id r (i + 1) h
      refine ⟨k + 1, by simp; omega, by rw [h1]; congr 1; omega, h2, h3, fun j hj => ?_⟩
      match j, hj with
      | 0, _ => exact hm
      | j + 1, hj => exact h4 j (by omega)
theorem fstL_met (op id : Int) (l : List Ev) (i : Nat) {k : Nat} (hk : k < l.length) (h1 : l[k].op = op) (h2 : l[k].id = id) : 0 ≤ fstL op id l i := by
  have h := fstL_has op id l i
  have : has op id l = true := by
    simp only [has, List.any_eq_true]
    exact ⟨l[k], List.getElem_mem _, by simp [h1, h2]⟩
  rw [this] at h
  simpa using h
/-- Both are there. -/
structure Good (l : List Ev) (id : Int) (na nb : Nat) : Prop where
  ha : fa l id = (na : Int)
  hb : fstL 2 id (l.drop na) na = (nb : Int)
  la : na < l.length
  lb : nb < l.length
  oa : l[na].op = 1
  ia : l[na].id = id
  le : na ≤ nb
theorem good_of {l : List Ev} {id : Int} {k m : Nat} (hk : k < l.length) (h1 : l[k].op = 1) (h2 : l[k].id = id) (hm : m < l.length) (hkm : k ≤ m) (h3 : l[m].op = 2) (h4 : l[m].id = id) : ∃ na nb, Good l id na nb := by
  have h0 := fstL_met 1 id l 0 hk h1 h2
  obtain ⟨na, hna, e1, o1, i1, f1⟩ := fstL_spec 1 id l 0 h0
  have hle : na ≤ k := by
    apply Classical.byContradiction
    intro hc
    exact f1 k (by omega) ⟨h1, h2⟩
  have hd : m - na < (l.drop na).length := by simp; omega
  have hget : (l.drop na)[m - na] = l[m] := by
    rw [List.getElem_drop]
    congr 1
    omega
  have h5 := fstL_met 2 id (l.drop na) na hd (by rw [hget]; exact h3) (by rw [hget]; exact h4)
  obtain ⟨nb, hnb, e2, o2, i2, f2⟩ := fstL_spec 2 id (l.drop na) na h5
  exact ⟨na, na + nb, by simpa [fa] using e1, e2, hna, by simp at hnb; omega, o1, i1, by omega⟩
theorem rids_mem (l : List Ev) (x : Int) : ∀ (r : List Ev) (out : List Int) (k : Nat), r = l.drop k → x ∈ rids out r → x ∈ out ∨ ∃ na nb, Good l x na nb
  | [], out, k, _, h => .inl h
  | e :: r, out, k, hr, h => by
    have hk : k < l.length := by
      apply Classical.byContradiction
      intro hc
      rw [List.drop_eq_nil_of_le (by omega)] at hr
      cases hr
    rw [List.drop_eq_getElem_cons hk] at hr
    injection hr with he hr'
    unfold rids at h
    rcases rids_mem l x r _ (k + 1) hr' h with h1 | h1
    · split at h1
      · rename_i hc
        rcases (mem_ins _ _ _).1 h1 with rfl | h2
        · right
          have hh := hc.2
          rw [he, hr', ← List.drop_eq_getElem_cons hk] at hh
          simp only [has, List.any_eq_true, Bool.and_eq_true, beq_iff_eq] at hh
          obtain ⟨y, hy, y1, y2⟩ := hh
          obtain ⟨j, hj, rfl⟩ := List.mem_iff_getElem.1 hy
          rw [List.getElem_drop] at y1 y2
          simp at hj
          exact good_of hk (by rw [← he]; exact hc.1) (by rw [← he]) (m := k + j) (by omega) (by omega) y1 (by rw [y2, ← he])
        · exact .inl h2
      · exact .inl h1
    · exact .inr h1
theorem rids_good (l : List Ev) (x : Int) (h : x ∈ rids [] l) : ∃ na nb, Good l x na nb := by
  rcases rids_mem l x l [] 0 rfl h with h1 | h1
  · cases h1
  · exact h1
theorem rage_good {l : List Ev} {id : Int} {na nb : Nat} (g : Good l id na nb) : rage l id = wrap64 ((l[nb]'g.lb).step - (l[na]'g.la).step) := by
  have h1 : fe l id = (nb : Int) := by unfold fe; rw [g.ha]; exact g.hb
  unfold rage
  rw [h1, g.ha]
  simp [stepAt, g.la, g.lb]
theorem rids_length : ∀ (r : List Ev) (out : List Int), (rids out r).length ≤ out.length + r.length
  | [], out => by simp [rids]
  | e :: r, out => by
    unfold rids
    have h2 := ins_length e.id out
    simp only [List.length_cons]
    by_cases hc : e.op = 1 ∧ has 2 e.id (e :: r) = true
    · rw [if_pos hc]
      have h1 := rids_length r (ins out e.id)
      omega
    · rw [if_neg hc]
      have h1 := rids_length r out
      omega

theorem run_append_one {w : World} {base : Nat} {v : Value} {n : Nat} {xs : List Int} (h : w.ownsRow base 3 1 v n (xs.map (Value.int .i64))) (hb : base ≤ w.heap.size) (hn : (n + 1) * 8 ≤ 140737488355328) (x : Int) (ty : TypeId) :
    ∃ v' w', (Builtin.append_ #[38, 38] ty #[v, .slice (some ⟨w.heap.size, 0, none⟩) 1 1]).run Try.prog (w.alloc (.cells #[.int .i64 x] 3)) = .ok v' w' ∧ w'.ownsRow base 3 1 v' (n + 1) ((xs ++ [x]).map (Value.int .i64)) ∧ Below base w w' := by
  obtain ⟨i, hi, hz0, hz1, hz2⟩ := info_parts info3
  obtain ⟨v', w', h1, h2, h3, _⟩ := run_append_own (w := w.alloc (.cells #[.int .i64 x] 3)) base 38 ty 3 i (.int .i64 0) 1 8 Try.underlying38 hi hz0 hz1 hz2 rfl (by decide) v n _ (h.alloc _) ⟨w.heap.size, 0, none⟩ 1 1 [.int .i64 x] rfl
    (by
      intro j u hj
      match j, hj with
      | 0, hj =>
        simp at hj
        subst hj
        exact cellsH (new0 w _) 0) (by simp [Value.oneCell']) (by unfold maxLen; omega) hn (by simp; omega)
  exact ⟨v', w', h1, by rw [List.map_append]; exact h2, ((Below.refl base w).alloc hb _).grown h3 (by simp; omega) (fun q hq => (h.lt q hq).1)⟩

/-- An append whose run is known, as a step of a region that draws its order. -/
theorem step_append_one {P : Program} {ops : Array Oper} {o : Oper} {a : Act} {w : World} {K : Act → World → Prop} {Q : Exit → Act → World → Prop} {E : Prop}
    (hg : o.guard = none) (s x : Operand) (hop : o.op = Op.call { callee := Callee.builtin Builtin.append, args := #[s, x], argTypes := #[38, 38] }) (hty : o.type = 38)
    (u y : Value) (hs : a.eval s = u) (hx : a.eval x = y) (v : Value) (w' : World) (hrun : (Builtin.append_ #[38, 38] 38 #[u, y]).run P w = .ok v w')
    (hK : K (a.put o.dst v) w') : if Region.wanted o (yielded ops a.tmps) = true then Oper.wp P o a w K Q else E := by
  have hw : Region.wanted o (yielded ops a.tmps) = true := by simp [Region.wanted, hg]
  rw [if_pos hw]
  unfold Oper.wp
  simp [execOp, hop, hty, resolve, invoke, builtin, hs, hx, hrun, Result.andThen]
  exact hK

set_option maxHeartbeats 2000000 in
theorem rage_any (w : World) (v : Value) (l : List Ev) (h : Evs w v l) :
    Calls Try.prog 18 #[v] w fun e w' => ∃ u u', e = .returned (.tuple #[u, u']) ∧ Ints (w.heap.size ≤ ·) w' u (rids [] l) ∧ Ints (w.heap.size ≤ ·) w' u' ((rids [] l).map (rage l)) ∧ Below w.heap.size w w' := by
  have hwf := h.wf
  obtain ⟨A, c, rfl⟩ := h.shape
  have hl := h.len
  have H := Lib.hid h
  have HW := Lib.hid hwf
  clear h hwf
  go_enter Try.func18, Try.ntmps18
  go_wp2_with fail
  go_loopw [4, 5] (fun u i wr => ∃ (k : Nat) (xs : List Int), k ≤ l.length ∧ i = .int .i64 k ∧ Ints (w.heap.size ≤ ·) wr u xs ∧ xs.length ≤ k ∧ rids [] l = rids xs (l.drop k) ∧ Below w.heap.size w wr) (fun _ i _ => l.length - (intOf i).toNat)
  case atStart => exact ⟨0, [], Nat.zero_le _, rfl, ⟨_, 0, rfl, by simp, by simp [maxLen], (fun h => by cases h), fun h => by simp at h, by simp, by simp⟩, by simp, rfl, (Below.refl _ _).alloc (Nat.le_refl _) _⟩
  case round =>
    obtain ⟨k, xs, hk, rfl, hi, hlen, hr, hbel⟩ := hrel
    have HB := Lib.hid hbel
    have hbs := hbel.size
    by_cases hlt : k < l.length
    · have hev := (H.out.fresh hbel)
      obtain ⟨b, o, rfl, c1, c2, c3⟩ := hev.cell hlt
      have hid := (HW.out l[k] (List.getElem_mem _)).2.1
      have hfc := fun id => first_any wr _ l 2 id k (by omega) hev
      have hfh := fun id => fstL_has 2 id (l.drop k) k
      rw [drop_at l hlt] at hr
      have hdr := drop_at l hlt
      generalize l[k] = ev at c1 c2 c3 hr hid hdr
      obtain ⟨op, id, step⟩ := ev
      dsimp only at c1 c2 c3 hid
      have hfc := hfc id
      have hfh := hfh id
      generalize fstL 2 id (l.drop k) k = F at hfc hfh
      have HFC := Lib.hid hfc
      have HI := Lib.hid hi
      have HD := Lib.hid hid
      have HR := Lib.hid hr
      have hil := ins_length id xs
      clear hi hid hev hbel hfc hr
      by_cases hop : op = 1
      · subst hop
        rw [hdr] at hfh
        cases hb : has 2 id (⟨1, id, step⟩ :: l.drop (k + 1)) with
        | true =>
          rw [hb] at hfh
          have HN := Lib.hid (HR.out.trans (by rw [rids, if_pos ⟨rfl, hb⟩]) : rids [] l = rids (ins xs id) (l.drop (k + 1)))
          clear hb hdr
          go_wp2_with fail
          refine HFC.out.mono ?_
          rintro e w1 ⟨rfl, rfl⟩
          go_wp2_with fail
          refine (insert_any _ _ _ xs id HI.out HD.out (by omega)).mono ?_
          rintro e w2 ⟨u, rfl, hu, hb2⟩
          have HU := Lib.hid hu
          have HB2 := Lib.hid hb2
          clear hu hb2
          go_wp2_with fail
          go_roundw
          case rel => exact ⟨k + 1, ins xs id, by omega, by go_num, Ints.mono HU.out (fun b _ hb => Nat.le_trans HB.out.size hb), by omega, HN.out, below_then HB.out HB.out.size HB2.out⟩
          case measure => simp [intOf]; omega
        | false =>
          rw [hb] at hfh
          have HN := Lib.hid (HR.out.trans (by rw [rids, if_neg (by simp [hb])]) : rids [] l = rids xs (l.drop (k + 1)))
          clear hb hdr
          go_wp2_with fail
          refine HFC.out.mono ?_
          rintro e w1 ⟨rfl, rfl⟩
          go_wp2_with fail
          go_roundw
          case rel => exact ⟨k + 1, xs, by omega, by go_num, HI.out, by omega, HN.out, HB.out⟩
          case measure => simp [intOf]; omega
      · have t1 : (op == 1) = false := by simpa using hop
        have HN := Lib.hid (HR.out.trans (by rw [rids, if_neg (by simp [hop])]) : rids [] l = rids xs (l.drop (k + 1)))
        clear hop hdr hfh
        go_wp2_with fail
        go_roundw
        case rel => exact ⟨k + 1, xs, by omega, by go_num, HI.out, by omega, HN.out, HB.out⟩
        case measure => simp [intOf]; omega
    · have he : k = l.length := by omega
      have hx : rids [] l = xs := by rw [hr, he, List.drop_length]; rfl
      obtain ⟨A4, n4, rfl⟩ := hi.shape
      have HX := Lib.hid hx
      have HI := Lib.hid hi
      clear he hi hbel hr hx
      go_wp2_with fail
      have hwrb : w.heap.size ≤ wr.heap.size := hbs
      have hstart : Below wr.heap.size wr (wr.alloc (.cells #[] 3)) := (Below.refl _ _).alloc (Nat.le_refl _) _
      have HSt := Lib.hid hstart
      clear hstart
      rename World => wq
      go_loopw [6, 7] (fun u i W => ∃ j : Nat, j ≤ xs.length ∧ i = .int .i64 j ∧ W.ownsRow wq.heap.size 3 1 u j (((xs.take j).map (rage l)).map (Value.int .i64)) ∧ Below wq.heap.size wq W) (fun _ i _ => xs.length - (intOf i).toNat)
      case atStart => exact ⟨0, Nat.zero_le _, rfl, World.ownsRow_made wq #[] 0 (Nat.le_refl _) (by simp [maxLen]) rfl, HSt.out⟩
      case round =>
        obtain ⟨j, hj, rfl, hown, hbel⟩ := hrel
        have HO := Lib.hid hown
        have HB2 := Lib.hid hbel
        have hbs2 := hbel.size
        by_cases hlt2 : j < xs.length
        · obtain ⟨ad, rfl, c1⟩ := (HI.out.fresh hbel).cell hlt2
          have hev := (H.out.fresh HB.out).fresh hbel
          have hmem : xs[j] ∈ rids [] l := by rw [HX.out]; exact List.getElem_mem _
          have htk : ((xs.take (j + 1)).map (rage l)) = ((xs.take j).map (rage l)) ++ [rage l xs[j]] := by rw [List.take_succ_eq_append_getElem hlt2, List.map_append]; rfl
          generalize xs[j] = id at c1 hmem htk
          obtain ⟨na, nb, g⟩ := rids_good l id hmem
          rw [rage_good g] at htk
          obtain ⟨b, o, rfl, a1, a2, a3⟩ := hev.cell g.la
          obtain ⟨b', o', eA, d1, d2, d3⟩ := hev.cell g.lb
          cases eA
          have hna := g.la
          have hnb := g.lb
          generalize (l[na]'g.la).step = sa at a3 htk
          generalize (l[nb]'g.lb).step = sb at d3 htk
          have hc1 : Calls Try.prog 32 #[.slice (some ⟨b, o, none⟩) l.length c, .int .i64 1, .int .i64 id, .int .i64 0] wr fun e w' => e = .returned (.int .i64 na) ∧ w' = wr := by
            have := first_any wr _ l 1 id 0 (by omega) hev
            rw [List.drop_zero, show fstL 1 id l 0 = (na : Int) from g.ha] at this
            exact this
          have hc2 : Calls Try.prog 32 #[.slice (some ⟨b, o, none⟩) l.length c, .int .i64 2, .int .i64 id, .int .i64 na] wr.drew fun e w' => e = .returned (.int .i64 nb) ∧ w' = wr.drew := by
            have := first_any wr.drew _ l 2 id na (by omega) (hev.fresh (Below.refl _ _).drew)
            rw [g.hb] at this
            exact this
          obtain ⟨v', w', hrun, hown', hbel'⟩ := run_append_one (w := wr.drew) (HO.out.drew) (by simpa using hbs2) (by omega) (IntKind.i64.wrap (sb - sa)) 38
          have hwr : IntKind.i64.wrap (sb - sa) = wrap64 (sb - sa) := by rw [IntKind.wrap_i64]; unfold wrap64; rfl
          rw [hwr] at hown'
          replace hrun : (Builtin.append_ #[38, 38] 38 #[u6, .slice (some ⟨wr.heap.size, 0, none⟩) 1 1]).run Try.prog ((wr.alloc (.cells #[.int .i64 (IntKind.i64.wrap (sb - sa))] 3)).drew) = .ok v' w' := hrun
          have HRUN := Lib.hid hrun
          have HC1 := Lib.hid hc1
          have HC2 := Lib.hid hc2
          have HT := Lib.hid htk
          have HO' := Lib.hid hown'
          have HB' := Lib.hid hbel'
          clear hwr hrun hown hbel hev hmem htk hc1 hc2 hown' hbel' a1 a2 d1 d2 g
          go_wp2_with fail
          refine HC1.out.mono ?_
          rintro e w1 ⟨rfl, rfl⟩
          go_wp2_with fail
          go_region_law (first | (refine step_append_one rfl (.tmp 53) (.tmp 71) rfl rfl u6 (.slice (some ⟨w1.heap.size, 0, none⟩) 1 1) (by simp [Act.eval]) (by simp [Act.eval]) v' w' HRUN.out ?_) | (go_simp; go_at_call 32; refine HC2.out.mono ?_; rintro e w9 ⟨rfl, rfl⟩))
          all_goals go_wp2_with fail
          all_goals
            (go_roundw
             case rel =>
               refine ⟨j + 1, by omega, by go_num, ?_, HB2.out.drew.trans HB'.out⟩
               rw [HT.out]
               exact HO'.out
             case measure => simp [intOf]; omega)
        · have he2 : j = xs.length := by omega
          have hrow : wr.ownsRow wq.heap.size 3 1 u6 xs.length ((xs.map (rage l)).map (Value.int .i64)) := by
            have := hown
            rw [he2, List.take_length] at this
            exact this
          have HROW := Lib.hid hrow
          clear he2 hrow hown hbel
          go_wp2_with fail
          go_ret2
          refine ⟨_, _, rfl, ?_, ?_, HB.out.trans (HB2.out.mono HB.out.size)⟩
          · rw [HX.out]
            exact HI.out.fresh HB2.out
          · rw [HX.out]
            refine Ints.mono (ints_of_row HROW.out (by omega) ?_) (fun b _ hb => Nat.le_trans HB.out.size hb)
            intro x hx
            simp only [List.mem_map] at hx
            obtain ⟨y, _, rfl⟩ := hx
            exact wf_of _ (by unfold rage wrap64; omega) (by unfold rage wrap64; omega)
end Go.Proofs.Ytngdchahahabpaa
