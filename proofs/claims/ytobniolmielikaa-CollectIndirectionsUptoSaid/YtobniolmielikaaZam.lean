/- Texts of the collector's proof, joined: Walk5, Walk6, Walk7, RepN. -/
import Derived.Test.YtobniolmielikaaZak
import Derived.Sort.QuietIn
import Derived.Laws.OwnMore
import Derived.Laws.IdiomCopy
import Derived.Lib.SlBuf
import Derived.Test.YtobniolmielikaaZai
import Derived.Test.YtobniolmielikaaZaj
import Derived.Test.YtobniolmielikaaZag
/- The collector's live; no condition. -/
namespace Go.Proofs.Ytobniolmielikaa
open Go.RowKit Go.Shelf
attribute [local go_sem] Oper.semAt_some

/-- How live ends. -/
def LiveEnd (w : World) (H : HM) (roots : List Int) (e : Ending) (w' : World) : Prop :=
  Below w.heap.size w w' ∧ (H.live roots = none → e = .returned (.tuple #[.slice none 0 0, .map none, .int .i64 35])) ∧
  ∀ L, H.live roots = some L → ∃ v b, e = .returned (.tuple #[v, .map (some b), .int .i64 0]) ∧ w'.ownsRow w.heap.size 3 1 v L.length (L.map (Value.int .i64)) ∧ (∀ x ∈ L, (Lit.int .i64 x).wf = true) ∧
    ObjMapO (fun k => w.heap.size ≤ k ∧ k < w'.heap.size) w' b (L.map fun a => (a, H.ob a)) ∧ w.heap.size ≤ b

/-- Behind the loop. -/
theorem keep_end {w0 bo bb bm D : Nat} {xs : List It} {M C : Nat → Prop} {W : World} {v : Value} {Dd : Nat → Prop} (h : KeepAt w0 bo bb bm xs M C W v Dd) (hD : W.heap[D]? = some (.deferred (some []))) (n : Nat) (H : HM) (ho : ∀ x ∈ xs, x.o = H.ob x.a) (hn : (xs.map (·.a)).Nodup) :
    ((W.drewN n).putObj D (.deferred none)).ownsRow w0 3 1 v (xs.map (·.a)).length ((xs.map (·.a)).map (Value.int .i64)) ∧ (∀ x ∈ xs.map (·.a), (Lit.int .i64 x).wf = true) ∧
    ObjMapO (fun k => w0 ≤ k ∧ k < ((W.drewN n).putObj D (.deferred none)).heap.size) ((W.drewN n).putObj D (.deferred none)) bm ((xs.map (·.a)).map fun a => (a, H.ob a)) := by
  have ht : Turn (fun k => k = D) W ((W.drewN n).putObj D (.deferred none)) := turn_putObj (S := fun k => k = D) ((Turn.refl _ W).drewN n) (.inl rfl) _
  have hrow : ∀ e, ¬ IsRow e W D := fun e h => by obtain ⟨cs, f, h⟩ := h; rw [hD] at h; cases h
  refine ⟨?_, ?_, ?_⟩
  · rw [List.length_map]
    exact own_keep h.row fun k hk => ht.block k (by obtain ⟨_, _, _, hr⟩ := own_row h.row hk; exact heap_lt hr) (fun e => hrow 3 (e ▸ (own_row h.row hk).2))
  · intro x hx
    obtain ⟨y, hy, rfl⟩ := List.mem_map.1 hx
    exact h.wf y hy
  · have hm := h.map.turn ht (fun e => by
      obtain ⟨l, ⟨es, cl, hm, _⟩, _⟩ := h.map
      rw [e, hD] at hm
      cases hm) (fun k hk e => hrow 3 (e ▸ (h.data k hk).2.2.1))
    have hm' := hm.mono (ok' := fun k => w0 ≤ k ∧ k < ((W.drewN n).putObj D (.deferred none)).heap.size) (fun k hk hd => ⟨(h.data k hd).1, hk⟩)
    rw [cameM_nodup hn] at hm'
    have : absI xs = (xs.map (·.a)).map fun a => (a, H.ob a) := by
      unfold absI
      rw [List.map_map]
      apply List.map_congr_left
      intro x hx
      simp [ho x hx]
    rw [this] at hm'
    exact hm'

set_option maxRecDepth 100000 in
set_option maxHeartbeats 4000000 in
theorem live_any (ok : Nat → Prop) (w : World) (h y a : Nat) (H : HM) (rv : Value) (roots : List Int) (hh : HeapAt w h y a H) (hr : Ints ok w rv roots) (hn : 1 ≤ H.nur) (hd : (H.all.map (·.1)).Nodup) (hvol : H.fuel roots ≤ 1000000) :
    Calls Try.prog 70 #[.pointer (some ⟨h, 0, none⟩), rv] w (LiveEnd w H roots) := by
  obtain ⟨A, c, rfl⟩ := hr.shape
  have HH := Lib.hid hh
  have HR := Lib.hid hr
  have HD := Lib.hid hd
  have HV := Lib.hid hvol
  have HS := Lib.hid (start_any ok w h y a H _ roots hh hr hn)
  have hmm := @run_makeMap Try.prog
  clear hh hr hn hd hvol
  refine (callsIn_wide (n := 4)).1 (callsIn_of_wp_marks Try.func70 rfl trivial ?_ rfl)
  simp only [Try.ntmps70, List.size_toArray, List.length_cons, List.length_nil, Nat.reduceAdd, Nat.reduceSub, Array.replicate_succ, Array.replicate_zero, List.push_toArray, List.append_toArray, List.nil_append, List.cons_append]
  gi_wp2
  refine ⟨trivial, ?_⟩
  refine (callsIn_wide.2 HS.out).mono ?_
  rintro e w1 ⟨hyes, hno, hb1⟩
  have HB1 := Lib.hid hb1
  cases hall : roots.all H.has with
  | false =>
    have he := hno hall
    subst he
    have HALL := Lib.hid hall
    clear hyes hno hall hb1
    gi_wp2
    refine ⟨_, results_tmp3 rfl _ _ _, HB1.out, fun _ => rfl, fun L hL => ?_⟩
    simp [HM.live, HALL.out] at hL
  | true =>
    obtain ⟨g, he, hwk, hge⟩ := hyes hall
    subst he
    have HALL := Lib.hid hall
    have HWK := Lib.hid hwk
    clear hyes hno hall hb1 hwk
    gi_wp2
    refine ⟨trivial, ?_⟩
    refine (callsIn_wide.2 (reached_any _ g 103 #[] A _ c)).mono ?_
    rintro e w3 ⟨rfl, hw3⟩
    obtain ⟨w2, hw2⟩ : ∃ w2, ((w1.alloc (.cells #[.slice none 0 0] 23)).alloc (.map #[] 0)).alloc (.cells #[.map (some (w1.heap.size + 1))] 52) = w2 := ⟨_, rfl⟩
    rw [hw2] at hw3 ⊢
    have z2 : w2.heap.size = w1.heap.size + 3 := by rw [← hw2]; simp
    have b2 : Below w1.heap.size w1 w2 := by rw [← hw2]; exact (((Below.refl _ _).alloc (Nat.le_refl _) _).alloc (by simp) _).alloc (by simp; omega) _
    have r1 : w2.heap[w1.heap.size]? = some (.cells #[.slice none 0 0] 23) := by rw [← hw2]; exact new30 _ _ _ _
    have r2 : w2.heap[w1.heap.size + 1]? = some (.map #[] 0) := by rw [← hw2]; exact new31 _ _ _ _
    have r3 : w2.heap[w1.heap.size + 2]? = some (.cells #[.map (some (w1.heap.size + 1))] 52) := by rw [← hw2]; exact new32 _ _ _ _
    have z3 : w3.heap.size = w2.heap.size + 3 := by rw [hw3]; simp
    have b3 : Below w2.heap.size w2 w3 := by rw [hw3]; exact (((Below.refl _ _).alloc (Nat.le_refl _) _).alloc (by simp) _).alloc (by simp; omega) _
    have q1 : w3.heap[w2.heap.size]? = some (.cells #[.pointer (some ⟨g, 0, none⟩)] 115) := by rw [hw3]; exact new30 _ _ _ _
    have q2 : w3.heap[w2.heap.size + 1]? = some (.cells #[.slice A roots.length c] 23) := by rw [hw3]; exact new31 _ _ _ _
    have q3 : w3.heap[w2.heap.size + 1 + 1]? = some (.cells #[.func (.func 103) #[] #[]] 48) := by rw [hw3]; exact new32 _ _ _ _
    have r1' := rowB b3 r1 (by omega)
    have r2' := rowB b3 r2 (by omega)
    have r3' := rowB b3 r3 (by omega)
    have b03 : Below w.heap.size w w3 := below_then (below_then HB1.out HB1.out.size b2) (by have := HB1.out.size; omega) b3
    have hg3 : WalkAt w3 g h false := (HWK.out.fresh b2).fresh (by rw [← z2] at *; exact b3)
    have hgl := heap_lt HWK.out
    have hhl := HH.out.lt
    have hHB : ∀ k, HB h y a k → k < w.heap.size := fun k hk => by
      rcases hk with rfl | rfl | rfl
      · exact hhl.1
      · exact hhl.2.1
      · exact hhl.2.2
    have hs1 := HB1.out.size
    have GIVE := Lib.hid (reached_it w3 g h y a (w2.heap.size + 1) (w2.heap.size + 1 + 1) w2.heap.size 103 #[] (.slice A roots.length c) H roots (fun _ => true) (fun k => k = w1.heap.size ∨ k = w1.heap.size + 1) hg3 (HH.out.fresh b03) ⟨q2, q3, q1⟩
      ((HR.out.mono (ok' := fun k => ¬ (k = g ∨ k = w1.heap.size ∨ k = w1.heap.size + 1)) (fun k hk _ => by omega)).fresh b03) HD.out HV.out
      (by
        rintro k (rfl | rfl)
        · refine ⟨by omega, by omega, by omega, by omega, fun e => by have := hHB _ e; omega, ?_⟩
          rintro ⟨cs, f, hx⟩
          rw [r1'] at hx
          simp at hx
        · refine ⟨by omega, by omega, by omega, by omega, fun e => by have := hHB _ e; omega, ?_⟩
          rintro ⟨cs, f, hx⟩
          rw [r2'] at hx
          cases hx) ⟨by omega, by omega, by omega, fun e => by have := hHB _ e; omega⟩ (enters_of Try.func103 (by kernel_rfl) rfl)
      (fun W x _ _ _ => (anything_any W x).mono fun e W' ⟨h1, h2⟩ => ⟨h1, h2 ▸ Below.refl _ _⟩))
    have KEEP : Keep w.heap.size w1.heap.size (w1.heap.size + 2) (w1.heap.size + 1) [] (· = g) (fun k => k = w1.heap.size ∨ k = w1.heap.size + 1) w3 := by
      refine ⟨.slice none 0 0, fun _ => False, r1', r3', World.ownsRow_nil _ _ _ _, by simp, ⟨[], ⟨#[], 0, r2', ⟨rfl, by simp, by simp, by simp⟩⟩, .nil⟩, fun k hk => hk.elim, fun k => by simp [Value.ownBlock], ⟨by omega, by omega⟩, by omega, by omega, fun k hk => by cases hk⟩
    have KP := Lib.hid KEEP
    have B03 := Lib.hid b03
    have hz3 : w1.heap.size + 6 = w3.heap.size := by omega
    have Z3 := Lib.hid hz3
    have hgz : g < w3.heap.size := by omega
    clear hz3 KEEP q1 q2 q3 r1 r2 r3 r1' r2' r3' b2 b3 b03 hw3 hw2 z2 z3 hg3 hhl hHB
    gi_wp2
    refine rangeFunc_it (n := 2) (gf := 120) rfl (enters_of Try.func120 (by kernel_rfl) rfl) (fun _ => rfl) GIVE.out okIt_less (fun k hk => by subst hk; exact hgz) (fun xs W l o hl he => endIt_put o hgz hl he) (Keep w.heap.size w1.heap.size (w1.heap.size + 2) (w1.heap.size + 1)) (keep_rounds _ _ _ _) KP.out ?round ?done
    case round =>
      rintro l pre M C ⟨xa, ⟨o1, o2, o3, refs, words⟩, ra, rc, wa, wc⟩ W hMl hwl hlW hkp hok hlen
      dsimp only [It.val]
      obtain ⟨B, hB⟩ : ∃ B : Obj, Obj.cells #[.int .i64 o1, .int .i64 o2, .int .i64 o3, .slice ra refs.length rc, .slice wa words.length wc] 25 = B := ⟨_, rfl⟩
      have HKP := Lib.hid hkp
      have HOK := Lib.hid hok
      have HBB := Lib.hid hB
      have HML := Lib.hid hMl
      clear hkp hok hMl
      gi_wp2
      refine ⟨(Turn.refl C W).alloc B, fun o => ?_⟩
      have ht2 : Turn M W ((W.alloc B).putObj l o) := turn_putObj ((Turn.refl M W).alloc B) (.inl HML.out) o
      have hkp2 := (keep_rounds _ _ _ _).step M _ HKP.out ht2 (fun k hk => .inl hk)
      have hbx2 : ((W.alloc B).putObj l o).heap[W.heap.size]? = some B := (World.putObj_heap_other (by omega)).trans (new0 W B)
      have hz2 : ((W.alloc B).putObj l o).heap.size = W.heap.size + 1 := by rw [World.putObj_size, World.size_alloc]
      have hok2 : OkIt w.heap.size ⟨xa, ⟨o1, o2, o3, refs, words⟩, ra, rc, wa, wc⟩ M C ((W.alloc B).putObj l o) := HOK.out.turn ht2 (by have := B03.out.size; omega)
      generalize (W.alloc B).putObj l o = W2 at *
      obtain ⟨v, D, hk2⟩ := hkp2
      obtain ⟨Av, cv, rfl⟩ : ∃ A c, v = .slice A pre.length c := by
        obtain ⟨_, ⟨rfl, h0⟩ | ⟨g', cap, cur, rfl, _⟩⟩ := hk2.row
        · rw [h0]; exact ⟨_, _, rfl⟩
        · exact ⟨_, _, rfl⟩
      have hbase : w.heap.size ≤ W2.heap.size := by have := B03.out.size; omega
      obtain ⟨gg, cc, w', hrun, hown, hgr, hat⟩ := run_push hk2.row hbase (by have := HV.out; omega) xa
      obtain ⟨p1, p2, p3, ml, p4⟩ := hk2.four (v' := .slice (some ⟨gg, 0, none⟩) (pre.length + 1) cc) hgr
      obtain ⟨W3, hrun3, hm3, ht3, hs3⟩ := run_update_map (P := Try.prog) (t := 52) (k := 3) (e := 25) Try.underlying52 Try.underlying3 p4 xa (.agg #[.int .i64 o1, .int .i64 o2, .int .i64 o3, .slice ra refs.length rc, .slice wa words.length wc])
      have hbo := cellsH hk2.box
      have hbo' := cellsH p1
      have hfo' := freeH p1
      have hbb := cellsH p2
      have hbx := cellsH (rowT p3 (show W2.heap[W.heap.size]? = some (.cells #[.int .i64 o1, .int .i64 o2, .int .i64 o3, .slice ra refs.length rc, .slice wa words.length wc] 25) by rw [hbx2, HBB.out]) (fun e => by have := (keep_rounds _ _ _ _).apart HKP.out _ e; omega))
      have HK2 := Lib.hid hk2
      have HOWN := Lib.hid hown
      have HGR := Lib.hid hgr
      have HAT := Lib.hid hat
      have HM3 := Lib.hid hm3
      have HT3 := Lib.hid ht3
      have HP4 := Lib.hid p4
      have HOK2 := Lib.hid hok2
      have HZ2 := Lib.hid hz2
      clear hz2
      clear hk2 hown hgr hat hm3 ht3 hs3 p4 p3 p2 p1 hok2 ht2 hbx2 hB
      gi_wp2_with (gi_at_builtin; refine wpListIn_append_run _ rfl _ _ 23 rfl _ _ rfl rfl _ _ hrun ?_)
      obtain ⟨e1, C', e2, e3⟩ := HK2.out.push (W3 := W3) HOK2.out hs1 HOWN.out HGR.out HAT.out (fun l' h1 _ => by have e := HP4.out.unique h1; subst e; exact ⟨HM3.out, HT3.out⟩)
      exact ⟨e1, C', e2, fun k hk => (e3 k hk).imp id (fun e => by have := HZ2.out; omega)⟩
    case done =>
      rintro D xs M C W hD hMD ⟨bad, hwk, ht, hn, hs, ho⟩ ⟨v, D', hkp⟩ hdf
      have hwz := cellsH hwk
      have HWZ := Lib.hid hwk
      have HT := Lib.hid ht
      have HN := Lib.hid hn
      have HSS := Lib.hid hs
      have HO := Lib.hid ho
      have HKP := Lib.hid hkp
      have HDF := Lib.hid hdf
      clear hwk ht hn hs ho hkp hdf
      cases bad with
      | true =>
        gi_wp2
        refine ⟨by simp, .inl ⟨_, _, rfl, run_takeDeferred HDF.out, ?_⟩⟩
        refine ⟨_, results_tmp3 rfl _ _ _, ?_, fun _ => rfl, ?_⟩
        · exact B03.out.trans ((turn_putObj HT.out (.inr hD) _).below B03.out.size (fun k e => by omega))
        · intro L hL
          rw [HM.live, if_pos HALL.out, HN.out trivial] at hL
          cases hL
      | false =>
        obtain ⟨Av, cv, rfl⟩ : ∃ A c, v = .slice A xs.length c := by
          obtain ⟨_, ⟨rfl, h0⟩ | ⟨g', cap, cur, rfl, _⟩⟩ := HKP.out.row
          · rw [h0]; exact ⟨_, _, rfl⟩
          · exact ⟨_, _, rfl⟩
        have hbo := cellsH HKP.out.box
        have hbb := cellsH HKP.out.mbox
        gi_wp2
        gi_quiet (fail)
        clear hbo hbb hwz
        gi_wp2
        refine ⟨by simp, .inl ⟨_, _, rfl, run_takeDeferred (show (W.drewN nq).heap[D]? = _ from HDF.out), ?_⟩⟩
        have hfound := bfs_found _ _ _ _ (HSS.out trivial)
        obtain ⟨f1, f2, f3⟩ := keep_end HKP.out HDF.out nq H HO.out (hfound.nodup (by simp))
        refine ⟨_, results_tmp3 rfl _ _ _, ?_, ?_, ?_⟩
        · exact B03.out.trans ((turn_putObj (HT.out.drewN nq) (.inr hD) _).below B03.out.size (fun k e => by omega))
        · intro hL
          rw [HM.live, if_pos HALL.out, HSS.out trivial] at hL
          cases hL
        · intro L hL
          rw [HM.live, if_pos HALL.out, HSS.out trivial] at hL
          cases hL
          exact ⟨_, _, rfl, f1, f2, f3, by omega⟩
end Go.Proofs.Ytobniolmielikaa

/- The collector's replaced, moves and young; no condition. -/
namespace Go.Proofs.Ytobniolmielikaa
open Go.RowKit

/-- Block b is a map of ints to ints. -/
def IntMap (w : World) (b : Nat) (M : List (Int × Int)) : Prop := MapAt w b (vals (Value.int .i64) M)
theorem IntMap.below {w w' : World} {b : Nat} {M : List (Int × Int)} (h : IntMap w b M) (hb : Below w.heap.size w w') : IntMap w' b M := MapAt.below h hb (MapAt.lt h)
theorem zero3 (w : World) : (zeroValue 3).run Try.prog w = .ok (.int .i64 0) w := by kernel_rfl
theorem run_lookup_ints {w : World} {b : Nat} {M : List (Int × Int)} (h : IntMap w b M) (x : Int) :
    (Instr.lookup 106 (.map (some b)) (.int .i64 x) true).run Try.prog w = .ok (.tuple #[.int .i64 ((get M x).getD 0), .bool (get M x).isSome]) w := by
  have := run_lookup_map (P := Try.prog) (t := 106) (k := 3) (e := 3) Try.underlying106 Try.underlying3 (zero3 w) h x true
  rw [get_vals] at this
  rw [this]
  cases get M x <;> rfl

/-- 'copy(d, s)', d a row of the call's own of the length of s. -/
theorem run_copy_ints {W : World} {base g n : Nat} {xs : List Int} {zs : List Value} {u : Value} {ok : Nat → Prop} (h : W.ownsRow base 3 1 (.slice (some ⟨g, 0, none⟩) n n) n zs) (hu : Ints ok W u xs) (hn : xs.length = n) :
    ∃ W', (Builtin.copy_ #[23, 23] 3 #[.slice (some ⟨g, 0, none⟩) n n, u]).run Try.prog W = .ok (goInt n) W' ∧ W'.ownsRow base 3 1 (.slice (some ⟨g, 0, none⟩) n n) n (xs.map (Value.int .i64)) ∧ Turn (fun k => k = g) W W' := by
  obtain ⟨h0, ⟨e, _⟩ | ⟨g', cap, cur, e, hb, hg, h1, h2, h3, h4⟩⟩ := h
  · cases e
  · cases e
    obtain ⟨A, c, rfl, u1, u2, u3, u4, u5⟩ := hu
    by_cases hz : n = 0
    · subst hz
      have hx : xs = [] := List.eq_nil_of_length_eq_zero hn
      subst hx
      refine ⟨W, run_copy_none W 23 23 3 3 (some ⟨g, 0, none⟩) A 0 0 0 c Try.underlying23 (by kernel_rfl) (by simp), ⟨rfl, .inr ⟨g, 0, cur, rfl, hb, hg, h1, h2, h3, by simp⟩⟩, Turn.refl _ _⟩
    · obtain ⟨ad, rfl, _, _, hc⟩ := u4 (by omega)
      have hrun := run_copy_cells (P := Try.prog) W 23 23 3 3 g 0 n n ad xs.length c (xs.map (Value.int .i64)) Try.underlying23 (by kernel_rfl) (by simp [hn])
        (fun j v hj => by
          simp only [List.getElem?_map, Option.map_eq_some_iff] at hj
          obtain ⟨z, hz, rfl⟩ := hj
          exact hc j z hz)
        (fun j hj => by
          rw [List.length_map] at hj
          have : 0 + j < cur.size := by omega
          simp only [World.cell?, hg]
          simp [show j < cur.size by omega]) (fun j _ => row_free hg _) (ints_oneCell _ _)
      obtain ⟨cs', r1, r2, r3, r4⟩ := row_setCells (xs.map (Value.int .i64)) 0 W cur hg
      refine ⟨_, by rw [hrun, List.length_map, hn], ⟨by simp [hn], .inr ⟨g, n, cs', rfl, hb, r1, h1, h2, by omega, ?_⟩⟩, turn_setCells (S := fun k => k = g) rfl _ _ _ _ (Turn.refl _ _)⟩
      apply List.ext_getElem?
      intro j
      rw [List.getElem?_take]
      split
      · rename_i hj
        have hj' : j < xs.length := by omega
        have := r4 j (.int .i64 xs[j]) (by simp [hj']) (by omega)
        rw [Nat.zero_add] at this
        simp [hj', this]
      · rename_i hj
        rw [List.getElem?_eq_none (by simp; omega)]

theorem via_some {M : List (Int × Int)} {x y : Int} (h : get M x = some y) : via M x = y := by simp [via, h]
theorem via_none {M : List (Int × Int)} {x : Int} (h : get M x = none) : via M x = x := by simp [via, h]
/-- Where replaced stands. -/
def repl1 (M : List (Int × Int)) (xs : List Int) (k : Nat) : List Int := (xs.take k).map (via M) ++ xs.drop k
theorem repl1_at {M : List (Int × Int)} {xs : List Int} {k : Nat} {x : Int} (h : xs[k]? = some x) : (repl1 M xs k)[k]? = some x := by
  have hk := (List.getElem?_eq_some_iff.1 h).1
  unfold repl1
  rw [List.getElem?_append_right (by simp; omega)]
  simp [Nat.min_eq_left (Nat.le_of_lt hk), h]
theorem repl1_step {M : List (Int × Int)} {xs : List Int} {k : Nat} {x : Int} (h : xs[k]? = some x) : repl1 M xs (k + 1) = (repl1 M xs k).set k (via M x) := by
  have hk := (List.getElem?_eq_some_iff.1 h).1
  have hd : xs.drop k = x :: xs.drop (k + 1) := by
    rw [List.drop_eq_getElem_cons hk]
    congr 1
    have := (List.getElem?_eq_some_iff.1 h).2
    exact this
  unfold repl1
  rw [List.take_add_one, h, hd, List.set_append_right _ _ (by simp; omega)]
  simp [Nat.min_eq_left (Nat.le_of_lt hk)]
theorem repl1_same {M : List (Int × Int)} {xs : List Int} {k : Nat} {x : Int} (h : xs[k]? = some x) (hg : get M x = none) : repl1 M xs (k + 1) = repl1 M xs k := by
  rw [repl1_step h, via_none hg]
  have := repl1_at (M := M) h
  obtain ⟨h1, h2⟩ := List.getElem?_eq_some_iff.1 this
  rw [← h2, List.set_getElem_self]
theorem repl1_length (M : List (Int × Int)) (xs : List Int) (k : Nat) (hk : k ≤ xs.length) : (repl1 M xs k).length = xs.length := by simp [repl1]; omega

set_option maxHeartbeats 1000000 in
theorem replaced_any (ok : Nat → Prop) (w : World) (v : Value) (xs : List Int) (b : Nat) (M : List (Int × Int)) (h : Ints ok w v xs) (hm : IntMap w b M) (hw : ∀ p ∈ M, (Lit.int .i64 p.2).wf = true) :
    Calls Try.prog 75 #[v, .map (some b)] w fun e w' => ∃ u, e = .returned u ∧ w'.ownsRow w.heap.size 3 1 u xs.length ((xs.map (via M)).map (Value.int .i64)) ∧ (∀ x ∈ xs.map (via M), (Lit.int .i64 x).wf = true) ∧ Below w.heap.size w w' := by
  obtain ⟨A, c, rfl⟩ := h.shape
  have hlen := h.len
  have hwf := h.wf
  have WF := Lib.hid (show ∀ x ∈ xs.map (via M), (Lit.int .i64 x).wf = true from fun x hx => by
    obtain ⟨y, hy, rfl⟩ := List.mem_map.1 hx
    unfold via
    cases hg : get M y with
    | none => exact hwf y hy
    | some z => 
      unfold get at hg
      obtain ⟨q, hq, e⟩ := Option.map_eq_some_iff.1 hg
      have := List.mem_of_getElem? (ix_get hq)
      subst e
      exact hw _ this)
  obtain ⟨i, hi, hz0, hz1, hz2⟩ := info_parts info3
  obtain ⟨wm, hmk, hom, hgm⟩ := run_make_full (P := Try.prog) w w.heap.size 23 3 i (.int .i64 0) 1 Try.underlying23 hi hz0 hz1 .i64 .i64 xs.length (by rw [hz2]; omega) (by unfold maxLen; omega) (Nat.le_refl _)
  have hbm : Below w.heap.size w wm := (Below.refl _ _).grown hgm (Nat.le_refl _) (fun k hk => by cases hk)
  obtain ⟨wc, hcp, hoc, htc⟩ := run_copy_ints hom (h.fresh hbm) rfl
  have hbc : Below w.heap.size w wc := hbm.trans (htc.below hbm.size (fun k hk => by omega))
  have HM := Lib.hid hm
  have HO := Lib.hid hoc
  have HB := Lib.hid hbc
  clear h hm hw hwf hi hz0 hz1 hz2 hom hgm hbm hoc htc hbc
  go_enter Try.func75, Try.ntmps75
  go_wp2_with (at_builtin; refine Lib.wpList_copy_run _ rfl _ _ 23 23 rfl _ _ rfl rfl hcp ?_)
  clear hmk hcp
  go_loopw [18] (fun i wr => ∃ k : Nat, k ≤ xs.length ∧ i = .int .i64 k ∧ wr.ownsRow w.heap.size 3 1 (.slice (some ⟨w.heap.size, 0, none⟩) xs.length xs.length) xs.length ((repl1 M xs k).map (Value.int .i64)) ∧ Below w.heap.size w wr) (fun i _ => xs.length - (intOf i).toNat)
  case atStart => exact ⟨0, Nat.zero_le _, rfl, by simpa [repl1] using HO.out, HB.out⟩
  case round =>
    obtain ⟨k, hk, rfl, ho, hb⟩ := hrel
    by_cases hlt : k < xs.length
    · have hx := List.getElem?_eq_getElem hlt
      generalize xs[k] = x at hx
      have hcell : wr.cell? ⟨w.heap.size, k, none⟩ = some (.int .i64 x) := by
        have := World.ownsRow.cells ho rfl k (.int .i64 x) (by rw [List.getElem?_map, repl1_at hx]; rfl)
        rwa [Addr.add_lit, Nat.zero_add] at this
      have hfree : wr.frozen? ⟨w.heap.size, k, none⟩ = false := by
        obtain ⟨_, ⟨e, _⟩ | ⟨g', cap, cur, e, hb', hg, _⟩⟩ := ho
        · cases e
        · cases e; exact row_free hg _
      have lk := run_lookup_ints (HM.out.below hb) x
      have HX := Lib.hid hx
      have HOO := Lib.hid ho
      have HBB := Lib.hid hb
      clear hx ho hb
      cases hg : get M x with
      | none =>
        have HG := Lib.hid hg
        simp only [hg, Option.getD_none, Option.isSome_none] at lk
        clear hg
        go_wp2_with fail
        go_roundw
        case rel => exact ⟨k + 1, by omega, by go_num, by rw [repl1_same HX.out HG.out]; exact HOO.out, HBB.out⟩
        case measure => simp [intOf]; omega
      | some z =>
        have HG := Lib.hid hg
        simp only [hg, Option.getD_some, Option.isSome_some] at lk
        clear hg
        go_wp2_with fail
        go_roundw
        case rel =>
          obtain ⟨s1, s2⟩ := World.ownsRow.stored HOO.out k (.int .i64 z)
          exact ⟨k + 1, by omega, by go_num, by rw [repl1_step HX.out, via_some HG.out, List.map_set]; exact s1, HBB.out.setCell (p := ⟨w.heap.size, k, none⟩) (Nat.le_refl _) _⟩
        case measure => simp [intOf]; omega
    · have he : k = xs.length := by omega
      subst he
      have HOO := Lib.hid ho
      have HBB := Lib.hid hb
      clear ho hb
      go_wp2_with fail
      go_ret
      refine ⟨_, rfl, ?_, WF.out, HBB.out⟩
      have := HOO.out
      simpa [repl1] using this
end Go.Proofs.Ytobniolmielikaa

/- The collector's young and moves; no condition. -/
namespace Go.Proofs.Ytobniolmielikaa
open Go.RowKit

theorem run_store_ints {w : World} {b : Nat} {M : List (Int × Int)} (h : IntMap w b M) (x y : Int) :
    ∃ w', (Instr.mapUpdate 106 (.map (some b)) (.int .i64 x) (.int .i64 y)).run Try.prog w = .ok () w' ∧ IntMap w' b (put M x y) ∧ Turn (· = b) w w' ∧ w'.heap.size = w.heap.size := by
  obtain ⟨w', h1, h2, h3, h4⟩ := run_update_map (P := Try.prog) (t := 106) (k := 3) (e := 3) Try.underlying106 Try.underlying3 h x (.int .i64 y)
  rw [put_vals] at h2
  exact ⟨w', h1, h2, h3, h4⟩

set_option maxHeartbeats 1000000 in
theorem young_any (ok : Nat → Prop) (w : World) (h y a : Nat) (H : HM) (v : Value) (l : List Int) (hh : HeapAt w h y a H) (hi : Ints ok w v l) :
    Calls Try.prog 105 #[.pointer (some ⟨h, 0, none⟩), v] w fun e w' => ∃ u, e = .returned u ∧ w'.ownsRow w.heap.size 3 1 u (l.filter H.yng).length ((l.filter H.yng).map (Value.int .i64)) ∧ (∀ x ∈ l.filter H.yng, (Lit.int .i64 x).wf = true) ∧ Below w.heap.size w w' := by
  obtain ⟨A, c, rfl⟩ := hi.shape
  have hlen := hi.len
  have HI := Lib.hid hi
  have HH := Lib.hid hh
  clear hi hh
  go_enter Try.func105, Try.ntmps105
  go_wp2_with fail
  go_loopw [10, 5] (fun i u wr => ∃ (n : Nat) (xs : List Int), n ≤ l.length ∧ i = .int .i64 n ∧ xs = (l.take n).filter H.yng ∧ wr.ownsRow w.heap.size 3 1 u xs.length (xs.map (Value.int .i64)) ∧ Below w.heap.size w wr) (fun i _ _ => l.length - (intOf i).toNat)
  case atStart => exact ⟨0, [], Nat.zero_le _, rfl, rfl, row_of_nil _ _ _, Below.refl _ _⟩
  case round =>
    obtain ⟨n, xs, hn, rfl, hxs, hown, hb⟩ := hrel
    have HXS := Lib.hid hxs
    have OWN := Lib.hid hown
    have HB := Lib.hid hb
    have zb := hb.size
    have hxl : xs.length ≤ n := by
      rw [hxs]
      have h1 := List.length_filter_le H.yng (l.take n)
      have h2 := List.length_take_le n l
      omega
    by_cases hlt : n < l.length
    · obtain ⟨ad, eA, hc⟩ := Ints.cell (HI.out.fresh hb) hlt
      have hx := List.getElem?_eq_getElem hlt
      have hwf := Ints.wf HI.out l[n] (List.getElem_mem _)
      generalize l[n] = z at hc hx hwf
      have HX := Lib.hid hx
      have HLT := Lib.hid hlt
      have HW := Lib.hid hwf
      subst eA
      clear hx hxs hown hb hwf
      go_wp2_with fail
      refine (old_any wr h y a H z (HH.out.fresh HB.out)).mono ?_
      rintro e w2 ⟨rfl, hb2⟩
      have HB2 := Lib.hid (below_then HB.out zb hb2)
      have OWN2 := Lib.hid (own_keep OWN.out fun g hg => hb2.block g (by obtain ⟨_, _, _, hr⟩ := own_row OWN.out hg; exact heap_lt hr))
      have zb2 := HB2.out.size
      clear hb2
      cases he : (Go.Proofs.Ytobniolmielikaa.get H.la z).isSome with
      | true =>
        have HY := Lib.hid (show H.yng z = false by simp [HM.yng, he])
        clear he
        go_wp2_with fail
        go_roundw
        case rel => exact ⟨n + 1, xs, by have := HLT.out; omega, by go_num, by rw [filter_snoc5 _ HX.out, HY.out]; simpa using HXS.out, OWN2.out, HB2.out⟩
        case measure => have := HLT.out; simp [intOf]; omega
      | false =>
        have HY := Lib.hid (show H.yng z = true by simp [HM.yng, he])
        clear he
        go_wp2_with (at_builtin; refine wpList_append_ints _ rfl _ _ 23 rfl w.heap.size 3 Try.underlying23 info3 _ xs.length xs rfl (OWN2.out.alloc _) (fun _ => True) _ [z] rfl (ints_oneAt (new0 _ _) HW.out) (by have := HLT.out; simp; omega) (by simp; omega) ?_; intro st' w10 hown' hg'; have HO := Lib.hid hown'; have HG := Lib.hid hg'; clear hown' hg')
        go_roundw
        case rel => exact ⟨n + 1, xs ++ [z], by have := HLT.out; omega, by go_num, by rw [filter_snoc5 _ HX.out, HY.out, HXS.out]; simp, by simpa using HO.out, (HB2.out.alloc zb2 _).grown HG.out (by simp; omega) (fun q hq => (OWN2.out.lt q hq).1)⟩
        case measure => have := HLT.out; simp [intOf]; omega
    · have he : n = l.length := by omega
      have hx2 : xs = l.filter H.yng := by rw [hxs, he, List.take_length]
      have HX2 := Lib.hid hx2
      clear he hxs hown hb hx2
      go_wp2_with fail
      go_ret
      refine ⟨_, rfl, ?_, ?_, HB.out⟩
      · rw [← HX2.out]; exact OWN.out
      · intro z hz
        exact Ints.wf HI.out z (List.mem_filter.1 hz).1

set_option maxHeartbeats 1000000 in
theorem moves_any (ok : Nat → Prop) (w : World) (h y a : Nat) (H : HM) (v : Value) (L : List Int) (hh : HeapAt w h y a H) (hW : Wel H) (hi : Ints ok w v L) (hd : L.Nodup) (hl : L.length ≤ 1000000) :
    Calls Try.prog 78 #[.pointer (some ⟨h, 0, none⟩), v] w fun e w' => ∃ b, e = .returned (.map (some b)) ∧ IntMap w' b (posM H.top L) ∧ w.heap.size ≤ b ∧ Below w.heap.size w w' := by
  obtain ⟨A, c, rfl⟩ := hi.shape
  have HI := Lib.hid hi
  have HH := Lib.hid hh
  have HW := Lib.hid hW
  have HD := Lib.hid hd
  have hmm := @run_makeMap Try.prog
  clear hi hh hd
  go_enter Try.func78, Try.ntmps78
  go_wp2_with fail
  refine (addrs_any w h y a H HH.out hW.ky hW.ka (by have := hW.ly; have := hW.n2; omega) (by have := hW.la; have := hW.e2; omega)).mono ?_
  rintro e w1 ⟨u, rfl, hu, hb1⟩
  obtain ⟨Au, cu, rfl⟩ := hu.shape
  have htop := hW.top
  have hal := hW.addrs_len
  have HB1 := Lib.hid hb1
  have zb1 := hb1.size
  clear hW
  by_cases h0 : H.addrs.length = 0
  · have htz := HW.out.top_nil (List.eq_nil_of_length_eq_zero h0)
    have HT := Lib.hid htz
    have hc0 : True := trivial
    rw [h0]
    clear htz htop hal hu hb1 h0
    go_wp2_with fail
    clear hc0
    go_loopw [25, 5] (fun i nx wr => ∃ k : Nat, k ≤ L.length ∧ i = .int .i64 k ∧ nx = .int .i64 (k : Int) ∧ IntMap wr w1.heap.size (posM 0 (L.take k)) ∧ Below w.heap.size w wr) (fun i _ _ => L.length - (intOf i).toNat)
    case atStart => exact ⟨0, Nat.zero_le _, rfl, rfl, ⟨#[], 0, new0 _ _, ⟨rfl, by simp, by simp, by simp [posM, vals]⟩⟩, HB1.out.alloc zb1 _⟩
    case round =>
      obtain ⟨k, hk, rfl, rfl, hm, hb⟩ := hrel
      have HM := Lib.hid hm
      have HB := Lib.hid hb
      have zb := hb.size
      by_cases hlt : k < L.length
      · obtain ⟨ad, eA, hc⟩ := Ints.cell (HI.out.fresh hb) hlt
        have hx := List.getElem?_eq_getElem hlt
        generalize L[k] = y at hx hc
        have HX := Lib.hid hx
        have hnew : y ∉ (posM 0 (L.take k)).map (·.1) := by
          rw [posM_keys]
          intro hin
          obtain ⟨j, hj⟩ := List.getElem?_of_mem hin
          have hjk : j < k := by
            have := (List.getElem?_eq_some_iff.1 hj).1
            simp at this
            omega
          rw [List.getElem?_take_of_lt hjk] at hj
          obtain ⟨q1, e1⟩ := List.getElem?_eq_some_iff.1 hj
          obtain ⟨q2, e2⟩ := List.getElem?_eq_some_iff.1 hx
          exact List.pairwise_iff_getElem.1 HD.out j k q1 q2 hjk (e1.trans e2.symm)
        obtain ⟨w6, hrun, hm6, ht6, hs6⟩ := run_store_ints hm y (k : Int)
        rw [put_new hnew] at hm6
        have HM6 := Lib.hid hm6
        have HT6 := Lib.hid ht6
        have hw1 := IntKind.i64
        subst eA
        clear hx hnew hm hb hm6 ht6 hs6 hw1
        go_wp2_with fail
        go_roundw
        case rel =>
          refine ⟨k + 1, by omega, by go_num, by first | go_num | (congr 1; omega), ?_, HB.out.trans (HT6.out.below zb (fun q e => by omega))⟩
          rw [List.take_add_one, HX.out]
          have e := posM_snoc 0 (L.take k) y
          rw [List.length_take_of_le (by omega)] at e
          show IntMap w6 _ (posM 0 (L.take k ++ [y]))
          rw [e, Int.zero_add]
          exact HM6.out
        case measure => simp [intOf]; omega
      · have he : k = L.length := by omega
        subst he
        rw [List.take_length] at hm
        have HM2 := Lib.hid hm
        clear hm hb
        go_wp2_with fail
        go_ret
        exact ⟨_, rfl, by rw [HT.out]; exact HM2.out, zb1, HB.out⟩
  · obtain ⟨n, hn⟩ : ∃ n, H.addrs.length = n + 1 := ⟨H.addrs.length - 1, by omega⟩
    obtain ⟨ad, eA, hc0⟩ := Ints.cell hu (k := n) (by omega)
    have hx0 := List.getElem?_eq_getElem (l := H.addrs) (i := n) (by omega)
    generalize H.addrs[n] = x at hc0 hx0
    have htl := HW.out.top_last hx0 hn
    have HT := Lib.hid htl
    rw [hn]
    have hxb : 0 ≤ x + 1 ∧ x + 1 ≤ 4611686018427387904 := by omega
    subst eA
    clear htl htop hu hb1 h0 hx0
    have hnn : n < 131072 := by omega
    clear hn hal
    go_wp2_with fail
    clear hc0
    go_loopw [25, 5] (fun i nx wr => ∃ k : Nat, k ≤ L.length ∧ i = .int .i64 k ∧ nx = .int .i64 (x + 1 + k) ∧ IntMap wr w1.heap.size (posM (x + 1) (L.take k)) ∧ Below w.heap.size w wr) (fun i _ _ => L.length - (intOf i).toNat)
    case atStart => exact ⟨0, Nat.zero_le _, rfl, by simp, ⟨#[], 0, new0 _ _, ⟨rfl, by simp, by simp, by simp [posM, vals]⟩⟩, HB1.out.alloc zb1 _⟩
    case round =>
      obtain ⟨k, hk, rfl, rfl, hm, hb⟩ := hrel
      have HM := Lib.hid hm
      have HB := Lib.hid hb
      have zb := hb.size
      by_cases hlt : k < L.length
      · obtain ⟨ad, eA, hc⟩ := Ints.cell (HI.out.fresh hb) hlt
        have hx := List.getElem?_eq_getElem hlt
        generalize L[k] = y at hx hc
        have HX := Lib.hid hx
        have hnew : y ∉ (posM (x + 1) (L.take k)).map (·.1) := by
          rw [posM_keys]
          intro hin
          obtain ⟨j, hj⟩ := List.getElem?_of_mem hin
          have hjk : j < k := by
            have := (List.getElem?_eq_some_iff.1 hj).1
            simp at this
            omega
          rw [List.getElem?_take_of_lt hjk] at hj
          obtain ⟨q1, e1⟩ := List.getElem?_eq_some_iff.1 hj
          obtain ⟨q2, e2⟩ := List.getElem?_eq_some_iff.1 hx
          exact List.pairwise_iff_getElem.1 HD.out j k q1 q2 hjk (e1.trans e2.symm)
        obtain ⟨w6, hrun, hm6, ht6, hs6⟩ := run_store_ints hm y (x + 1 + k)
        rw [put_new hnew] at hm6
        have HM6 := Lib.hid hm6
        have HT6 := Lib.hid ht6
        have hw1 := IntKind.i64
        subst eA
        clear hx hnew hm hb hm6 ht6 hs6 hw1
        go_wp2_with fail
        go_roundw
        case rel =>
          refine ⟨k + 1, by omega, by go_num, by first | go_num | (congr 1; omega), ?_, HB.out.trans (HT6.out.below zb (fun q e => by omega))⟩
          rw [List.take_add_one, HX.out]
          have e := posM_snoc (x + 1) (L.take k) y
          rw [List.length_take_of_le (by omega)] at e
          show IntMap w6 _ (posM (x + 1) (L.take k ++ [y]))
          rw [e]
          exact HM6.out
        case measure => simp [intOf]; omega
      · have he : k = L.length := by omega
        subst he
        rw [List.take_length] at hm
        have HM2 := Lib.hid hm
        clear hm hb
        go_wp2_with fail
        go_ret
        exact ⟨_, rfl, by rw [HT.out]; exact HM2.out, zb1, HB.out⟩
end Go.Proofs.Ytobniolmielikaa

/- The heap's refill, fits and Replace where the first map is nil; no condition. -/
namespace Go.Proofs.Ytobniolmielikaa
open Go.RowKit

theorem run_range_nil (w : World) : (Instr.range 52 (.map none)).run Try.prog w = .ok (.pointer (some ⟨w.heap.size, 0, none⟩)) (w.alloc (.mapIter none 0 #[] 0)) := by
  unfold Instr.range
  simp [run_underlying Try.underlying52]
theorem run_next_nil {w : World} {r : Nat} (h : w.heap[r]? = some (.mapIter none 0 #[] 0)) (ty : TypeId) : (Instr.next (.pointer (some ⟨r, 0, none⟩)) false ty).run Try.prog w = .ok (.tuple #[.bool false]) w := by
  unfold Instr.next
  have hg : (getObj r).run Try.prog w = .ok (.mapIter none 0 #[] 0) w := by simp [getObj, Sem.run, h]
  simp [hg]

set_option maxHeartbeats 400000 in
theorem fitsN_any (w : World) : Calls Try.prog 66 #[.map none] w fun e w' => e = .returned (.bool true) ∧ Below w.heap.size w w' := by
  have hrn := run_range_nil w
  go_enter Try.func66, Try.ntmps66
  go_wp2_with fail
  clear hrn
  go_loopg [] 0 (fun g W => W = w.alloc (.mapIter none 0 #[] 0))
  case atStart => exact rfl
  case round =>
    obtain rfl := hrel
    have hrn := run_next_nil (new0 w (.mapIter none 0 #[] 0)) 0
    go_wp2_with fail
    go_ret
    exact ⟨rfl, (Below.refl _ _).alloc (Nat.le_refl _) _⟩

set_option maxHeartbeats 1000000 in
theorem refillN_any (w : World) (b : Nat) (m : List (Int × Ob)) (hb : ObjMap w b m) :
    Calls Try.prog 65 #[.map (some b), .map none] w fun e w' => e = .returned (.int .i64 0) ∧ ObjMap w' b [] ∧ Turn (· = b) w w' := by
  have hltb := hb.lt
  have NR := Lib.hid (show ∀ k, IsRow 3 w k → ¬ k = b from fun k hk e => hb.notRow (e ▸ hk))
  obtain ⟨l0, hm0, hk0⟩ := hb
  obtain ⟨wi, hrun, hit, hwb, hws⟩ := run_range_map (P := Try.prog) (t := 52) (k := 3) (e := 25) Try.underlying52 hm0
  have hnd1 := hm0.nodup
  have HN1 := Lib.hid hnd1
  have HIT := Lib.hid hit
  have HWB := Lib.hid hwb
  clear hit hwb hm0 hk0 hws hnd1
  go_enter Try.func65, Try.ntmps65
  go_wp2_with fail
  clear hrun
  go_loopg [] l0.length (fun g W => ∃ l todo : List (Int × Value), g = todo.length ∧ l.Perm todo ∧ (l.map (·.1)).Nodup ∧ IterAt W w.heap.size b l todo ∧ Turn (· = b) w W)
  case atStart => exact ⟨l0, l0, rfl, .refl _, HN1.out, HIT.out, below_turn HWB.out _⟩
  case round =>
    obtain ⟨l, todo, rfl, hp, hnl, hit, ht0⟩ := hrel
    rcases run_next_map (P := Try.prog) hit 0 with ⟨h0, hrun⟩ | ⟨i, x, v, w', h1, hrun, hit', ht, hs, hentry⟩
    · subst h0
      have hl : l = [] := List.Perm.eq_nil hp
      subst hl
      have hm : ObjMap wr b [] := ⟨[], hit.map, .nil⟩
      have hrn := run_range_nil wr
      have HST := Lib.hid (show ObjMap (wr.alloc (.mapIter none 0 #[] 0)) b [] ∧ Turn (· = b) w (wr.alloc (.mapIter none 0 #[] 0)) from ⟨hm.fresh ((Below.refl _ _).alloc (Nat.le_refl _) _), ht0.alloc _⟩)
      clear hp hnl hit ht0 hm
      go_wp2_with fail
      clear hrun hrn
      go_loopg [6] 0 (fun g u W => u = .int .i64 0 ∧ W = wr.alloc (.mapIter none 0 #[] 0))
      case atStart => exact ⟨rfl, rfl⟩
      case round =>
        obtain ⟨rfl, rfl⟩ := hrel
        have hrn := run_next_nil (new0 wr (.mapIter none 0 #[] 0)) 0
        go_wp2_with fail
        go_ret
        exact ⟨rfl, HST.out.1, HST.out.2⟩
    · have hnot := erase_key ((hp.map _).nodup_iff.1 hnl) h1
      obtain ⟨w2, hdel, hit2, ht2, hs2⟩ := run_delete_iter (P := Try.prog) (t := 52) (k := 3) (e := 25) Try.underlying52 Try.underlying3 hit' x hnot 0 3
      have HP := Lib.hid hp
      have HNL := Lib.hid hnl
      have HI2 := Lib.hid hit2
      have HT0 := Lib.hid ht0
      have HT := Lib.hid ht
      have HT2 := Lib.hid ht2
      have H1 := Lib.hid h1
      clear hp hnl hit2 ht0 ht ht2 h1 hnot hit'
      go_wp2_with fail
      go_roundg (todo.eraseIdx i).length
      case measure =>
        have := (List.getElem?_eq_some_iff.1 H1.out).1
        rw [List.length_eraseIdx_of_lt this]; omega
      case rel =>
        refine ⟨_, todo.eraseIdx i, rfl, del_perm HP.out HNL.out H1.out, ?_, HI2.out, (HT0.out.under HT.out (fun k hk e => by omega)).trans HT2.out⟩
        have := (perm_erase todo i _ H1.out).map (·.1)
        have h3 := (((del_perm HP.out HNL.out H1.out).map (·.1))).nodup_iff
        rw [h3]
        have h4 := (this.trans (HP.out.map (·.1)).symm).nodup_iff.2 HNL.out
        rw [List.map_cons, List.nodup_cons] at h4
        exact h4.2


set_option maxHeartbeats 4000000 in
theorem replaceN_any (ok : Nat → Prop) (w : World) (h y a b2 : Nat) (H : HM) (m2 : List (Int × Ob)) (hh : HeapAt w h y a H) (hn : 0 ≤ H.nur) (hb2 : ObjMapO ok w b2 m2) (hok1 : ∀ k, ok k → k < w.heap.size) (hok2 : ∀ k, ok k → ¬ HB h y a k) (n3 : b2 ≠ y) (n4 : b2 ≠ a) :
    Calls Try.prog 31 #[.pointer (some ⟨h, 0, none⟩), .map none, .map (some b2)] w fun e w' => e = .returned (.int .i64 (H.repl [] m2)) ∧ ∃ H', HeapAt w' h y a H' ∧ Repl H [] m2 H' ∧ Turn (HB h y a) w w' := by
  obtain ⟨hl1, hl2, hl3⟩ := hh.lt
  obtain ⟨c0, c1, c2, c3, c4⟩ := hh.cells
  have M := Lib.hid (made_any h y w c0)
  have HH := Lib.hid hh
  have OK1 := Lib.hid hok1
  have OK2 := Lib.hid hok2
  have B2 := Lib.hid hb2
  have NO := Lib.hid (show ∀ w', Below w.heap.size w w' → H.repl [] m2 ≠ 0 → ∃ H', HeapAt w' h y a H' ∧ Repl H [] m2 H' ∧ Turn (HB h y a) w w' from fun w' hb hne => ⟨H, HH.out.fresh hb, ⟨fun _ => rfl, fun e => absurd e hne⟩, below_turn hb _⟩)
  clear hh hb2 hok1 hok2 c0 c1 c2 c3 c4
  go_enter Try.func31, Try.ntmps31
  go_wp2_with fail
  refine M.out.mono ?_
  rintro e w1 ⟨rfl, rfl⟩
  go_wp2_with fail
  refine (fitsN_any _).mono ?_
  rintro e w2 ⟨rfl, hb⟩
  have HB2 := Lib.hid hb
  clear hb
  have F1 : True := trivial
  · go_wp2_with fail
    refine (fitsO_any ok _ b2 m2 (B2.out.fresh HB2.out) (fun k hk => by have := OK1.out k hk; have := HB2.out.size; omega)).mono ?_
    rintro e w3 ⟨rfl, hb⟩
    have HB3 := Lib.hid (below_then HB2.out HB2.out.size hb)
    clear hb HB2
    cases f2 : fitB m2 with
    | false =>
      have HF := Lib.hid (show H.repl [] m2 = 1 by simp [HM.repl, f2])
      clear f2
      go_wp2_with fail
      go_ret
      exact ⟨by rw [HF.out]; rfl, NO.out _ HB3.out (by rw [HF.out]; decide)⟩
    | true =>
      have F2 := Lib.hid f2
      clear f2
      have hsz3 := HB3.out.size
      have hrn := run_range_nil w3
      have HIT := Lib.hid (new0 w3 (.mapIter none 0 #[] 0))
      have HWB := Lib.hid (HB3.out.alloc hsz3 (.mapIter none 0 #[] 0))
      clear HB3
      go_wp2_with fail
      clear hrn
      generalize w3.heap.size = n1 at *
      go_loopg [] 0 (fun g W => W.heap[n1]? = some (.mapIter none 0 #[] 0) ∧ Below w1.heap.size w1 W)
      case atStart => exact ⟨HIT.out, HWB.out⟩
      case round =>
          obtain ⟨hit, hb⟩ := hrel
          have hrn := run_next_nil hit 0
          have HB := Lib.hid hb
          clear hit hb
          have hh1 := HH.out.fresh HB.out
          have hob2 := B2.out.fresh HB.out
          obtain ⟨c0, c1, c2, c3, c4⟩ := hh1.cells
          have HH1 := Lib.hid hh1
          have O2 := Lib.hid hob2
          obtain ⟨l2, hma2, hk2⟩ := hob2
          have hlen2 := fun n ty => run_len_map (P := Try.prog) (k := 3) (e := 25) Try.underlying52 (hma2.drewN n) ty
          have hlen20 := fun ty => run_len_map (P := Try.prog) (k := 3) (e := 25) Try.underlying52 hma2 ty
          simp only [hk2.length] at hlen2 hlen20
          clear hk2 hma2 hh1
          · have t1 : ¬ H.nur < 0 := by omega
            by_cases t2 : H.eld < m2.length
            · have HF := Lib.hid (show H.repl [] m2 = 33 by have e1 : fitB [] = true := rfl; have e2 : meets [] m2 = false := rfl; simp only [HM.repl, e1, e2, F2.out, and_self, if_true]; rw [if_pos]; exact .inr t2)
              go_upto_region 11 with (fail)
              go_quiet (fail)
              go_wp2_with fail
              go_ret
              exact ⟨by rw [HF.out]; rfl, NO.out _ (below_drewN HB.out _) (by rw [HF.out]; decide)⟩
            · have HF := Lib.hid (show H.repl [] m2 = 0 by have e1 : fitB [] = true := rfl; have e2 : meets [] m2 = false := rfl; simp only [HM.repl, e1, e2, F2.out, and_self, if_true]; rw [if_neg]; simp only [List.length_nil]; omega)
              have K2 := Lib.hid (fitB_keys F2.out)
              have t1' := t1
              go_upto_region 11 with (fail)
              go_quiet (fail)
              go_upto_region 13 with (fail)
              have HHn := Lib.hid (HH1.out.drewN nq)
              have O2n := Lib.hid (show ObjMapO ok (wr.drewN nq) b2 m2 from O2.out)
              have HBn := Lib.hid (below_drewN HB.out nq)
              clear HH1 O2 HB hlen2 hlen20 c2 c3
              have d0 : (wr.drewN nq).cell? ⟨h, 0, none⟩ = some (.map (some y)) := c0
              have d1 : (wr.drewN nq).cell? ⟨h, 1, none⟩ = some (.map (some a)) := c1
              have d4 : (wr.drewN nq).cell? ⟨h, 4, none⟩ = some (.int .i64 H.next) := c4
              clear c0 c1 c4
              have hszn := HBn.out.size
              generalize wr.drewN nq = wn at *
              go_region_with (first
                | (go_at_call_of 65 (Value.map none); refine (refillN_any _ y H.ly HHn.out.drew.young).mono ?_; rintro e w5 ⟨rfl, hmy, hty⟩; have HN5 := Lib.hid (HeapAt.reYoung HHn.out.drew hty hmy); have O25 := Lib.hid (ObjMapO.turn (O2n.out.fresh (Below.refl _ _).drew) hty n3 (fun k hk e => OK2.out k hk (.inr (.inl e)))); have T5 := Lib.hid ((below_turn HBn.out.drew (HB h y a)).under hty (fun k _ e => .inr (.inl e))); have hs5 : wn.heap.size ≤ w5.heap.size := hty.size; obtain ⟨e0, e1, -, -, e4⟩ := HN5.out.cells; clear hmy hty)
                | (go_at_call 65; refine (refillO_any ok _ a b2 H.la m2 HN5.out.old O25.out (fun k hk => by have := OK1.out k hk; omega) (fun k hk e => OK2.out k hk (.inr (.inr e))) (by omega) K2.out).mono ?_; rintro e w6 ⟨rfl, la, hpa, hma, hta⟩; have HPA := Lib.hid hpa; have HN6 := Lib.hid (HeapAt.reOld HN5.out hta hma); have T6 := Lib.hid (T5.out.under hta (fun k _ e => .inr (.inr e))); obtain ⟨i0, i1, -, -, i4⟩ := HN6.out.cells; have hf6 := freeH HN6.out.row; clear hpa hma hta))
              all_goals go_wp2_with fail
              all_goals go_ret
              all_goals exact ⟨by rw [HF.out]; rfl, _, HN6.out.setNext _, ⟨fun e => absurd HF.out e, fun _ => ⟨rfl, rfl, List.Perm.refl _, HPA.out, by dsimp only; rw [show nxt ([] : List (Int × Ob)) = 0 from rfl]; first | omega | (simp only [*]; omega) | (split at * <;> omega)⟩⟩, T6.out.setCell (.inl rfl) _⟩

end Go.Proofs.Ytobniolmielikaa

