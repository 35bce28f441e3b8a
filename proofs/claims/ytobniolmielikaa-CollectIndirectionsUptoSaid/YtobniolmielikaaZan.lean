/- Texts of the collector's proof, joined: Maj, Rcl5, RMaj, Sur1. -/
import Derived.Test.YtobniolmielikaaZam
import Derived.Test.YtobniolmielikaaZai
import Derived.Test.YtobniolmielikaaZal
import Derived.Test.YtobniolmielikaaZae
import Derived.Test.YtobniolmielikaaZaf
import Derived.Test.YtobniolmielikaaZah
/- The collector's Major; no condition. -/
namespace Go.Proofs.Ytobniolmielikaa
open Go.RowKit

theorem underlying75_zero (w : World) : (zeroValue 75).run Try.prog w = .ok (.agg #[.int .i64 0, .int .i64 0, .int .i64 0, .int .i64 0, .int .i64 0, .int .i64 0, .int .i64 0, .int .i64 0]) w := by kernel_rfl
/-- Statistics. -/
abbrev statA (mi ma co pe : Int) : Array Value := #[.int .i64 0, .int .i64 0, .int .i64 0, .int .i64 0, .int .i64 mi, .int .i64 ma, .int .i64 co, .int .i64 pe]
/-- How a collection has ended. -/
structure GcEnd (w : World) (h y a : Nat) (H : HM) (roots : List Int) (r : Int × List Int) (mi ma pe : Int) (m : List (Int × Ob)) (e : Ending) (w' : World) : Prop where
  turn : Turn (HB h y a) w w'
  heap : ∃ H', HeapAt w' h y a H' ∧ Gone H r.1 m H'
  no : r.1 ≠ 0 → e = .returned (.tuple #[.slice none 0 0, .agg (statA 0 0 0 0), .int .i64 r.1])
  yes : r.1 = 0 → ∃ v, e = .returned (.tuple #[v, .agg (statA mi ma r.2.length pe), .int .i64 0]) ∧ Ints (w.heap.size ≤ ·) w' v (roots.map (mv r.2 H.top))

theorem ints_row {w : World} {base : Nat} {v : Value} {xs : List Int} (h : w.ownsRow base 3 1 v xs.length (xs.map (Value.int .i64))) (hl : xs.length * 8 ≤ 140737488355328) (hw : ∀ x ∈ xs, (Lit.int .i64 x).wf = true) : Ints (base ≤ ·) w v xs := ints_of_row h hl hw
theorem row_shape {w : World} {base : Nat} {v : Value} {xs : List Value} {n : Nat} (h : w.ownsRow base 3 1 v n xs) : ∃ A c, v = .slice A n c := by
  obtain ⟨_, ⟨rfl, h0⟩ | ⟨g', cap, cur, rfl, _⟩⟩ := h
  · rw [h0]; exact ⟨_, _, rfl⟩
  · exact ⟨_, _, rfl⟩
/-- 'objects[a]' of a map of objects. -/
theorem run_lookup_obj {ok : Nat → Prop} {w : World} {b : Nat} {m : List (Int × Ob)} (h : ObjMapO ok w b m) {x : Int} {o : Ob} (hg : get m x = some o) :
    ∃ ra rc wa wc, (∀ W : World, W.heap[b]? = w.heap[b]? → (Instr.lookup 52 (.map (some b)) (.int .i64 x) false).run Try.prog W = .ok (.agg #[.int .i64 o.op, .int .i64 o.n, .int .i64 o.ar, .slice ra o.refs.length rc, .slice wa o.words.length wc]) W) ∧
      ObAt ok w (.agg #[.int .i64 o.op, .int .i64 o.n, .int .i64 o.ar, .slice ra o.refs.length rc, .slice wa o.words.length wc]) o := by
  obtain ⟨l, hm, hk⟩ := h
  rcases hk.get x with ⟨g1, g2⟩ | ⟨v, o2, g1, g2, hv⟩
  · rw [hg] at g2; cases g2
  · rw [hg] at g2
    cases g2
    obtain ⟨ra, rc, wa, wc, rfl⟩ := hv.open
    refine ⟨ra, rc, wa, wc, fun W hW => ?_, hv⟩
    have := run_lookup_map (P := Try.prog) (t := 52) (k := 3) (e := 25) Try.underlying52 Try.underlying3 (zero25 W) (hm.same hW) x false
    rw [g1] at this
    simpa using this
theorem get_objs {L : List Int} {x : Int} (f : Int → Ob) (h : x ∈ L) : get (L.map fun a => (a, f a)) x = some (f x) := by
  induction L with
  | nil => simp at h
  | cons y L ih =>
    rw [List.map_cons, get_cons]
    by_cases e : x = y
    · simp [e]
    · simp only [if_neg e]
      exact ih (by simpa [e] using h)
theorem run_lookup_pos {w : World} {b : Nat} {base : Int} {L : List Int} (h : IntMap w b (posM base L)) (hd : L.Nodup) {x : Int} {k : Nat} (hx : L[k]? = some x) :
    (Instr.lookup 106 (.map (some b)) (.int .i64 x) false).run Try.prog w = .ok (.int .i64 (base + k)) w := by
  have := run_lookup_map (P := Try.prog) (t := 106) (k := 3) (e := 3) Try.underlying106 Try.underlying3 (zero3 w) h x false
  simp only [Bool.false_eq_true, if_false] at this
  rw [get_vals, get_posM hd, atL_at hd hx, if_pos (by omega)] at this
  simpa using this
theorem news_take {H : HM} {L : List Int} {k : Nat} {x : Int} (hx : L[k]? = some x) : (H.news L).take (k + 1) = (H.news L).take k ++ [(H.top + k, mvO L H.top (H.ob x))] := by
  rw [List.take_add_one, news_get, hx]
  rfl
theorem posM_wf {H : HM} (hW : Wel H) {L : List Int} (hl : L.length ≤ 1000000) : ∀ p ∈ posM H.top L, (Lit.int .i64 p.2).wf = true := by
  intro p hp
  obtain ⟨i, hi⟩ := List.getElem?_of_mem hp
  rw [posM_get] at hi
  obtain ⟨a, ha, rfl⟩ := Option.map_eq_some_iff.1 hi
  have := (List.getElem?_eq_some_iff.1 ha).1
  have := hW.top
  exact wf_key (by show 0 ≤ H.top + (i : Int) ∧ H.top + (i : Int) < _; omega)

/-- Eight cells written one behind the other. -/
def set8 (w : World) (g : Nat) (a b c d e f i j : Value) : World := (((set5 w g a b c d e).setCell ⟨g, 5, none⟩ f).setCell ⟨g, 6, none⟩ i).setCell ⟨g, 7, none⟩ j
theorem set8_row {w : World} {g : Nat} {x0 x1 x2 x3 x4 x5 x6 x7 : Value} {T : TypeId} {t : Nat × Nat} (h : w.heap[g]? = some (.cells #[x0, x1, x2, x3, x4, x5, x6, x7] T t)) (a b c d e f i j : Value) : (set8 w g a b c d e f i j).heap[g]? = some (.cells #[a, b, c, d, e, f, i, j] T t) := by
  unfold set8
  have h5 : (set5 w g a b c d e).heap[g]? = some (.cells #[a, b, c, d, e, x5, x6, x7] T t) := by
    unfold set5
    simp [World.setCell, Array.getElem?_modify, h]
  simp [World.setCell, Array.getElem?_modify, h5]
theorem set8_turn {S : Nat → Prop} {w0 w : World} {g : Nat} (ht : Turn S w0 w) (hg : S g) (a b c d e f i j : Value) : Turn S w0 (set8 w g a b c d e f i j) :=
  (((set5_turn ht hg a b c d e).setCell (p := ⟨g, 5, none⟩) hg f).setCell (p := ⟨g, 6, none⟩) hg i).setCell (p := ⟨g, 7, none⟩) hg j

/-- The end, once the heap's part is known. -/
theorem heap_past {w W W' : World} {h y a : Nat} {H : HM} {cs : Array Value} (hlt : h < w.heap.size ∧ y < w.heap.size ∧ a < w.heap.size) (hH : HeapAt W h y a H) (hbx : W.heap[w.heap.size]? = some (.cells cs 75)) (ht : Turn (fun k => k = w.heap.size) W W') : HeapAt W' h y a H := by
  refine hH.turn ht (by omega) (by omega) (by omega) ?_
  rintro k ⟨cs', f, hr⟩ rfl
  rw [hbx] at hr
  simp at hr
theorem gcEnd_no {w W : World} {h y a : Nat} {H : HM} {roots : List Int} {r : Int × List Int} {mi ma pe : Int} {m : List (Int × Ob)} {cs : Array Value} (hlt : h < w.heap.size ∧ y < w.heap.size ∧ a < w.heap.size) (hT : Turn (HB h y a) w W) (hH : ∃ H', HeapAt W h y a H' ∧ Gone H r.1 m H') (hbx : W.heap[w.heap.size]? = some (.cells cs 75)) (hne : r.1 ≠ 0) (a0 a1 a2 a3 a4 a5 a6 a7 : Value) :
    GcEnd w h y a H roots r mi ma pe m (.returned (.tuple #[.slice none 0 0, .agg (statA 0 0 0 0), .int .i64 r.1])) (set8 W w.heap.size a0 a1 a2 a3 a4 a5 a6 a7) := by
  have ht := set8_turn (S := fun k => k = w.heap.size) (Turn.refl _ W) rfl a0 a1 a2 a3 a4 a5 a6 a7
  obtain ⟨H', h1, h2⟩ := hH
  exact ⟨hT.under ht fun k hk e => by omega, ⟨H', heap_past hlt h1 hbx ht, h2⟩, fun _ => rfl, fun e => absurd e hne⟩
theorem gcEnd_yes {w W : World} {h y a : Nat} {H : HM} {roots : List Int} {r : Int × List Int} {mi ma pe : Int} {m : List (Int × Ob)} {cs : Array Value} {v : Value} (hlt : h < w.heap.size ∧ y < w.heap.size ∧ a < w.heap.size) (hT : Turn (HB h y a) w W) (hH : ∃ H', HeapAt W h y a H' ∧ Gone H r.1 m H') (hbx : W.heap[w.heap.size]? = some (.cells cs 75)) (he : r.1 = 0)
    (hv : Ints (fun k => w.heap.size ≤ k ∧ k ≠ w.heap.size) W v (roots.map (mv r.2 H.top))) (a0 a1 a2 a3 a4 a5 a6 a7 : Value) :
    GcEnd w h y a H roots r mi ma pe m (.returned (.tuple #[v, .agg (statA mi ma r.2.length pe), .int .i64 0])) (set8 W w.heap.size a0 a1 a2 a3 a4 a5 a6 a7) := by
  have ht := set8_turn (S := fun k => k = w.heap.size) (Turn.refl _ W) rfl a0 a1 a2 a3 a4 a5 a6 a7
  obtain ⟨H', h1, h2⟩ := hH
  exact ⟨hT.under ht fun k hk e => by omega, ⟨H', heap_past hlt h1 hbx ht, h2⟩, fun e => absurd he e, fun _ => ⟨v, rfl, (hv.turn ht fun k hk => hk.2).mono fun k _ hk => hk.1⟩⟩

set_option maxRecDepth 100000 in
set_option maxHeartbeats 4000000 in
theorem major_any (ok : Nat → Prop) (w : World) (h y a : Nat) (H : HM) (rv : Value) (roots : List Int) (hh : HeapAt w h y a H) (hW : Wel H) (hr : Ints ok w rv roots) (hok : ∀ k, ok k → ¬ HB h y a k) (hvol : H.fuel roots ≤ 1000000) :
    Calls Try.prog 43 #[.pointer (some ⟨h, 0, none⟩), rv] w fun e w' => GcEnd w h y a H roots (H.major roots) 0 1 (H.major roots).2.length (H.news (H.major roots).2) e w' := by
  obtain ⟨A, c, rfl⟩ := hr.shape
  have HH := Lib.hid hh
  have HR := Lib.hid hr
  have HW := Lib.hid hW
  have HV := Lib.hid hvol
  have HOK := Lib.hid hok
  have hmm := @run_makeMap Try.prog
  obtain ⟨Z, hZ⟩ : ∃ Z : Obj, Obj.cells (statA 0 0 0 0) 75 = Z := ⟨_, rfl⟩
  have L0 := Lib.hid (live_any ok (w.alloc Z) h y a H _ roots (hh.alloc Z) (hr.alloc Z) hW.n1 hW.nd hvol)
  have NO := Lib.hid (show ∀ w', Below w.heap.size w w' → ∀ err, err ≠ 0 → ∃ H', HeapAt w' h y a H' ∧ Gone H err (H.news (H.major roots).2) H' from fun w' hb err hne => ⟨H, hh.fresh hb, ⟨fun _ => rfl, fun e => absurd e hne⟩⟩)
  clear hh hr hvol hok
  go_enter Try.func43, Try.ntmps43
  go_wp2_with fail
  refine L0.out.mono ?_
  rintro e w1 ⟨hb1, hno, hyes⟩
  have hbx := rowB hb1 (new0 w Z) (by simp)
  rw [← hZ] at hbx
  have HBX := Lib.hid hbx
  have hb01 := below_then ((Below.refl w.heap.size w).alloc (Nat.le_refl _) Z) (by simp) hb1
  have HB1 := Lib.hid hb01
  have cx := cellsH hbx
  have fx := freeH hbx
  clear hb1 hbx hb01 hZ
  cases hl : H.live roots with
  | none =>
    have he := hno hl
    subst he
    have HM := Lib.hid (show H.major roots = (35, []) by simp [HM.major, hl])
    clear hno hyes hl
    go_wp2_with fail
    clear cx fx
    have c := cellsH (set8_row HBX.out (.int .i64 0) (.int .i64 0) (.int .i64 0) (.int .i64 0) (.int .i64 0) (.int .i64 0) (.int .i64 0) (.int .i64 0))
    unfold set8 set5 at c
    refine bodyPost_ret (v := .tuple #[.slice none 0 0, .agg (statA 0 0 0 0), .int .i64 35]) (by simp [results, Try.results43, go_sem, c]) rfl ?_
    have hend := gcEnd_no (r := H.major roots) (roots := roots) (mi := 0) (ma := 1) (pe := (H.major roots).2.length) HH.out.lt (below_turn HB1.out _) (NO.out _ HB1.out _ (by rw [HM.out]; decide)) HBX.out (by rw [HM.out]; decide) (.int .i64 0) (.int .i64 0) (.int .i64 0) (.int .i64 0) (.int .i64 0) (.int .i64 0) (.int .i64 0) (.int .i64 0)
    rw [HM.out] at hend ⊢
    exact hend
  | some L =>
    obtain ⟨v, b, he, hown, hwf, hobj, hbb⟩ := hyes L hl
    simp only [World.size_alloc] at hown hobj hbb
    subst he
    obtain ⟨Ao, co, rfl⟩ := row_shape hown
    obtain ⟨hnd, hhas, -, -⟩ := live_has hl
    have hlen := bfs_len _ _ _ _ (live_found hl).2
    have hll : L.length ≤ 1000000 := by have := HV.out; simp at hlen; omega
    have HM := Lib.hid (show H.major roots = H.limit 0 L by simp [HM.major, hl])
    have HI1 := Lib.hid (ints_row hown (by omega) hwf)
    have HOBJ := Lib.hid hobj
    have HND := Lib.hid hnd
    have HHAS := Lib.hid hhas
    have HLL := Lib.hid hll
    clear hno hyes hl hown hwf hobj hnd hhas hlen hll
    go_wp2_with fail
    refine (limits_any w1 h y a H (HH.out.fresh HB1.out)).mono ?_
    rintro e w2 ⟨rfl, n2, hw2⟩
    have hb2 := below_drewN HB1.out n2
    rw [← hw2] at hb2
    have hb12 : Below w1.heap.size w1 w2 := by rw [hw2]; exact below_drewN (Below.refl _ _) n2
    have hz2 : w2.heap.size = w1.heap.size := by rw [hw2]; rfl
    have HB2 := Lib.hid hb2
    have hbx2 := rowB hb12 HBX.out (heap_lt HBX.out)
    have HBX2 := Lib.hid hbx2
    have HI2 := Lib.hid (HI1.out.fresh hb12)
    have HOBJ2 := Lib.hid (HOBJ.out.fresh hb12)
    have HZ2 := Lib.hid hz2
    clear hb2 hb12 hbx2 hw2 cx fx hz2
    have hll := HLL.out
    by_cases hlim : H.eld < L.length
    · have HM2 := Lib.hid (show H.major roots = (33, []) by rw [HM.out]; exact limit_heap (by omega))
      have cx := cellsH HBX2.out
      have fx := freeH HBX2.out
      go_wp2_with fail
      clear cx fx
      have c := cellsH (set8_row HBX2.out (.int .i64 0) (.int .i64 0) (.int .i64 0) (.int .i64 0) (.int .i64 0) (.int .i64 0) (.int .i64 0) (.int .i64 0))
      unfold set8 set5 at c
      refine bodyPost_ret (v := .tuple #[.slice none 0 0, .agg (statA 0 0 0 0), .int .i64 33]) (by simp [results, Try.results43, go_sem, c]) rfl ?_
      have hend := gcEnd_no (r := H.major roots) (roots := roots) (mi := 0) (ma := 1) (pe := (H.major roots).2.length) HH.out.lt (below_turn HB2.out _) (NO.out _ HB2.out _ (by rw [HM2.out]; decide)) HBX2.out (by rw [HM2.out]; decide) (.int .i64 0) (.int .i64 0) (.int .i64 0) (.int .i64 0) (.int .i64 0) (.int .i64 0) (.int .i64 0) (.int .i64 0)
      rw [HM2.out] at hend ⊢
      exact hend
    · go_wp2_with fail
      refine (moves_any (w.heap.size + 1 ≤ ·) w2 h y a H _ L (HH.out.fresh HB2.out) HW.out HI2.out HND.out HLL.out).mono ?_
      rintro e w3 ⟨bt, rfl, hto, hbt, hb3⟩
      have HB3 := Lib.hid (below_then HB2.out HB2.out.size hb3)
      have HTO := Lib.hid hto
      have HI3 := Lib.hid (HI2.out.fresh hb3)
      have HOBJ3 := Lib.hid (HOBJ2.out.fresh hb3)
      have HBX3 := Lib.hid (rowB hb3 HBX2.out (heap_lt HBX2.out))
      have hz3 := HB3.out.size
      have hz13 : w1.heap.size ≤ w3.heap.size := by have := hb3.size; have := HZ2.out; omega
      have hlm := HLL.out
      have hbt' : w.heap.size ≤ bt := by have := HB2.out.size; omega
      clear hto hbt hb3
      go_wp2_with fail
      have hbm0 : ObjMapO (fun k => w.heap.size + 1 ≤ k ∧ k ≠ w3.heap.size) (w3.alloc (.map #[] 0)) w3.heap.size ((H.news L).take 0) := ⟨[], MapAt.made w3, .nil⟩
      have HBM0 := Lib.hid hbm0
      clear hbm0
      go_loopw [45] (fun i wr => ∃ k : Nat, k ≤ L.length ∧ i = .int .i64 k ∧ ObjMapO (fun k => w.heap.size + 1 ≤ k ∧ k ≠ w3.heap.size) wr w3.heap.size ((H.news L).take k) ∧ Below w3.heap.size w3 wr) (fun i _ => L.length - (intOf i).toNat)
      case atStart => exact ⟨0, Nat.zero_le _, rfl, HBM0.out, (Below.refl _ _).alloc (Nat.le_refl _) _⟩
      case round =>
        obtain ⟨k, hk, rfl, hom, hb⟩ := hrel
        have HOM := Lib.hid hom
        have HB := Lib.hid hb
        have zb := hb.size
        by_cases hlt : k < L.length
        · obtain ⟨ad, eA, hc⟩ := Ints.cell (HI3.out.fresh hb) hlt
          have hx := List.getElem?_eq_getElem hlt
          generalize L[k] = x at hx hc
          have hxL : x ∈ L := List.mem_of_getElem? hx
          obtain ⟨oa, oc, ob, od, hlk, hov⟩ := run_lookup_obj (HOBJ3.out.fresh hb) (get_objs H.ob hxL)
          have hlk0 := hlk wr rfl
          have HX := Lib.hid hx
          have HOV := Lib.hid hov
          subst eA
          obtain ⟨B, hB⟩ : ∃ B : Obj, Obj.cells #[.int .i64 (H.ob x).op, .int .i64 (H.ob x).n, .int .i64 (H.ob x).ar, .slice oa (H.ob x).refs.length oc, .slice ob (H.ob x).words.length od] 25 = B := ⟨_, rfl⟩
          have cb := cellsH (show (wr.alloc B).heap[wr.heap.size]? = _ by rw [new0, ← hB])
          clear hx hxL hlk hov hom hb
          go_wp2_with fail
          obtain ⟨_, _, hev, hrf, hwd⟩ := HOV.out
          cases hev
          refine (replaced_any _ (wr.alloc B) _ (H.ob x).refs bt (posM H.top L) (hrf.alloc B) ((HTO.out.below HB.out).below ((Below.refl _ _).alloc (Nat.le_refl _) B)) (posM_wf HW.out HLL.out)).mono ?_
          rintro e w4 ⟨u, rfl, hu, huw, hb4⟩
          obtain ⟨Au, cu, rfl⟩ := row_shape hu
          have hz4 := hb4.size
          simp only [World.size_alloc] at hu hb4 hz4
          have hrb := rowB hb4 (new0 wr B) (by simp)
          rw [← hB] at hrb
          have hb04 : Below wr.heap.size wr w4 := below_then ((Below.refl _ _).alloc (Nat.le_refl _) B) (by simp) (by simpa using hb4)
          have T5 : Turn (fun k => k = wr.heap.size) w4 (w4.setCell ⟨wr.heap.size, 3, none⟩ (.slice Au (H.ob x).refs.length cu)) := turnSet _ _ _ _
          have hr5 := rowSet hrb 3 (.slice Au (H.ob x).refs.length cu)
          have hb05 : Below wr.heap.size wr (w4.setCell ⟨wr.heap.size, 3, none⟩ (.slice Au (H.ob x).refs.length cu)) := hb04.setCell (p := ⟨wr.heap.size, 3, none⟩) (Nat.le_refl _) _
          have lkp := run_lookup_pos ((HTO.out.below HB.out).below hb05) HND.out HX.out
          obtain ⟨lm, hlm, hkm⟩ := HOM.out.fresh hb05
          obtain ⟨w6, hrun6, hm6, ht6, hs6⟩ := run_update_map (P := Try.prog) (t := 52) (k := 3) (e := 25) Try.underlying52 Try.underlying3 hlm (H.top + k) (.agg #[.int .i64 (H.ob x).op, .int .i64 (H.ob x).n, .int .i64 (H.ob x).ar, .slice Au (H.ob x).refs.length cu, .slice ob (H.ob x).words.length od])
          have hzz : w3.heap.size < wr.heap.size := by
            obtain ⟨l', hm', _⟩ := HOM.out
            exact hm'.lt
          have hob5 : ObAt (fun k => w.heap.size + 1 ≤ k ∧ k ≠ w3.heap.size) (w4.setCell ⟨wr.heap.size, 3, none⟩ (.slice Au (H.ob x).refs.length cu)) (.agg #[.int .i64 (H.ob x).op, .int .i64 (H.ob x).n, .int .i64 (H.ob x).ar, .slice Au (H.ob x).refs.length cu, .slice ob (H.ob x).words.length od]) (mvO L H.top (H.ob x)) := by
            have hl1 : (H.ob x).refs.length = ((H.ob x).refs.map (via (posM H.top L))).length := by simp
            have hrl := hrf.len
            have hu' : w4.ownsRow (wr.heap.size + 1) 3 1 (.slice Au (H.ob x).refs.length cu) ((H.ob x).refs.map (via (posM H.top L))).length (((H.ob x).refs.map (via (posM H.top L))).map (Value.int .i64)) := by rw [← hl1]; exact hu
            have hi := ints_row hu' (by rw [← hl1]; omega) huw
            rw [show mvO L H.top (H.ob x) = viaO (posM H.top L) (H.ob x) from (viaO_posM HND.out _).symm]
            refine ⟨_, _, rfl, ?_, ?_⟩
            · refine (hi.turn T5 fun k hk e => by omega).mono fun k _ hk => ⟨by omega, by omega⟩
            · exact (hwd.fresh hb05).mono fun k _ hk => ⟨by omega, by omega⟩
          have hob6 := ObjMapO.put hkm hm6 ht6 hob5 (fun k hk => hk.2)
          rw [put_new news_new, ← news_take HX.out] at hob6
          have HOB6 := Lib.hid hob6
          have HB6 := Lib.hid (HB.out.trans ((hb05.mono (by omega : w3.heap.size ≤ wr.heap.size)).trans (ht6.below (by have := hb05.size; omega) (fun k e => by omega))))
          have c4 := cellsH hrb
          have f4 := freeH hrb
          have c5 := cellsH hr5
          clear hob6 hob5 ht6 hs6 hm6 hkm hlm hb05 hr5 T5 hb04 hrb hu hb4 hB cb hc hlk0 hrf hwd
          go_wp2_with fail
          go_roundw
          case rel => exact ⟨k + 1, by omega, by go_num, HOB6.out, HB6.out⟩
          case measure => simp [intOf]; omega
        · have he : k = L.length := by omega
          subst he
          have htk : (H.news L).take L.length = H.news L := List.take_of_length_le (by rw [news_length]; omega)
          rw [htk] at hom
          have hhl := HH.out.lt
          have hwr := HB3.out.size
          have hb0 := below_then HB3.out (by omega) hb
          have HB0 := Lib.hid hb0
          have hom2 := hom.mono (ok' := fun k => w.heap.size + 1 ≤ k ∧ k < wr.heap.size) (fun k hk hd => ⟨hd.1, hk⟩)
          have HO2 := Lib.hid hom2
          have hbx5 := rowB hb HBX3.out (heap_lt HBX3.out)
          have HBX5 := Lib.hid hbx5
          have hnur : 0 ≤ H.nur := by have := HW.out.n1; omega
          have HNR := Lib.hid hnur
          have HHB := Lib.hid (show ∀ k, Go.Proofs.Ytobniolmielikaa.HB h y a k → k < w.heap.size from fun k hk => by rcases hk with rfl | rfl | rfl <;> omega)
          clear hom hb hb0 hom2 hbx5 hnur
          go_wp2_with fail
          refine (replaceN_any _ wr h y a w3.heap.size H (H.news L) (HH.out.fresh HB0.out) HNR.out HO2.out (fun k hk => hk.2) (fun k hk e => by have := HHB.out k e; omega) (by have := HHB.out y (.inr (.inl rfl)); omega) (by have := HHB.out a (.inr (.inr rfl)); omega)).mono ?_
          rintro e w7 ⟨rfl, H', hH', hrp, ht7⟩
          have hnotHB : ¬ Go.Proofs.Ytobniolmielikaa.HB h y a w.heap.size := fun e => by have := HHB.out _ e; omega
          have HBX7 := Lib.hid (rowT ht7 HBX5.out hnotHB)
          have HH7 := Lib.hid hH'
          have HRP := Lib.hid hrp
          have HT7 := Lib.hid ht7
          have hT7 : Turn (Go.Proofs.Ytobniolmielikaa.HB h y a) w w7 := (below_turn HB0.out _).trans ht7
          have HTW := Lib.hid hT7
          clear hH' hrp ht7 hT7 hnotHB
          have htop := HW.out.top
          by_cases hfit : H.top + L.length ≤ 4611686018427387904
          · have hrv : H.repl [] (H.news L) = 0 := by
              rw [repl_fit HNR.out (by rw [fitB_news HW.out HHAS.out, decide_eq_true hfit]), news_length, if_neg (by omega)]
            have HM2 := Lib.hid (show H.major roots = (0, L) by rw [HM.out]; exact limit_ok (by omega) (by omega))
            have HRV := Lib.hid hrv
            rw [hrv]
            have GONE := Lib.hid (show Gone H 0 (H.news L) H' from ⟨fun e => absurd rfl e, fun _ => by
              obtain ⟨a1, a2, a3, a4, a5⟩ := HRP.out.yes HRV.out
              have e0 : nxt ([] : List (Int × Ob)) = 0 := rfl
              have hnn := (nxt_lt (H.news L)).2.1
              exact ⟨a1, a2, List.Perm.eq_nil a3, a4, by rw [a5, e0]; omega⟩⟩)
            have hz7 := HTW.out.size
            have hnb : ¬ Go.Proofs.Ytobniolmielikaa.HB h y a bt := fun e => by have := HHB.out _ e; omega
            have hto7 : IntMap w7 bt (posM H.top L) := MapAt.turn (HTO.out.below HB.out) HT7.out hnb
            have hir7 := (HR.out.fresh HB0.out).turn HT7.out HOK.out
            have hrl := hir7.len
            have HIR7 := Lib.hid hir7
            have HTO7 := Lib.hid hto7
            have cx := cellsH HBX7.out
            have fx := freeH HBX7.out
            clear hir7 hto7 hnb hrv
            go_wp2_with fail
            refine (replaced_any ok w7 _ roots bt (posM H.top L) HIR7.out HTO7.out (posM_wf HW.out HLL.out)).mono ?_
            rintro e w8 ⟨u, rfl, hu, huw, hb8⟩
            obtain ⟨Au, cu, rfl⟩ := row_shape hu
            have hbx8 := rowB hb8 HBX7.out (heap_lt HBX7.out)
            have HBX8 := Lib.hid hbx8
            have HT8 := Lib.hid (HTW.out.then hb8)
            have HH8 := Lib.hid (HH7.out.fresh hb8)
            have hz8 := hb8.size
            have hl1 : roots.length = (roots.map (via (posM H.top L))).length := by simp
            have hu' : w8.ownsRow w7.heap.size 3 1 (.slice Au roots.length cu) (roots.map (via (posM H.top L))).length ((roots.map (via (posM H.top L))).map (Value.int .i64)) := by rw [← hl1]; exact hu
            have hi := (ints_row hu' (by rw [← hl1]; omega) huw).mono (ok' := fun k => w.heap.size ≤ k ∧ k ≠ w.heap.size) (fun k _ hk => by have := heap_lt HBX7.out; omega)
            have hmap : roots.map (via (posM H.top L)) = roots.map (mv L H.top) := List.map_congr_left fun x _ => via_posM HND.out x
            rw [hmap] at hi
            have HI := Lib.hid hi
            clear cx fx hbx8 hb8 hu hu' huw hi hl1 hmap
            have cx := cellsH HBX8.out
            have fx := freeH HBX8.out
            go_wp2_with fail
            clear cx fx
            have c := cellsH (set8_row HBX8.out (.int .i64 0) (.int .i64 0) (.int .i64 0) (.int .i64 0) (.int .i64 0) (.int .i64 1) (.int .i64 L.length) (.int .i64 L.length))
            unfold set8 set5 at c
            refine bodyPost_ret (v := .tuple #[.slice Au roots.length cu, .agg (statA 0 1 L.length L.length), .int .i64 0]) (by simp [results, Try.results43, go_sem, c]) rfl ?_
            rw [HM2.out]
            exact gcEnd_yes (r := (0, L)) (m := H.news L) (roots := roots) (mi := 0) (ma := 1) (pe := L.length) HH.out.lt HT8.out ⟨H', HH8.out, GONE.out⟩ HBX8.out rfl HI.out (.int .i64 0) (.int .i64 0) (.int .i64 0) (.int .i64 0) (.int .i64 0) (.int .i64 1) (.int .i64 L.length) (.int .i64 L.length)
          · have hrv : H.repl [] (H.news L) = 1 := repl_unfit (by rw [fitB_news HW.out HHAS.out, decide_eq_false hfit])
            have HM2 := Lib.hid (show H.major roots = (39, []) by rw [HM.out]; exact limit_range (by omega) (by omega))
            have HRV := Lib.hid hrv
            rw [hrv]
            have cx := cellsH HBX7.out
            have fx := freeH HBX7.out
            clear hrv
            go_wp2_with fail
            clear cx fx
            have c := cellsH (set8_row HBX7.out (.int .i64 0) (.int .i64 0) (.int .i64 0) (.int .i64 0) (.int .i64 0) (.int .i64 0) (.int .i64 0) (.int .i64 0))
            unfold set8 set5 at c
            refine bodyPost_ret (v := .tuple #[.slice none 0 0, .agg (statA 0 0 0 0), .int .i64 39]) (by simp [results, Try.results43, go_sem, c]) rfl ?_
            have hend := gcEnd_no (r := H.major roots) (m := H.news (H.major roots).2) (roots := roots) (mi := 0) (ma := 1) (pe := (H.major roots).2.length) HH.out.lt HTW.out ⟨H', HH7.out, ⟨fun _ => HRP.out.no (by rw [HRV.out]; decide), fun e => by rw [HM2.out] at e; cases e⟩⟩ HBX7.out (by rw [HM2.out]; decide) (.int .i64 0) (.int .i64 0) (.int .i64 0) (.int .i64 0) (.int .i64 0) (.int .i64 0) (.int .i64 0) (.int .i64 0)
            rw [HM2.out] at hend ⊢
            exact hend
end Go.Proofs.Ytobniolmielikaa

/- The reference collector: items; no condition. -/
namespace Go.Proofs.Ytobniolmielikaa
open Go.RowKit

/-- An append of items whose run is known. -/
theorem Own.open {base : Nat} {w : World} {v : Value} {l : List It} (h : Own base w v l) : ∃ A c, v = .slice A l.length c := h.shape
/-- Where items stands. -/
structure ItsAt (w : World) (H : HM) (L : List Int) (k : Nat) (v : Value) (l : List It) (W : World) : Prop where
  own : Own w.heap.size W v l
  abs : absI l = (H.news L).take k
  len : l.length = k
  obs : ∀ x ∈ l, ObR w.heap.size W x.val x.o
  bel : Below w.heap.size w W
theorem ItsAt.fresh {w W W' : World} {H : HM} {L : List Int} {k : Nat} {v : Value} {l : List It} (h : ItsAt w H L k v l W) (hb : Below W.heap.size W W') : ItsAt w H L k v l W' :=
  ⟨h.own.fresh hb, h.abs, h.len, fun x hx => (h.obs x hx).fresh hb, below_then h.bel h.bel.size hb⟩
theorem ItsAt.push {w W w' : World} {H : HM} {L : List Int} {k : Nat} {v v' : Value} {l : List It} {x : It} {a : Int} {row : Obj} (h : ItsAt w H L k v l W) (hown : Own w.heap.size w' v' (l ++ [x])) (hg : (W.alloc row).grownBy w' v.ownBlock) (hx : L[k]? = some a) (e : (x.a, x.o) = (H.top + k, mvO L H.top (H.ob a))) (ho : ObR w.heap.size W x.val x.o) :
    ItsAt w H L (k + 1) v' (l ++ [x]) w' := by
  have hb0 : Below W.heap.size W (W.alloc row) := (Below.refl _ _).alloc (Nat.le_refl _) _
  have hs := hg.size
  refine ⟨hown, ?_, by rw [List.length_append, h.len]; rfl, ?_, (h.bel.alloc h.bel.size row).grown hg (by have := h.bel.size; simp; omega) (fun g hg => (h.own.row hg).1)⟩
  · rw [news_take hx, ← h.abs]
    simp [absI, e]
  · have hk : ∀ z o, ObR w.heap.size W z o → ObR w.heap.size w' z o := fun z o hz => by
      refine ((hz.fresh hb0).turn (S := fun q => v.ownBlock = some q) (turn_grown hg) ?_)
      rintro b _ hr e
      obtain ⟨_, cs, f, hr2⟩ := h.own.row e
      obtain ⟨cs3, f3, hr3⟩ := hr
      rw [old1 hr2 row] at hr3
      simp at hr3
    intro z hz
    rcases List.mem_append.1 hz with hz | hz
    · exact hk _ _ (h.obs z hz)
    · simp at hz; subst hz; exact hk _ _ ho

set_option maxRecDepth 100000 in
set_option maxHeartbeats 2000000 in
theorem items40_any (base : Nat) (ok : Nat → Prop) (w : World) (r : Nat) (NV AV : Value) (R : RM) (u : Value) (L : List Int) (hh : RHeapAt base w r NV AV R) (hW : RWel R) (hL : Ints ok w u L) (hl : L.length ≤ 1000000) :
    Calls Try.prog 83 #[.pointer (some ⟨r, 0, none⟩), u] w fun e w' => ∃ v l', e = .returned v ∧ Own w.heap.size w' v l' ∧ absI l' = R.abs.news L ∧ (∀ x ∈ l', ObR w.heap.size w' x.val x.o) ∧ Below w.heap.size w w' := by
  obtain ⟨La, Lc, rfl⟩ := hL.shape
  have HH := Lib.hid hh
  have HW := Lib.hid hW
  have HL := Lib.hid hL
  have htop := hW.wel.top
  clear hh hW hL
  go_enter Try.func83, Try.ntmps83
  go_wp2_with fail
  refine (base_any base w r NV AV R HH.out HW.out).mono ?_
  rintro e w1 ⟨rfl, hb1⟩
  have HB1 := Lib.hid hb1
  clear hb1
  go_wp2_with fail
  go_loopw [7, 5] (fun i v wr => ∃ (k : Nat) (l : List It), k ≤ L.length ∧ i = .int .i64 k ∧ ItsAt w R.abs L k v l wr) (fun i _ _ => L.length - (intOf i).toNat)
  case atStart => exact ⟨0, [], Nat.zero_le _, rfl, ⟨World.ownsRow_nil _ _ _ _, rfl, rfl, by simp, HB1.out⟩⟩
  case round =>
    obtain ⟨k, l, hk, rfl, hs⟩ := hrel
    obtain ⟨Av, cv, rfl⟩ := hs.own.shape
    have HS := Lib.hid hs
    have hll := hs.len
    have zb := hs.bel.size
    by_cases hlt : k < L.length
    · obtain ⟨ad, eA, hc⟩ := Ints.cell (HL.out.fresh hs.bel) hlt
      have hx := List.getElem?_eq_getElem hlt
      generalize L[k] = x at hc hx
      have HX := Lib.hid hx
      have HBEL := Lib.hid hs.bel
      have HLL := Lib.hid hll
      subst eA
      clear hx hs hll
      go_wp2_with fail
      refine (rget_any base wr r NV AV R x (HH.out.fresh HBEL.out)).mono ?_
      rintro e w2 ⟨v2, rfl, hob, hb2⟩
      rw [rob_abs] at hob
      obtain ⟨oa, oc, ob, od, rfl⟩ := hob.open
      have HOB := Lib.hid hob
      have HB2 := Lib.hid hb2
      obtain ⟨B, hB⟩ : ∃ B : Obj, Obj.cells #[.int .i64 (R.abs.ob x).op, .int .i64 (R.abs.ob x).n, .int .i64 (R.abs.ob x).ar, .slice oa (R.abs.ob x).refs.length oc, .slice ob (R.abs.ob x).words.length od] 25 = B := ⟨_, rfl⟩
      have cb := cellsH (show (w2.alloc B).heap[w2.heap.size]? = _ by rw [new0, ← hB])
      clear hc hob hb2
      go_wp2_with fail
      have hbb : Below wr.heap.size wr (w2.alloc B) := HB2.out.alloc HB2.out.size B
      refine (rreplaced_any _ ok (w2.alloc B) _ _ (R.abs.ob x) L R.abs.top (ObAt.fresh HOB.out.at ((Below.refl _ _).alloc (Nat.le_refl _) B)) ((HL.out.fresh HBEL.out).fresh hbb) htop hl).mono ?_
      rintro e w3 ⟨z, rfl, hz, hb3⟩
      obtain ⟨za, zc, zb', zd, rfl⟩ := hz.open
      have hb13 : Below wr.heap.size wr w3 := below_then hbb hbb.size hb3
      have HS3 := Lib.hid (HS.out.fresh hb13)
      have HZ := Lib.hid hz
      have hz3 := hb3.size
      simp only [World.size_alloc] at hz3
      have hz2 := HB2.out.size
      obtain ⟨g, cap, w4, hrun, hown, hgr, -⟩ := row_append HS3.out.own HS3.out.bel.size (by have := HLL.out; omega) ⟨R.abs.top + k, mvO L R.abs.top (R.abs.ob x), za, zc, zb', zd⟩ 60
      have NEXT := Lib.hid (HS3.out.push hown hgr HX.out rfl (hz.base (by simp; omega)))
      dsimp only [It.arr] at hrun
      clear hz hb3 hb13 hbb cb hown hgr hB
      go_wp2_with (at_builtin; refine wpList_append_run _ rfl _ _ 60 rfl _ _ rfl rfl _ _ hrun ?_)
      go_roundw
      case rel =>
        have := NEXT.out
        exact ⟨k + 1, _, by omega, by go_num, by simpa using this⟩
      case measure => simp [intOf]; omega
    · have he : k = L.length := by omega
      subst he
      clear hs hll
      go_wp2_with fail
      go_ret
      have h1 := HS.out.abs
      rw [List.take_of_length_le (by rw [news_length]; omega)] at h1
      exact ⟨_, l, rfl, HS.out.own, h1, HS.out.obs, HS.out.bel⟩
end Go.Proofs.Ytobniolmielikaa

/- The reference collector: Major; no condition. -/
namespace Go.Proofs.Ytobniolmielikaa
open Go.RowKit

/-- How the reference's collection has ended. -/
structure RGcEnd (base : Nat) (w : World) (r : Nat) (NV AV : Value) (R : RM) (roots : List Int) (s : Int × List Int) (mi ma pe : Int) (m : List (Int × Ob)) (e : Ending) (w' : World) : Prop where
  turn : Turn (RB r NV AV) w w'
  heap : ∃ NV' AV' R', RHeapAt base w' r NV' AV' R' ∧ (s.1 ≠ 0 → R'.abs = R.abs) ∧ (s.1 = 0 → R'.abs = ⟨R.s0, R.s1, max R.next (nxt m), [], srtI m⟩)
  no : s.1 ≠ 0 → e = .returned (.tuple #[.slice none 0 0, .agg (statA 0 0 0 0), .int .i64 s.1])
  yes : s.1 = 0 → ∃ v, e = .returned (.tuple #[v, .agg (statA mi ma s.2.length pe), .int .i64 0]) ∧ Ints (w.heap.size ≤ ·) w' v (roots.map (mv s.2 R.abs.top))
  same : s.1 ≠ 0 → RHeapAt base w' r NV AV R
theorem rheap_past {base : Nat} {w W W' : World} {r : Nat} {NV AV : Value} {R : RM} {cs : Array Value} (hlt : r < w.heap.size) (hH : RHeapAt base W r NV AV R) (hbx : W.heap[w.heap.size]? = some (.cells cs 75)) (ht : Turn (fun k => k = w.heap.size) W W') : RHeapAt base W' r NV AV R := by
  refine hH.turn ht (by omega) ?_ ?_
  · rintro k _ ⟨cs', f, hr⟩ rfl
    rw [hbx] at hr
    simp at hr
  · rintro k ⟨cs', f, hr⟩ rfl
    rw [hbx] at hr
    simp at hr
theorem rgcEnd_no {base : Nat} {w W : World} {r : Nat} {NV AV : Value} {R : RM} {roots : List Int} {s : Int × List Int} {mi ma pe : Int} {m : List (Int × Ob)} {cs : Array Value} (hlt : r < w.heap.size) (hT : Turn (RB r NV AV) w W) (hH : RHeapAt base W r NV AV R) (_ : R.abs = R.abs) (hbx : W.heap[w.heap.size]? = some (.cells cs 75)) (hne : s.1 ≠ 0) (a0 a1 a2 a3 a4 a5 a6 a7 : Value) :
    RGcEnd base w r NV AV R roots s mi ma pe m (.returned (.tuple #[.slice none 0 0, .agg (statA 0 0 0 0), .int .i64 s.1])) (set8 W w.heap.size a0 a1 a2 a3 a4 a5 a6 a7) := by
  have ht := set8_turn (S := fun k => k = w.heap.size) (Turn.refl _ W) rfl a0 a1 a2 a3 a4 a5 a6 a7
  exact ⟨hT.under ht fun k hk e => by omega, ⟨NV, AV, R, rheap_past hlt hH hbx ht, fun _ => rfl, fun e => absurd e hne⟩, fun _ => rfl, fun e => absurd e hne, fun _ => rheap_past hlt hH hbx ht⟩
theorem rgcEnd_yes {base : Nat} {w W : World} {r : Nat} {NV AV NV' AV' : Value} {R R' : RM} {roots : List Int} {s : Int × List Int} {mi ma pe : Int} {m : List (Int × Ob)} {cs : Array Value} {v : Value} (hlt : r < w.heap.size) (hT : Turn (RB r NV AV) w W) (hH : RHeapAt base W r NV' AV' R') (hR : R'.abs = ⟨R.s0, R.s1, max R.next (nxt m), [], srtI m⟩) (hbx : W.heap[w.heap.size]? = some (.cells cs 75)) (he : s.1 = 0)
    (hv : Ints (fun k => w.heap.size ≤ k ∧ k ≠ w.heap.size) W v (roots.map (mv s.2 R.abs.top))) (a0 a1 a2 a3 a4 a5 a6 a7 : Value) :
    RGcEnd base w r NV AV R roots s mi ma pe m (.returned (.tuple #[v, .agg (statA mi ma s.2.length pe), .int .i64 0])) (set8 W w.heap.size a0 a1 a2 a3 a4 a5 a6 a7) := by
  have ht := set8_turn (S := fun k => k = w.heap.size) (Turn.refl _ W) rfl a0 a1 a2 a3 a4 a5 a6 a7
  exact ⟨hT.under ht fun k hk e => by omega, ⟨NV', AV', R', rheap_past hlt hH hbx ht, fun e => absurd he e, fun _ => hR⟩, fun e => absurd he e, fun _ => ⟨v, rfl, (hv.turn ht fun k hk => hk.2).mono fun k _ hk => hk.1⟩, fun e => absurd he e⟩

set_option maxRecDepth 100000 in
set_option maxHeartbeats 4000000 in
theorem rmajor_any (base : Nat) (ok : Nat → Prop) (w : World) (r : Nat) (NV AV : Value) (R : RM) (rv : Value) (roots : List Int) (hh : RHeapAt base w r NV AV R) (hW : RWel R) (hbase : base ≤ w.heap.size) (hr : Ints ok w rv roots) (hvol : R.abs.fuel roots ≤ 1000000) :
    Calls Try.prog 44 #[.pointer (some ⟨r, 0, none⟩), rv] w fun e w' => RGcEnd base w r NV AV R roots (R.abs.major roots) 0 1 (R.abs.major roots).2.length (R.abs.news (R.abs.major roots).2) e w' := by
  obtain ⟨A, c, rfl⟩ := hr.shape
  have HH := Lib.hid hh
  have HR := Lib.hid hr
  have HW := Lib.hid hW
  have HV := Lib.hid hvol
  have hs0 : 1 ≤ R.s0 := hW.wel.n1
  have HS0 := Lib.hid hs0
  have hrl := hh.lt
  clear hh hr hvol hs0
  go_enter Try.func44, Try.ntmps44
  go_wp2_with fail
  refine (rlive_any base _ r NV AV R (HH.out.fresh ((Below.refl _ _).alloc (Nat.le_refl _) _)) HS0.out).mono ?_
  rintro e w1 ⟨rfl, rfl⟩
  go_wp2_with fail
  refine (rstart_any ok _ roots _ (HR.out.alloc _)).mono ?_
  rintro e w2 ⟨u, rfl, hu, hb2⟩
  obtain ⟨Au, cu, rfl⟩ := own_shape hu
  have hbx := rowB hb2 (new0 w _) (by simp)
  have HBX2 := Lib.hid hbx
  have hb02 := below_then ((Below.refl w.heap.size w).alloc (Nat.le_refl _) (.cells (statA 0 0 0 0) 75)) (by simp) hb2
  have HB2 := Lib.hid hb02
  simp only [World.size_alloc] at hu
  have hq2 : Que 0 w2 (.slice Au roots.length cu) roots := by
    have := que_of_row hu HR.out.wf
    rcases this with h | ⟨g, off, cc, cs, e, _, r⟩
    · exact .inl h
    · exact .inr ⟨g, off, cc, cs, e, Nat.zero_le _, r⟩
  have HQ2 := Lib.hid hq2
  clear hbx hb02 hq2 hu hb2
  go_wp2_with fail
  refine (order_false base w2 r NV AV R _ roots (HH.out.fresh HB2.out) HQ2.out HW.out.wel.nd HV.out).mono ?_
  rintro e w3 ⟨hb3, hno, hyes⟩
  rw [ordR_live HW.out.wel] at hno hyes
  have HB3 := Lib.hid (below_then HB2.out HB2.out.size hb3)
  have HBX3 := Lib.hid (rowB hb3 HBX2.out (heap_lt HBX2.out))
  clear hb3
  cases hl : R.abs.live roots with
  | none =>
    have he := hno hl
    subst he
    have HM := Lib.hid (show R.abs.major roots = (35, []) by simp [HM.major, hl])
    have cx := cellsH HBX3.out
    have fx := freeH HBX3.out
    clear hno hyes hl
    go_wp2_with fail
    clear cx fx
    have c := cellsH (set8_row HBX3.out (.int .i64 0) (.int .i64 0) (.int .i64 0) (.int .i64 0) (.int .i64 0) (.int .i64 0) (.int .i64 0) (.int .i64 0))
    unfold set8 set5 at c
    refine bodyPost_ret (v := .tuple #[.slice none 0 0, .agg (statA 0 0 0 0), .int .i64 35]) (by simp [results, Try.results44, go_sem, c]) rfl ?_
    have hend := rgcEnd_no (base := base) (NV := NV) (AV := AV) (R := R) (s := R.abs.major roots) (roots := roots) (mi := 0) (ma := 1) (pe := (R.abs.major roots).2.length) (m := R.abs.news (R.abs.major roots).2) hrl (below_turn HB3.out _) (HH.out.fresh HB3.out) rfl HBX3.out (by rw [HM.out]; decide) (.int .i64 0) (.int .i64 0) (.int .i64 0) (.int .i64 0) (.int .i64 0) (.int .i64 0) (.int .i64 0) (.int .i64 0)
    rw [HM.out] at hend ⊢
    exact hend
  | some L =>
    obtain ⟨v, he, hown, hwf⟩ := hyes L hl
    subst he
    obtain ⟨Ao, co, rfl⟩ := own_shape hown
    obtain ⟨hnd, hhas, -, -⟩ := live_has hl
    have hlen := bfs_len _ _ _ _ (live_found hl).2
    have hll : L.length ≤ 1000000 := by have := HV.out; simp at hlen; omega
    have HM := Lib.hid (show R.abs.major roots = R.abs.limit 0 L by simp [HM.major, hl])
    have HI3 := Lib.hid ((ints_row hown (by omega) hwf).mono (ok' := fun k => w.heap.size ≤ k) (fun k _ hk => by have := HB2.out.size; omega))
    have HND := Lib.hid hnd
    have HHAS := Lib.hid hhas
    have HLL := Lib.hid hll
    clear hno hyes hl hown hwf hnd hhas hlen hll
    go_wp2_with fail
    refine (rlimits_any base w3 r NV AV R (HH.out.fresh HB3.out)).mono ?_
    rintro e w4 ⟨rfl, n4, hw4⟩
    have hb4 := below_drewN HB3.out n4
    rw [← hw4] at hb4
    have hb34 : Below w3.heap.size w3 w4 := by rw [hw4]; exact below_drewN (Below.refl _ _) n4
    have HB4 := Lib.hid hb4
    have HBX4 := Lib.hid (rowB hb34 HBX3.out (heap_lt HBX3.out))
    have HI4 := Lib.hid (HI3.out.fresh hb34)
    clear hb4 hb34 hw4
    go_wp2_with fail
    refine (limited_any base w4 r NV AV R L.length R.s1 (HH.out.fresh HB4.out) HW.out).mono ?_
    rintro e w5 ⟨rfl, hb5⟩
    have hlim := lim_limit (H := R.abs) (n := 0) (L := L)
    rw [show R.abs.eld - ((0 : Nat) : Int) = R.s1 by show R.s1 - 0 = R.s1; omega] at hlim
    have HLIM := Lib.hid hlim
    have HB5 := Lib.hid (below_then HB4.out HB4.out.size hb5)
    have HBX5 := Lib.hid (rowB hb5 HBX4.out (heap_lt HBX4.out))
    have HI5 := Lib.hid (HI4.out.fresh hb5)
    clear hb5 hlim
    by_cases h0 : lim R.abs L.length R.s1 = 0
    · have hM2 : R.abs.major roots = (0, L) := by
        rw [HM.out]
        rw [HLIM.out] at h0
        by_cases h1 : R.abs.eld < (0 : Nat) + L.length
        · rw [limit_heap h1] at h0; cases h0
        · by_cases h2 : 4611686018427387904 < R.abs.top + L.length
          · rw [limit_range h1 h2] at h0; cases h0
          · exact limit_ok h1 h2
      have hle : ¬ R.abs.eld < (0 : Nat) + L.length ∧ ¬ 4611686018427387904 < R.abs.top + L.length := by
        rw [HM.out] at hM2
        constructor
        · intro h1; rw [limit_heap h1] at hM2; cases hM2
        · intro h2
          by_cases h1 : R.abs.eld < (0 : Nat) + L.length
          · rw [limit_heap h1] at hM2; cases hM2
          · rw [limit_range h1 h2] at hM2; cases hM2
      have HM2 := Lib.hid hM2
      have HLE := Lib.hid hle
      rw [h0]
      clear hM2 hle h0
      have htop := HW.out.wel.top
      go_wp2_with fail
      refine (base_any base w5 r NV AV R (HH.out.fresh HB5.out) HW.out).mono ?_
      rintro e w6 ⟨rfl, hb6⟩
      have HB6 := Lib.hid (below_then HB5.out HB5.out.size hb6)
      have HBX6 := Lib.hid (rowB hb6 HBX5.out (heap_lt HBX5.out))
      have HI6 := Lib.hid (HI5.out.fresh hb6)
      clear hb6
      go_wp2_with fail
      refine (moved_any ok (w.heap.size ≤ ·) w6 _ _ roots L R.abs.top (HR.out.fresh HB6.out) HI6.out htop HLL.out).mono ?_
      rintro e w7 ⟨z, rfl, hz, hzw, hb7⟩
      obtain ⟨Az, cz, rfl⟩ := own_shape hz
      have HB7 := Lib.hid (below_then HB6.out HB6.out.size hb7)
      have HBX7 := Lib.hid (rowB hb7 HBX6.out (heap_lt HBX6.out))
      have HI7 := Lib.hid (HI6.out.fresh hb7)
      have hrl2 := HR.out.len
      have hl1 : roots.length = (roots.map (mv L R.abs.top)).length := by simp
      have hz' : w7.ownsRow w6.heap.size 3 1 (.slice Az roots.length cz) (roots.map (mv L R.abs.top)).length ((roots.map (mv L R.abs.top)).map (Value.int .i64)) := by rw [← hl1]; exact hz
      have HZ := Lib.hid (intsR_of_row hz' (by rw [← hl1]; omega) hzw)
      clear hz hzw hb7 hz' hl1
      go_wp2_with fail
      refine (items40_any base (w.heap.size ≤ ·) w7 r NV AV R _ L (HH.out.fresh HB7.out) HW.out HI7.out HLL.out).mono ?_
      rintro e w8 ⟨v8, l8, rfl, hown8, habs8, hob8, hb8⟩
      obtain ⟨A8, c8, rfl⟩ := hown8.shape
      have hll8 : l8.length = L.length := by
        have := congrArg List.length habs8
        rwa [absI_length, news_length] at this
      have HL8 := Lib.hid hll8
      have HB8 := Lib.hid (below_then HB7.out HB7.out.size hb8)
      have HBX8 := Lib.hid (rowB hb8 HBX7.out (heap_lt HBX7.out))
      have HI8 := Lib.hid (HI7.out.fresh hb8)
      have HZ8 := Lib.hid (HZ.out.fresh hb8)
      have HA8 := Lib.hid habs8
      have HOWN8 := Lib.hid hown8
      have HOB8 := Lib.hid hob8
      have hz7 := HB7.out.size
      have hz67 : w.heap.size ≤ w6.heap.size := HB6.out.size
      clear hown8 habs8 hob8 hb8 hll8
      have hlll := HLL.out
      go_wp2_with fail
      refine (rput_any base (w7.heap.size ≤ ·) w8 r NV AV _ _ R [] l8 (HH.out.fresh HB8.out) (by have := HB8.out.size; omega) HW.out.wel.n2 HW.out.wel.e2 HW.out.nx
        ⟨none, 0, rfl, Nat.le_refl _, by simp [maxLen], fun _ => rfl, fun h => by simp at h, by simp⟩
        ((HOWN8.out.raw (by rw [HL8.out]; omega)).mono fun k _ hk => hk.1) (by rw [HL8.out]; simp; omega) (fun x hx => by
          rw [List.nil_append] at hx
          exact (HOB8.out x hx).at.mono fun k _ hk => hk.1) (fun k hk => by omega)).mono ?_
      rintro e w9 ⟨rfl, NV', AV', R', hR', hput, ht9⟩
      have hrep : R.abs.repl (absI []) (absI l8) = 0 := by
        rw [HA8.out]
        show R.abs.repl [] _ = 0
        rw [repl_fit (by have := HW.out.wel.n1; omega) (by rw [fitB_news HW.out.wel HHAS.out, decide_eq_true]; have := HLE.out.2; omega), if_neg]
        rw [news_length]
        have := HLE.out.1
        omega
      have hR2 := hput.yes hrep
      rw [HA8.out] at hR2
      have hsr : srtI (absI []) = [] := rfl
      rw [hsr] at hR2
      have hnr : ¬ RB r NV AV w.heap.size := by
        rintro (e | e | e)
        · omega
        · obtain ⟨_, cs, f, hr3⟩ := (HH.out.fresh HB8.out).nown.row e
          rw [HBX8.out] at hr3
          simp at hr3
        · obtain ⟨_, cs, f, hr3⟩ := (HH.out.fresh HB8.out).aown.row e
          rw [HBX8.out] at hr3
          simp at hr3
      have HBX9 := Lib.hid (rowT ht9 HBX8.out hnr)
      have HZ9 := Lib.hid (HZ8.out.turn ht9 (fun k _ hk e => (HH.out.fresh HB8.out).notRB3 k hk e))
      have HT9 := Lib.hid ((below_turn HB8.out (RB r NV AV)).trans ht9)
      have HR9 := Lib.hid hR'
      have HR2 := Lib.hid hR2
      have hzz := HT9.out.size
      clear hR' hput ht9 hrep hR2 hsr hnr
      have cx := cellsH HBX9.out
      have fx := freeH HBX9.out
      go_wp2_with fail
      clear cx fx
      have c := cellsH (set8_row HBX9.out (.int .i64 0) (.int .i64 0) (.int .i64 0) (.int .i64 0) (.int .i64 0) (.int .i64 1) (.int .i64 L.length) (.int .i64 L.length))
      unfold set8 set5 at c
      refine bodyPost_ret (v := .tuple #[.slice Az roots.length cz, .agg (statA 0 1 L.length L.length), .int .i64 0]) (by simp [results, Try.results44, go_sem, c]) rfl ?_
      rw [HM2.out]
      refine rgcEnd_yes (base := base) (s := (0, L)) (m := R.abs.news L) (roots := roots) (mi := 0) (ma := 1) (pe := L.length) hrl HT9.out HR9.out HR2.out HBX9.out rfl (Ints.mono HZ9.out fun k _ hk => ⟨by omega, ?_⟩) (.int .i64 0) (.int .i64 0) (.int .i64 0) (.int .i64 0) (.int .i64 0) (.int .i64 1) (.int .i64 L.length) (.int .i64 L.length)
      have := heap_lt HBX6.out
      omega
    · have hM2 : R.abs.major roots = (lim R.abs L.length R.s1, []) := by
        rw [HM.out]
        rw [HLIM.out] at h0 ⊢
        by_cases h1 : R.abs.eld < (0 : Nat) + L.length
        · rw [limit_heap h1]
        · by_cases h2 : 4611686018427387904 < R.abs.top + L.length
          · rw [limit_range h1 h2]
          · rw [limit_ok h1 h2] at h0; exact absurd rfl h0
      have HM2 := Lib.hid hM2
      have H0 := Lib.hid h0
      have hb0 : (lim R.abs L.length R.s1 == 0) = false := by simpa using h0
      have cx := cellsH HBX5.out
      have fx := freeH HBX5.out
      clear hM2 h0
      generalize lim R.abs L.length R.s1 = lm at *
      go_wp2_with fail
      clear cx fx
      have c := cellsH (set8_row HBX5.out (.int .i64 0) (.int .i64 0) (.int .i64 0) (.int .i64 0) (.int .i64 0) (.int .i64 0) (.int .i64 0) (.int .i64 0))
      unfold set8 set5 at c
      refine bodyPost_ret (v := .tuple #[.slice none 0 0, .agg (statA 0 0 0 0), .int .i64 lm]) (by simp [results, Try.results44, go_sem, c]) rfl ?_
      have hend := rgcEnd_no (base := base) (NV := NV) (AV := AV) (R := R) (s := R.abs.major roots) (roots := roots) (mi := 0) (ma := 1) (pe := (R.abs.major roots).2.length) (m := R.abs.news (R.abs.major roots).2) hrl (below_turn HB5.out _) (HH.out.fresh HB5.out) rfl HBX5.out (by rw [HM2.out]; exact H0.out) (.int .i64 0) (.int .i64 0) (.int .i64 0) (.int .i64 0) (.int .i64 0) (.int .i64 0) (.int .i64 0) (.int .i64 0)
      rw [HM2.out] at hend ⊢
      exact hend
end Go.Proofs.Ytobniolmielikaa

/- The collector's survivors: its accept; how its beginning is gathered, as lists; no condition. -/
namespace Go.Proofs.Ytobniolmielikaa
open Go.RowKit

set_option maxHeartbeats 400000 in
theorem accept_any (W : World) (g h y a pw : Nat) (H : HM) (bad : Bool) (x : Int) (hb : W.heap[pw]? = some (.cells #[.pointer (some ⟨g, 0, none⟩)] 115)) (hw : WalkAt W g h bad) (hh : HeapAt W h y a H) :
    Calls Try.prog 106 #[.int .i64 x, .pointer (some ⟨pw, 0, none⟩)] W fun e W' => e = .returned (.bool (H.yng x)) ∧ Below W.heap.size W W' := by
  have cb := cellsH hb
  have cw := cellsH hw
  have HO := Lib.hid (old_any W h y a H x hh)
  clear hb hw hh
  go_enter Try.func106, Try.ntmps106
  go_wp2_with fail
  refine HO.out.mono ?_
  rintro e w1 ⟨rfl, hb1⟩
  have HB := Lib.hid hb1
  clear hb1 cb cw
  go_wp2_with fail
  go_ret
  refine ⟨?_, HB.out⟩
  unfold HM.yng
  cases Go.Proofs.Ytobniolmielikaa.get H.la x <;> rfl

theorem rem_la {H : HM} {x : Int} (hx : x ∈ H.rem) : ∃ o, (x, o) ∈ H.la := by
  unfold HM.rem srt at hx
  rw [List.mem_mergeSort] at hx
  obtain ⟨p, hp, rfl⟩ := List.mem_map.1 hx
  exact ⟨p.2, (List.mem_filter.1 hp).1⟩
theorem rem_has {H : HM} (h : Wel H) {x : Int} (hx : x ∈ H.rem) : H.has x = true := by
  obtain ⟨o, ho⟩ := rem_la hx
  unfold HM.has
  rw [(get_mem h.nd).2 (List.mem_append_right _ ho)]
  rfl
theorem rem_nodup {H : HM} (h : Wel H) : H.rem.Nodup := by
  have h1 : (keysOf (H.la.filter fun p => refsTo H.ly p.2)).Nodup := by
    have := h.nd
    unfold HM.all at this
    rw [List.map_append, List.nodup_append] at this
    unfold keysOf
    exact List.Nodup.sublist (List.Sublist.map (fun p : Int × Ob => p.1) List.filter_sublist) this.2.1
  unfold HM.rem srt
  exact (List.mergeSort_perm _ _).nodup_iff.2 h1
theorem gath_cons {H : HM} {a : Int} {rem q : List Int} (h : (H.ob a).refs.all H.has = true) : H.gath (a :: rem) q = H.gath rem (q ++ (H.ob a).refs.filter H.yng) := by
  rw [HM.gath, if_pos h]
theorem gath_bad {H : HM} {a : Int} {rem q : List Int} (h : (H.ob a).refs.all H.has = false) : H.gath (a :: rem) q = none := by
  rw [HM.gath, if_neg (by simp [h])]
theorem drop_cons {l : List Int} {k : Nat} {x : Int} (h : l[k]? = some x) : l.drop k = x :: l.drop (k + 1) := by
  obtain ⟨hk, e⟩ := List.getElem?_eq_some_iff.1 h
  rw [List.drop_eq_getElem_cons hk, e]
theorem take_nodup_new {l : List Int} (h : l.Nodup) {k : Nat} {x : Int} (hx : l[k]? = some x) : x ∉ l.take k := by
  intro hin
  obtain ⟨j, hj⟩ := List.getElem?_of_mem hin
  have hjk : j < k := by
    have := (List.getElem?_eq_some_iff.1 hj).1
    simp at this
    omega
  rw [List.getElem?_take_of_lt hjk] at hj
  obtain ⟨q1, e1⟩ := List.getElem?_eq_some_iff.1 hj
  obtain ⟨q2, e2⟩ := List.getElem?_eq_some_iff.1 hx
  exact List.pairwise_iff_getElem.1 h j k q1 q2 hjk (e1.trans e2.symm)
theorem vol_rem {H : HM} (h : Wel H) {k : Nat} {x : Int} (hx : H.rem[k]? = some x) : vol H.all (H.rem.take (k + 1)) + (H.ob x).refs.length = vol H.all (H.rem.take k) := by
  rw [List.take_add_one, hx]
  exact vol_step h.nd ((get_mem h.nd).1 (HM.get_some (rem_has h (List.mem_of_getElem? hx)))) (take_nodup_new (rem_nodup h) hx)
/-- 'append(s, x...)' of ints, s a row of the call's own: its run. -/
theorem run_append_ints {W : World} {base : Nat} {v u : Value} {xs ys : List Int} {ok : Nat → Prop} (h : W.ownsRow base 3 1 v xs.length (xs.map (Value.int .i64))) (hu : Ints ok W u ys) (hl : (xs.length + ys.length) * 8 ≤ 140737488355328) (hb : base ≤ W.heap.size) :
    ∃ v' w', (Builtin.append_ #[23, 23] 23 #[v, u]).run Try.prog W = .ok v' w' ∧ w'.ownsRow base 3 1 v' (xs ++ ys).length ((xs ++ ys).map (Value.int .i64)) ∧ W.grownBy w' v.ownBlock := by
  obtain ⟨i, hi, hz0, hz1, hz2⟩ := info_parts info3
  obtain ⟨A, cap, rfl, h1, h2, h3, h4, h5⟩ := hu
  cases A with
  | none =>
    have hc := h3 rfl
    subst hc
    have hy : ys = [] := List.eq_nil_of_length_eq_zero (by omega)
    subst hy
    obtain ⟨Av, cv, rfl⟩ := row_shape h
    have hle : xs.length ≤ cv := by
      obtain ⟨_, ⟨e, h0⟩ | ⟨g, cap, cur, e, _, _, h6, _⟩⟩ := h
      · omega
      · have e1 := (Value.slice.inj e).2.2
        omega
    have hrun := run_append_nothing (P := Try.prog) W 23 23 23 3 i Try.underlying23 hi Av xs.length cv hle (.slice none 0 0) (Src.ofNil W Try.underlying23 0)
    exact ⟨_, _, hrun, by simpa using h, World.grownBy.refl _ _⟩
  | some ad =>
    have hnews : ∀ j y, (ys.map (Value.int .i64))[j]? = some y → W.cell? (ad.add j) = some y := by
      intro j y hj
      simp only [List.getElem?_map, Option.map_eq_some_iff] at hj
      obtain ⟨z, hz, rfl⟩ := hj
      obtain ⟨ad', e1, _, _, hc⟩ := h4 (by have := (List.getElem?_eq_some_iff.1 hz).1; omega)
      cases e1
      exact hc j z hz
    obtain ⟨v', w', hr, r1, r2, _⟩ := run_append_own (P := Try.prog) W base 23 23 3 i (.int .i64 0) 1 8 Try.underlying23 hi hz0 hz1 hz2 rfl (by decide) v xs.length _ h ad ys.length cap (ys.map (Value.int .i64)) (by simp) hnews (ints_oneCell _ _) (by unfold maxLen; omega) hl hb
    exact ⟨v', w', hr, by rw [List.map_append, List.length_append]; exact r1, r2⟩
/-- Such an append as a step of a region that draws its order. -/
theorem step_append_any {P : Program} {ops : Array Oper} {o : Oper} {a : Act} {w : World} {K : Act → World → Prop} {Q : Exit → Act → World → Prop} {E : Prop}
    (hg : o.guard = none) (s x : Operand) (t : TypeId) (hop : o.op = Op.call { callee := Callee.builtin Builtin.append, args := #[s, x], argTypes := #[t, t] }) (hty : o.type = t)
    (u y : Value) (hs : a.eval s = u) (hx : a.eval x = y) (v : Value) (w' : World) (hrun : (Builtin.append_ #[t, t] t #[u, y]).run P w = .ok v w')
    (hK : K (a.put o.dst v) w') : if Region.wanted o (yielded ops a.tmps) = true then Oper.wp P o a w K Q else E := by
  have hw : Region.wanted o (yielded ops a.tmps) = true := by simp [Region.wanted, hg]
  rw [if_pos hw]
  unfold Oper.wp
  simp [execOp, hop, hty, resolve, invoke, builtin, hs, hx, hrun, Result.andThen]
  exact hK

/-- A piece of code that is left at its end alone. -/
def onlyOn (Q : Exit → Act → World → Prop) : Exit → Act → World → Prop
  | .normal, a, w => Q .normal a w
  | _, _, _ => False
theorem wpIn_only {n : Nat} {P : Program} {c : Code} {Q : Exit → Act → World → Prop} {a : Act} {w : World} (h : c.wp P (onlyOn Q) a w) : c.wpIn Fence.wide n P Q a w := by
  refine wpIn_mono (wpIn_wide.2 h) ?_
  rintro e a' w' hq
  cases e with
  | normal => exact hq
  | ret => exact hq.elim
  | exit id => exact hq.elim
  | goto t => exact hq.elim
  | panic ch => exact hq.elim
  | outgrown => exact hq.elim
theorem que_ints2 {base : Nat} {w : World} {v : Value} {t : List Int} {ok : Nat → Prop} (h : Que base w v t) (hl : t.length ≤ 1000000) (ho : ∀ g, v.ownBlock = some g → ok g) : Ints ok w v t := by
  have hwf := h.wf
  rcases h with ⟨rfl, rfl⟩ | ⟨g, off, c, cs, rfl, _, hg, h1, h2, h3, h4, _⟩
  · exact Ints.nil _ _
  · refine ⟨_, c, rfl, h1, h2, (fun h => by cases h), fun _ => ⟨_, rfl, ho g rfl, heap_lt hg, fun i x hx => ?_⟩, by omega, hwf⟩
    rw [Addr.add_lit]
    simp only [World.cell?, hg]
    simpa using h4 i x hx
/-- How survivors ends. -/
def SurvEnd (w : World) (g h : Nat) (H : HM) (roots : List Int) (e : Ending) (w' : World) : Prop :=
  Turn (fun k => k = g) w w' ∧ ∃ (bad : Bool) (v m : Value), e = .returned (.tuple #[v, m]) ∧ WalkAt w' g h bad ∧ (bad = true → H.surv roots = none) ∧
    (bad = false → ∃ L b, H.surv roots = some L ∧ m = .map (some b) ∧ w'.ownsRow w.heap.size 3 1 v L.length (L.map (Value.int .i64)) ∧ (∀ x ∈ L, (Lit.int .i64 x).wf = true) ∧
      ObjMapO (fun k => w.heap.size ≤ k ∧ k < w'.heap.size) w' b (L.map fun a => (a, H.ob a)) ∧ w.heap.size ≤ b)
end Go.Proofs.Ytobniolmielikaa

