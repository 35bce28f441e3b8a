/- Texts of the collector's proof, joined: Gra1, Gra2, Col1, Cnt1, Cnt2, Cnt3, Made. -/
import Derived.Test.YtobniolmielikaaZao
import Derived.Test.YtobniolmielikaaZap
import Derived.Test.YtobniolmielikaaZah
import Derived.Test.YtobniolmielikaaZaf
import Derived.Test.YtobniolmielikaaZac
import Derived.Test.YtobniolmielikaaZag
/- A row of objects of a call's own; the collector's Reach; no condition. -/
namespace Go.Proofs.Ytobniolmielikaa
open Go.RowKit

def It.cells5 (x : It) : List Value := [.int .i64 x.o.op, .int .i64 x.o.n, .int .i64 x.o.ar, .slice x.ra x.o.refs.length x.rc, .slice x.wa x.o.words.length x.wc]
abbrev It.arr5 (x : It) : Array Value := #[.int .i64 x.o.op, .int .i64 x.o.n, .int .i64 x.o.ar, .slice x.ra x.o.refs.length x.rc, .slice x.wa x.o.words.length x.wc]
def flat5 (l : List It) : List Value := l.flatMap It.cells5
theorem flat5_append (l m : List It) : flat5 (l ++ m) = flat5 l ++ flat5 m := by simp [flat5]
theorem flat5_one (x : It) : flat5 [x] = x.cells5 := by simp [flat5]
theorem flat5_one' (l : List It) : ∀ u ∈ flat5 l, u.oneCell' = true := by
  intro u hu
  obtain ⟨x, _, hx⟩ := List.mem_flatMap.1 hu
  simp [It.cells5] at hx
  rcases hx with rfl | rfl | rfl | rfl | rfl <;> rfl
theorem flat5_get : ∀ (l : List It) (k : Nat) (x : It) (j : Nat), l[k]? = some x → j < 5 → (flat5 l)[k * 5 + j]? = x.cells5[j]?
  | [], k, x, j, h, _ => by simp at h
  | y :: r, 0, x, j, h, hj => by
    simp at h
    subst h
    have e : flat5 (y :: r) = y.cells5 ++ flat5 r := by simp [flat5]
    have hl : y.cells5.length = 5 := rfl
    rw [e, Nat.zero_mul, Nat.zero_add, List.getElem?_append_left (by rw [hl]; exact hj)]
  | y :: r, k + 1, x, j, h, hj => by
    have ih := flat5_get r k x j (by simpa using h) hj
    have e : flat5 (y :: r) = y.cells5 ++ flat5 r := by simp [flat5]
    have hl : y.cells5.length = 5 := rfl
    rw [e, List.getElem?_append_right (by rw [hl]; omega), hl, ← ih]
    congr 1
    omega
theorem info25 : (Try.prog.info? 25).map (fun i => (i.zero, i.size, i.bytes)) = some (some (.agg #[.int .i64 0, .int .i64 0, .int .i64 0, .slice none 0 0, .slice none 0 0]), 5, 72) := by kernel_rfl
/-- A row of objects. -/
abbrev OwnO (base : Nat) (w : World) (v : Value) (l : List It) : Prop := w.ownsRow base 25 5 v l.length (flat5 l)
theorem OwnO.kept {base : Nat} {w w' : World} {v : Value} {l : List It} (h : OwnO base w v l) (hb : ∀ g, v.ownBlock = some g → w'.heap[g]? = w.heap[g]?) : OwnO base w' v l := by
  refine ⟨h.1, ?_⟩
  rcases h.2 with h0 | ⟨g, cap, cur, rfl, hg, hh, rest⟩
  · exact .inl h0
  · exact .inr ⟨g, cap, cur, rfl, hg, (hb g rfl).trans hh, rest⟩
theorem OwnO.fresh {base : Nat} {w w' : World} {v : Value} {l : List It} (h : OwnO base w v l) (hb : Below w.heap.size w w') : OwnO base w' v l :=
  h.kept fun g hg => hb.block g (h.lt g hg).2
theorem OwnO.row {base : Nat} {w : World} {v : Value} {l : List It} (h : OwnO base w v l) {g : Nat} (hg : v.ownBlock = some g) : base ≤ g ∧ IsRow 25 w g := by
  rcases h.2 with ⟨rfl, _⟩ | ⟨g', cap, cur, rfl, hb, hh, _⟩
  · simp [Value.ownBlock] at hg
  · simp [Value.ownBlock] at hg
    subst hg
    exact ⟨hb, _, _, hh⟩
theorem OwnO.shape {base : Nat} {w : World} {v : Value} {l : List It} (h : OwnO base w v l) : ∃ A c, v = .slice A l.length c := by
  rcases h.2 with ⟨rfl, h0⟩ | ⟨g, cap, cur, rfl, _⟩
  · exact ⟨none, 0, by rw [h0]⟩
  · exact ⟨_, _, rfl⟩
/-- Its cells. -/
theorem OwnO.cell {base : Nat} {w : World} {A : Option Addr} {n c : Nat} {l : List It} (h : OwnO base w (.slice A n c) l) {k : Nat} {x : It} (hx : l[k]? = some x) :
    ∃ g, A = some ⟨g, 0, none⟩ ∧ w.cell? ⟨g, k * 5, none⟩ = some (.int .i64 x.o.op) ∧ w.cell? ⟨g, k * 5 + 1, none⟩ = some (.int .i64 x.o.n) ∧ w.cell? ⟨g, k * 5 + 2, none⟩ = some (.int .i64 x.o.ar) ∧
      w.cell? ⟨g, k * 5 + 3, none⟩ = some (.slice x.ra x.o.refs.length x.rc) ∧ w.cell? ⟨g, k * 5 + 4, none⟩ = some (.slice x.wa x.o.words.length x.wc) := by
  have hkl := (List.getElem?_eq_some_iff.1 hx).1
  rcases h.2 with ⟨e, h0⟩ | ⟨g, cap, cur, e, hg, hb, h1, h2, h3, h4⟩
  · omega
  · cases e
    have hc := cellsH hb
    have key : ∀ j, j < 5 → w.cell? ⟨g, k * 5 + j, none⟩ = x.cells5[j]? := by
      intro j hj
      rw [hc, ← flat5_get l k x j hx hj, ← h4, List.getElem?_take, if_pos (by omega), Array.getElem?_toList]
    exact ⟨g, rfl, key 0 (by omega), key 1 (by omega), key 2 (by omega), key 3 (by omega), key 4 (by omega)⟩
theorem rowO_append {base : Nat} {w : World} {v : Value} {l : List It} (h : OwnO base w v l) (hb : base ≤ w.heap.size) (hn : (l.length + 1) * 72 ≤ 140737488355328) (x : It) (ty : TypeId) :
    ∃ g cap w', (Builtin.append_ #[69, 69] ty #[v, .slice (some ⟨w.heap.size, 0, none⟩) 1 1]).run Try.prog (w.alloc (.cells x.arr5 25)) = .ok (.slice (some ⟨g, 0, none⟩) (l.length + 1) cap) w' ∧
      OwnO base w' (.slice (some ⟨g, 0, none⟩) (l.length + 1) cap) (l ++ [x]) ∧ (w.alloc (.cells x.arr5 25)).grownBy w' v.ownBlock ∧ (v.ownBlock = some g ∨ g = w.heap.size + 1) := by
  obtain ⟨i, hi, hz0, hz1, hz2⟩ := info_parts info25
  have h6 := h.1
  obtain ⟨g, cap, w', h1, h2, h3, h4, _⟩ := run_append_lies (P := Try.prog) (w.alloc (.cells x.arr5 25)) 69 ty base 25 i _ 5 72 Try.underlying69 hi hz0 hz1 hz2 rfl (by decide) v l.length (flat5 l) (h.alloc _) ⟨w.heap.size, 0, none⟩ 1 1 x.cells5 rfl
    (by
      intro j u hj
      have hc := cellsH (new0 w (.cells x.arr5 25)) j
      rw [Addr.add_lit]
      simp only [Nat.zero_add]
      rw [hc]
      simpa [It.cells5] using hj) (by have := flat5_one' [x]; simpa [flat5_one] using this) (by decide) (by unfold maxLen; omega) hn (by simp; omega) _ rfl
  refine ⟨g, cap, w', h1, ?_, h3, by simpa using h4⟩
  unfold OwnO
  rw [flat5_append, flat5_one, List.length_append]
  exact h2

set_option maxHeartbeats 1000000 in
theorem reach_any (ok : Nat → Prop) (w : World) (h y a : Nat) (H : HM) (rv : Value) (roots : List Int) (hh : HeapAt w h y a H) (hr : Ints ok w rv roots) (hn : 1 ≤ H.nur) (hd : (H.all.map (·.1)).Nodup) (hvol : H.fuel roots ≤ 1000000) :
    Calls Try.prog 37 #[.pointer (some ⟨h, 0, none⟩), rv] w fun e w' => Below w.heap.size w w' ∧ (H.live roots = none → e = .returned (.tuple #[.slice none 0 0, .int .i64 35])) ∧
      ∀ L, H.live roots = some L → ∃ v, e = .returned (.tuple #[v, .int .i64 0]) ∧ Ints (w.heap.size ≤ ·) w' v (srt L) := by
  obtain ⟨A, c, rfl⟩ := hr.shape
  have HL := Lib.hid (live_any ok w h y a H _ roots hh hr hn hd hvol)
  have hlen := Lib.hid (show ∀ L, H.live roots = some L → L.length ≤ 1000000 from fun L hl => by
    have := bfs_len _ _ _ _ (live_found hl).2
    simp at this
    omega)
  clear hh hr hn hd hvol
  go_enter Try.func37, Try.ntmps37
  go_wp2_with fail
  refine HL.out.mono ?_
  rintro e w1 ⟨hb1, hno, hyes⟩
  have HB1 := Lib.hid hb1
  cases hl : H.live roots with
  | none =>
    have he := hno hl
    subst he
    have HLV := Lib.hid hl
    clear hno hyes hl hb1
    go_wp2_with fail
    refine (sort_any w1.heap.size 0 _ [] w1 (World.ownsRow_nil _ _ _ _) (by omega)).mono ?_
    rintro e w2 ⟨rfl, -, hg⟩
    have HB2 := Lib.hid ((HB1.out).grown hg HB1.out.size (fun g hg => by cases hg))
    clear hg
    go_wp2_with fail
    go_ret2
    exact ⟨HB2.out, fun _ => rfl, fun L e => by rw [HLV.out] at e; cases e⟩
  | some L =>
    obtain ⟨v, b, he, hown, hwf, -, -⟩ := hyes L hl
    subst he
    obtain ⟨Ao, co, rfl⟩ := row_shape hown
    have hll := hlen.out L hl
    have HO := Lib.hid hown
    have HWF := Lib.hid hwf
    have HLV := Lib.hid hl
    clear hno hyes hl hb1 hown hwf
    go_wp2_with fail
    refine (sort_any w.heap.size L.length _ L w1 HO.out (by omega)).mono ?_
    rintro e w2 ⟨rfl, hown2, hg⟩
    have HB2 := Lib.hid ((HB1.out).grown hg HB1.out.size (fun g hg => (HO.out.lt g hg).1))
    have HI := Lib.hid (ints_row (xs := srt L) (by rw [srt_length]; exact hown2) (by rw [srt_length]; omega) (fun x hx => HWF.out x (by unfold srt at hx; exact List.mem_mergeSort.1 hx)))
    clear hg hown2
    go_wp2_with fail
    go_ret2
    refine ⟨HB2.out, (fun e => by rw [HLV.out] at e; cases e), fun L' e => ?_⟩
    rw [HLV.out] at e
    cases e
    have := HI.out
    exact ⟨_, rfl, this⟩
end Go.Proofs.Ytobniolmielikaa

/- The collector's Graph; no condition. -/
namespace Go.Proofs.Ytobniolmielikaa
open Go.RowKit

/-- Where the objects stand. -/
structure ObsM (B : Nat) (w : World) (m : List Ob) (v : Value) (l : List It) (W : World) : Prop where
  own : OwnO w.heap.size W v l
  abs : l.map (·.o) = m
  obs : ∀ x ∈ l, ObAt (fun k => B ≤ k ∧ v.ownBlock ≠ some k) W x.val x.o
  bel : Below w.heap.size w W
theorem ObsM.fresh {B : Nat} {w W W' : World} {m : List Ob} {v : Value} {l : List It} (h : ObsM B w m v l W) (hb : Below W.heap.size W W') : ObsM B w m v l W' :=
  ⟨h.own.fresh hb, h.abs, fun x hx => (h.obs x hx).fresh hb, below_then h.bel h.bel.size hb⟩
theorem ObsM.push {B : Nat} {w W w' : World} {m : List Ob} {v : Value} {g n cap : Nat} {l : List It} {x : It} {row : Obj} (h : ObsM B w m v l W) (hown : OwnO w.heap.size w' (.slice (some ⟨g, 0, none⟩) n cap) (l ++ [x])) (hg : (W.alloc row).grownBy w' v.ownBlock) (hat : v.ownBlock = some g ∨ g = W.heap.size + 1) (ho : ObAt (fun k => B ≤ k ∧ v.ownBlock ≠ some k) W x.val x.o) :
    ObsM B w (m ++ [x.o]) (.slice (some ⟨g, 0, none⟩) n cap) (l ++ [x]) w' := by
  have hb0 : Below W.heap.size W (W.alloc row) := (Below.refl _ _).alloc (Nat.le_refl _) _
  have hs := hg.size
  refine ⟨hown, ?_, ?_, (h.bel.alloc h.bel.size row).grown hg (by have := h.bel.size; simp; omega) (fun g hg => (h.own.row hg).1)⟩
  · rw [← h.abs]
    simp
  · have hk : ∀ z o, ObAt (fun k => B ≤ k ∧ v.ownBlock ≠ some k) W z o → ObAt (fun k => B ≤ k ∧ (Value.slice (some ⟨g, 0, none⟩) n cap).ownBlock ≠ some k) w' z o := fun z o hz => by
      have h1 : ObAt (fun k => (B ≤ k ∧ v.ownBlock ≠ some k) ∧ k < W.heap.size) W z o := hz.mono fun k h1 h2 => ⟨h2, h1⟩
      have h2 := (h1.fresh hb0).turn (S := fun q => v.ownBlock = some q) (turn_grown hg) (fun k hk e => hk.1.2 e)
      refine h2.mono fun k _ hk => ⟨hk.1.1, fun e => ?_⟩
      have e2 : g = k := by simpa [Value.ownBlock] using e
      rcases hat with e3 | e3
      · exact hk.1.2 (e2 ▸ e3)
      · omega
    intro z hz
    rcases List.mem_append.1 hz with hz | hz
    · exact hk _ _ (h.obs z hz)
    · simp at hz; subst hz; exact hk _ _ ho
theorem posM_take {L : List Int} {k : Nat} {x : Int} (hx : L[k]? = some x) : posM 0 (L.take (k + 1)) = posM 0 (L.take k) ++ [(x, (k : Int))] := by
  have hk := (List.getElem?_eq_some_iff.1 hx).1
  rw [List.take_add_one, hx]
  show posM 0 (L.take k ++ [x]) = _
  rw [posM_snoc, List.length_take, Nat.min_eq_left (by omega)]
  simp
theorem OwnO.base {B B' : Nat} {w : World} {v : Value} {l : List It} (h : OwnO B w v l) (hb : B' ≤ B) : OwnO B' w v l := by
  refine ⟨h.1, ?_⟩
  rcases h.2 with h0 | ⟨g, cap, cur, e, hg, rest⟩
  · exact .inl h0
  · exact .inr ⟨g, cap, cur, e, Nat.le_trans hb hg, rest⟩
theorem take_snocG {α : Type} {L : List Int} (f : Int → α) {k : Nat} {x : Int} (hx : L[k]? = some x) : (L.take (k + 1)).map f = (L.take k).map f ++ [f x] := by
  rw [List.take_add_one, hx]
  simp
theorem posM0_wf {L : List Int} (hl : L.length ≤ 1000000) : ∀ p ∈ posM 0 L, (Lit.int .i64 p.2).wf = true := by
  intro p hp
  obtain ⟨i, hi⟩ := List.getElem?_of_mem hp
  rw [posM_get] at hi
  obtain ⟨a, ha, rfl⟩ := Option.map_eq_some_iff.1 hi
  have := (List.getElem?_eq_some_iff.1 ha).1
  exact wf_key (by show 0 ≤ (0 : Int) + (i : Int) ∧ (0 : Int) + (i : Int) < _; omega)

/-- How Graph ends. -/
def GraphEnd (w : World) (H : HM) (roots : List Int) (e : Ending) (w' : World) : Prop :=
  Below w.heap.size w w' ∧ (H.live roots = none → e = .returned (.tuple #[.slice none 0 0, .slice none 0 0, .int .i64 35])) ∧
  ∀ L, H.live roots = some L → ∃ v u l, e = .returned (.tuple #[v, u, .int .i64 0]) ∧ Ints (w.heap.size ≤ ·) w' v (roots.map (mv L 0)) ∧ OwnO w.heap.size w' u l ∧ l.map (·.o) = L.map (fun a => mvO L 0 (H.ob a)) ∧ ∀ x ∈ l, ObAt (w.heap.size ≤ ·) w' x.val x.o

set_option maxRecDepth 100000 in
set_option maxHeartbeats 4000000 in
theorem graph_any (ok : Nat → Prop) (w : World) (h y a : Nat) (H : HM) (rv : Value) (roots : List Int) (hh : HeapAt w h y a H) (hr : Ints ok w rv roots) (hn : 1 ≤ H.nur) (hd : (H.all.map (·.1)).Nodup) (hvol : H.fuel roots ≤ 1000000) :
    Calls Try.prog 39 #[.pointer (some ⟨h, 0, none⟩), rv] w (GraphEnd w H roots) := by
  obtain ⟨A, c, rfl⟩ := hr.shape
  have HLA := Lib.hid (live_any ok w h y a H _ roots hh hr hn hd hvol)
  have hlen := Lib.hid (show ∀ L, H.live roots = some L → L.length ≤ 1000000 from fun L hl => by
    have := bfs_len _ _ _ _ (live_found hl).2
    simp at this
    omega)
  have HR := Lib.hid hr
  have hmm := @run_makeMap Try.prog
  clear hh hr hn hd hvol
  go_enter Try.func39, Try.ntmps39
  go_wp2_with fail
  refine HLA.out.mono ?_
  rintro e w1 ⟨hb1, hno, hyes⟩
  have HB1 := Lib.hid hb1
  have hz1 := hb1.size
  cases hl : H.live roots with
  | none =>
    have he := hno hl
    subst he
    have HLV := Lib.hid hl
    clear hno hyes hl hb1
    go_wp2_with fail
    refine bodyPost_ret (v := .tuple #[.slice none 0 0, .slice none 0 0, .int .i64 35]) (by simp [results, Try.results39, go_sem]) rfl ?_
    exact ⟨HB1.out, fun _ => rfl, fun L e => by rw [HLV.out] at e; cases e⟩
  | some L =>
    obtain ⟨v, b, he, hown, hwf, hobj, hbb⟩ := hyes L hl
    subst he
    obtain ⟨Ao, co, rfl⟩ := row_shape hown
    have hll := hlen.out L hl
    obtain ⟨hnd, -, -, -⟩ := live_has hl
    have HI1 := Lib.hid (ints_row hown (by omega) hwf)
    have HOBJ := Lib.hid hobj
    have HND := Lib.hid hnd
    have HLV := Lib.hid hl
    have hbl := ObjMapO.lt hobj
    clear hno hyes hl hb1 hown hwf hobj hnd
    go_wp2_with fail
    go_loopw [30] (fun i wr => ∃ k : Nat, k ≤ L.length ∧ i = .int .i64 k ∧ IntMap wr w1.heap.size (posM 0 (L.take k)) ∧ Below w1.heap.size w1 wr) (fun i _ => L.length - (intOf i).toNat)
    case atStart => exact ⟨0, Nat.zero_le _, rfl, ⟨#[], 0, new0 _ _, ⟨rfl, by simp, by simp, by simp [posM, vals]⟩⟩, (Below.refl _ _).alloc (Nat.le_refl _) _⟩
    case round =>
      obtain ⟨k, hk, rfl, hm, hb⟩ := hrel
      have HM := Lib.hid hm
      have HB := Lib.hid hb
      have zb := hb.size
      by_cases hlt : k < L.length
      · obtain ⟨ad, eA, hc⟩ := Ints.cell (HI1.out.fresh hb) hlt
        have hx := List.getElem?_eq_getElem hlt
        generalize L[k] = x at hx hc
        have HX := Lib.hid hx
        have hnew : x ∉ (posM 0 (L.take k)).map (·.1) := by
          rw [posM_keys]
          exact take_nodup_new HND.out hx
        obtain ⟨w6, hrun, hm6, ht6, hs6⟩ := run_store_ints hm x (k : Int)
        rw [put_new hnew, ← posM_take hx] at hm6
        have HM6 := Lib.hid hm6
        have HB6 := Lib.hid (HB.out.trans (ht6.below zb (fun q e => by omega)))
        subst eA
        clear hx hnew hm hb hm6 ht6 hs6
        go_wp2_with fail
        go_roundw
        case rel => exact ⟨k + 1, by omega, by go_num, HM6.out, HB6.out⟩
        case measure => simp [intOf]; omega
      · have he : k = L.length := by omega
        subst he
        rw [List.take_length] at hm
        have hml := MapAt.lt hm
        obtain ⟨wa, hwa⟩ : ∃ W : World, W = wr := ⟨_, rfl⟩
        subst hwa
        have HMA := Lib.hid hm
        clear hm hb
        go_wp2_with fail
        go_loopw [13, 41] (fun u i wr => ∃ (k : Nat) (l : List It), k ≤ L.length ∧ i = .int .i64 k ∧ l.length = k ∧ ObsM w.heap.size wa ((L.take k).map fun a => mvO L 0 (H.ob a)) u l wr) (fun _ i _ => L.length - (intOf i).toNat)
        case atStart => exact ⟨0, [], Nat.zero_le _, rfl, rfl, ⟨World.ownsRow_nil _ _ _ _, rfl, by simp, Below.refl _ _⟩⟩
        case round =>
          obtain ⟨k, l, hk, rfl, hln, hs⟩ := hrel
          obtain ⟨Av, cv, rfl⟩ := hs.own.shape
          have HS := Lib.hid hs
          have zw := hs.bel.size
          have HBw := Lib.hid (below_then HB.out (by omega) hs.bel)
          by_cases hlt : k < L.length
          · obtain ⟨ad, eA, hc⟩ := Ints.cell ((HI1.out.fresh HB.out).fresh hs.bel) hlt
            have hx := List.getElem?_eq_getElem hlt
            generalize L[k] = x at hx hc
            have hxL : x ∈ L := List.mem_of_getElem? hx
            obtain ⟨oa, oc, ob, od, hlk, hov⟩ := run_lookup_obj ((HOBJ.out.fresh HB.out).fresh hs.bel) (get_objs H.ob hxL)
            have hlk0 := hlk wr rfl
            have HX := Lib.hid hx
            have HOV := Lib.hid hov
            have HTOr := Lib.hid (IntMap.below HMA.out hs.bel)
            have HLN := Lib.hid hln
            subst eA
            obtain ⟨B, hB⟩ : ∃ B : Obj, Obj.cells #[.int .i64 (H.ob x).op, .int .i64 (H.ob x).n, .int .i64 (H.ob x).ar, .slice oa (H.ob x).refs.length oc, .slice ob (H.ob x).words.length od] 25 = B := ⟨_, rfl⟩
            have cb := cellsH (show (wr.alloc B).heap[wr.heap.size]? = _ by rw [new0, ← hB])
            clear hx hxL hlk hov hs hln
            go_wp2_with fail
            obtain ⟨_, _, hev, hrf, hwd⟩ := HOV.out
            cases hev
            refine (replaced_any _ (wr.alloc B) _ (H.ob x).refs w1.heap.size (posM 0 L) (hrf.alloc B) (HTOr.out.below ((Below.refl _ _).alloc (Nat.le_refl _) B)) (posM0_wf hll)).mono ?_
            rintro e w4 ⟨u, rfl, hu, huw, hb4⟩
            obtain ⟨Au, cu, rfl⟩ := row_shape hu
            have hz4 := hb4.size
            simp only [World.size_alloc] at hu hb4 hz4
            have hrb := rowB hb4 (new0 wr B) (by simp)
            rw [← hB] at hrb
            have hb04 : Below wr.heap.size wr w4 := below_then ((Below.refl _ _).alloc (Nat.le_refl _) B) (by simp) (by simpa using hb4)
            have T5 : Turn (fun k => k = wr.heap.size) w4 (w4.setCell ⟨wr.heap.size, 3, none⟩ (.slice Au (H.ob x).refs.length cu)) := turnSet _ _ _ _
            have hr5 := rowSet hrb 3 (.slice Au (H.ob x).refs.length cu)
            have hb05 : Below wr.heap.size wr (w4.setCell ⟨wr.heap.size, 3, none⟩ (.slice Au (H.ob x).refs.length cu)) := hb04.setCell (p := ⟨wr.heap.size, 3, none⟩) (Nat.le_refl _) _
            have hml2 : (mvO L 0 (H.ob x)).refs.length = (H.ob x).refs.length := by simp [mvO]
            have hv1 : ∀ q, (Value.slice Av l.length cv).ownBlock = some q → wa.heap.size ≤ q ∧ q < wr.heap.size := fun q hq => HS.out.own.lt q hq
            have hob5 : ObAt (fun k => w.heap.size ≤ k ∧ (Value.slice Av l.length cv).ownBlock ≠ some k) (w4.setCell ⟨wr.heap.size, 3, none⟩ (.slice Au (H.ob x).refs.length cu)) (It.val ⟨0, mvO L 0 (H.ob x), Au, cu, ob, od⟩) (mvO L 0 (H.ob x)) := by
              have hl1 : (H.ob x).refs.length = ((H.ob x).refs.map (via (posM 0 L))).length := by simp
              have hrl := hrf.len
              have hu' : w4.ownsRow (wr.heap.size + 1) 3 1 (.slice Au (H.ob x).refs.length cu) ((H.ob x).refs.map (via (posM 0 L))).length (((H.ob x).refs.map (via (posM 0 L))).map (Value.int .i64)) := by rw [← hl1]; exact hu
              have hi := ints_row hu' (by rw [← hl1]; omega) huw
              unfold It.val
              simp only [hml2]
              rw [show mvO L 0 (H.ob x) = viaO (posM 0 L) (H.ob x) from (viaO_posM HND.out _).symm]
              refine ⟨_, _, rfl, ?_, ?_⟩
              · exact (hi.turn T5 fun k hk e => by omega).mono fun k _ hk => ⟨by omega, fun e => by have := (hv1 k e).2; omega⟩
              · exact (hwd.fresh hb05).mono fun k _ hk => ⟨hk.1, fun e => by have := (hv1 k e).1; have := hk.2; omega⟩
            obtain ⟨gA, capA, wA, hrun, hown, hgr, hat⟩ := rowO_append ((HS.out.fresh hb05).own) ((HS.out.fresh hb05).bel.size) (by have := HLN.out; omega) ⟨0, mvO L 0 (H.ob x), Au, cu, ob, od⟩ 69
            have NEXT := Lib.hid ((HS.out.fresh hb05).push hown hgr hat hob5)
            simp only [It.arr5, mvO, List.length_map] at hrun

            have c4 := cellsH hrb
            have f4 := freeH hrb
            have c5 := cellsH hr5
            clear hob5 hown hgr hat hv1 hb05 hr5 T5 hb04 hrb hu hb4 hB cb hc hlk0 hrf hwd
            go_upto_region 16 with (fail)
            generalize w4.setCell ⟨wr.heap.size, 3, none⟩ (.slice Au (H.ob x).refs.length cu) = WW at *
            go_wp2_with (at_builtin; refine wpList_append_run _ rfl _ _ 69 rfl _ _ rfl rfl _ _ hrun ?_)
            go_roundw
            case rel =>
              refine ⟨k + 1, l ++ [⟨0, mvO L 0 (H.ob x), Au, cu, ob, od⟩], by omega, by go_num, by simp [HLN.out], ?_⟩
              rw [take_snocG _ HX.out]
              simpa using NEXT.out
            case measure => simp [intOf]; omega
          · have he : k = L.length := by omega
            subst he
            rw [List.take_length] at hs
            have HSE := Lib.hid hs
            have HTOr := Lib.hid (IntMap.below HMA.out hs.bel)
            have HBr := Lib.hid (below_then HB1.out hz1 (below_then HB.out (by omega) hs.bel))
            obtain ⟨wb, hwb⟩ : ∃ W : World, W = wr := ⟨_, rfl⟩
            subst hwb
            clear hs hln
            go_wp2_with fail
            refine (replaced_any ok wb _ roots w1.heap.size (posM 0 L) (HR.out.fresh HBr.out) HTOr.out (posM0_wf hll)).mono ?_
            rintro e w4 ⟨u, rfl, hu, huw, hb4⟩
            obtain ⟨Au, cu, rfl⟩ := row_shape hu
            have hl1 : roots.length = (roots.map (via (posM 0 L))).length := by simp
            have hrl := HR.out.len
            have hu' : w4.ownsRow wb.heap.size 3 1 (.slice Au roots.length cu) (roots.map (via (posM 0 L))).length ((roots.map (via (posM 0 L))).map (Value.int .i64)) := by rw [← hl1]; exact hu
            have hzb := HBr.out.size
            have hi := (ints_row hu' (by rw [← hl1]; omega) huw).mono (ok' := (w.heap.size ≤ ·)) (fun k _ hk => by omega)
            have hmap : roots.map (via (posM 0 L)) = roots.map (mv L 0) := List.map_congr_left fun x _ => via_posM HND.out x
            rw [hmap] at hi
            have HI := Lib.hid hi
            have HB4 := Lib.hid (below_then HBr.out hzb hb4)
            have HS4 := Lib.hid (HSE.out.fresh hb4)
            clear hu hu' huw hi hb4 hl1 hmap
            go_wp2_with fail
            refine bodyPost_ret (v := .tuple #[.slice Au roots.length cu, .slice Av l.length cv, .int .i64 0]) (by simp [results, Try.results39, go_sem]) rfl ?_
            refine ⟨HB4.out, (fun e => by rw [HLV.out] at e; cases e), fun L' e => ?_⟩
            rw [HLV.out] at e
            cases e
            exact ⟨_, _, l, rfl, HI.out, HS4.out.own.base (by omega), HS4.out.abs, fun x hx => (HS4.out.obs x hx).mono fun k _ hk => hk.1⟩
end Go.Proofs.Ytobniolmielikaa

/- The collector's law: contents; no condition. -/
namespace Go.Proofs.Ytobniolmielikaa
open Go.RowKit

set_option maxHeartbeats 1000000 in
theorem contents_any (ok : Nat → Prop) (w : World) (v : Value) (l : List It) (h : Raw ok w v l) (hd : (l.map (·.a)).Nodup) (ho : ∀ x ∈ l, ObAt ok w x.val x.o) (hok : ∀ k, ok k → k < w.heap.size) :
    Calls Try.prog 67 #[v] w fun e w' => ∃ b, e = .returned (.map (some b)) ∧ ObjMapO ok w' b (absI l) ∧ w.heap.size ≤ b ∧ Below w.heap.size w w' := by
  obtain ⟨A, c, rfl⟩ := h.shape
  have hlen := h.len
  have H := Lib.hid h
  have HO := Lib.hid ho
  have HD := Lib.hid hd
  have OK := Lib.hid hok
  clear h ho hd hok
  have hmm := @run_makeMap Try.prog
  go_enter Try.func67, Try.ntmps67
  go_wp2_with fail
  go_loopw [4] (fun i wr => ∃ k : Nat, k ≤ l.length ∧ i = .int .i64 k ∧ ItmAt ok w l k wr) (fun i _ => l.length - (intOf i).toNat)
  case atStart => exact ⟨0, Nat.zero_le _, rfl, ⟨⟨[], MapAt.made w, .nil⟩, (Below.refl _ _).alloc (Nat.le_refl _) _⟩⟩
  case round =>
    obtain ⟨k, hk, rfl, hm⟩ := hrel
    by_cases hlt : k < l.length
    · have hx := List.getElem?_eq_getElem hlt
      generalize l[k] = x at hx
      have hox := HO.out x (List.mem_of_getElem? hx)
      obtain ⟨b, o, rfl, hat⟩ := (H.out.fresh hm.bel).at hx
      have hnew : x.a ∉ (absI (l.take k)).map (·.1) := by
        intro hin
        simp only [absI, List.map_map, List.mem_map] at hin
        obtain ⟨y, hy, e⟩ := hin
        obtain ⟨j, hj⟩ := List.getElem?_of_mem hy
        rw [List.getElem?_take] at hj
        split at hj
        · rename_i hjk
          have hp := List.pairwise_iff_getElem.1 HD.out
          have hjl := (List.getElem?_eq_some_iff.1 hj).1
          refine hp j k (by simpa using hjl) (by simpa using hlt) hjk ?_
          have e1 := (List.getElem?_eq_some_iff.1 hj).2
          have e2 := (List.getElem?_eq_some_iff.1 hx).2
          simp only [List.getElem_map, e1, e2]
          exact e
        · cases hj
      have HM := Lib.hid hm
      have HX := Lib.hid hx
      have HNEW := Lib.hid hnew
      have HOX := Lib.hid (hox.fresh hm.bel)
      have i0 := (hat.keep (w' := wr.drew) rfl).all
      obtain ⟨L, hma, hka⟩ := hm.map
      have HMA := Lib.hid hma
      have HKA := Lib.hid hka
      have bne : b < w.heap.size ∨ w.heap.size ≤ b := by omega
      have hbw : b ≠ w.heap.size := by
        rintro rfl
        obtain ⟨es, cl, hes, _⟩ := hma
        have := hat.c0
        simp [World.cell?, hes] at this
      have i1 : ∀ w' : World, Turn (· = w.heap.size) wr.drew w' → _ := fun w' ht => (hat.keep (w' := w') ((ht.block b (World.block_lt_of_cell? wr ⟨b, o + k * 6, none⟩ hat.c0) hbw))).all
      obtain ⟨w6, hrun, hm6, ht6, hs6⟩ := run_update_map (P := Try.prog) (t := 52) (k := 3) (e := 25) Try.underlying52 Try.underlying3 hma.drew x.a (.agg #[.int .i64 x.o.op, .int .i64 x.o.n, .int .i64 x.o.ar, .slice x.ra x.o.refs.length x.rc, .slice x.wa x.o.words.length x.wc])
      have i2 := i1 w6 ht6
      have HM6 := Lib.hid hm6
      have HT6 := Lib.hid ht6
      have HS6 := Lib.hid hs6
      clear hm hx hat hox hnew hma hka i1 bne hm6 ht6 hs6
      go_upto_region 5 with (fail)
      go_region_held3 (fun w' => w'.cell? ⟨b, o + k * 6, none⟩ = some (.int .i64 x.a) ∧ w'.cell? ⟨b, o + k * 6 + 1, none⟩ = some (.int .i64 x.o.op) ∧ w'.cell? ⟨b, o + k * 6 + 2, none⟩ = some (.int .i64 x.o.n) ∧ w'.cell? ⟨b, o + k * 6 + 3, none⟩ = some (.int .i64 x.o.ar) ∧
          w'.cell? ⟨b, o + k * 6 + 4, none⟩ = some (.slice x.ra x.o.refs.length x.rc) ∧ w'.cell? ⟨b, o + k * 6 + 5, none⟩ = some (.slice x.wa x.o.words.length x.wc))
        (first | with_reducible exact i0 | with_reducible exact i2)
        (first | fail)
      clear i0 i2 hrun
      rename_i hHeld
      clear hHeld
      go_wp2_with fail
      go_roundw
      case rel =>
        have hnL : x.a ∉ L.map (·.1) := by rw [HKA.out.keys]; exact HNEW.out
        have hm := HM6.out
        rw [put_new hnL] at hm
        have hb := HM.out.bel
        refine ⟨k + 1, by omega, by go_num, ⟨⟨_, hm, ?_⟩, (HM.out.bel.drew).trans (HT6.out.below (by have := hb.size; simpa using this) (fun q e => by omega))⟩⟩
        rw [take_snoc HX.out]
        simp only [absI, List.map_append, List.map_cons, List.map_nil]
        have hno : ∀ q, ok q → ¬ q = w.heap.size := fun q hq e => by have := OK.out q hq; omega
        exact forall2_append (HKA.out.imp fun p q g => (g.fresh (Below.refl _ _).drew).turn HT6.out hno) (.cons ⟨rfl, (HOX.out.fresh (Below.refl _ _).drew).turn HT6.out hno⟩ .nil)
      case measure => simp [intOf]; omega
    · have he : k = l.length := by omega
      have hmp := hm.map
      rw [he, List.take_length] at hmp
      have HMP := Lib.hid hmp
      have HB := Lib.hid hm.bel
      clear he hmp hm
      go_wp2_with fail
      go_ret
      exact ⟨_, rfl, HMP.out, Nat.le_refl _, HB.out⟩
end Go.Proofs.Ytobniolmielikaa

/- The collector's law: contents, of whatever items; no condition. -/
namespace Go.Proofs.Ytobniolmielikaa
open Go.RowKit

/-- The map of items: the last of an address counts. -/
def cont (l : List It) : List (Int × Ob) := l.foldl (fun m x => put m x.a x.o) []
theorem cont_take {l : List It} {k : Nat} {x : It} (hx : l[k]? = some x) : cont (l.take (k + 1)) = put (cont (l.take k)) x.a x.o := by
  unfold cont
  rw [List.take_add_one, hx]
  simp
/-- Where contents stands. -/
structure CntAt (ok : Nat → Prop) (w : World) (l : List It) (k : Nat) (W : World) : Prop where
  map : ObjMapO ok W w.heap.size (cont (l.take k))
  bel : Below w.heap.size w W

set_option maxHeartbeats 1000000 in
theorem contents2_any (ok : Nat → Prop) (w : World) (v : Value) (l : List It) (h : Raw ok w v l) (ho : ∀ x ∈ l, ObAt ok w x.val x.o) (hok : ∀ k, ok k → k < w.heap.size) :
    Calls Try.prog 67 #[v] w fun e w' => ∃ b, e = .returned (.map (some b)) ∧ ObjMapO ok w' b (cont l) ∧ w.heap.size ≤ b ∧ Below w.heap.size w w' := by
  obtain ⟨A, c, rfl⟩ := h.shape
  have hlen := h.len
  have H := Lib.hid h
  have HO := Lib.hid ho
  have OK := Lib.hid hok
  clear h ho hok
  have hmm := @run_makeMap Try.prog
  go_enter Try.func67, Try.ntmps67
  go_wp2_with fail
  go_loopw [4] (fun i wr => ∃ k : Nat, k ≤ l.length ∧ i = .int .i64 k ∧ CntAt ok w l k wr) (fun i _ => l.length - (intOf i).toNat)
  case atStart => exact ⟨0, Nat.zero_le _, rfl, ⟨⟨[], MapAt.made w, .nil⟩, (Below.refl _ _).alloc (Nat.le_refl _) _⟩⟩
  case round =>
    obtain ⟨k, hk, rfl, hm⟩ := hrel
    by_cases hlt : k < l.length
    · have hx := List.getElem?_eq_getElem hlt
      generalize l[k] = x at hx
      have hox := HO.out x (List.mem_of_getElem? hx)
      obtain ⟨b, o, rfl, hat⟩ := (H.out.fresh hm.bel).at hx
      have HM := Lib.hid hm
      have HX := Lib.hid hx
      have HOX := Lib.hid (hox.fresh hm.bel)
      have i0 := (hat.keep (w' := wr.drew) rfl).all
      obtain ⟨L, hma, hka⟩ := hm.map
      have HMA := Lib.hid hma
      have HKA := Lib.hid hka
      have bne : b < w.heap.size ∨ w.heap.size ≤ b := by omega
      have hbw : b ≠ w.heap.size := by
        rintro rfl
        obtain ⟨es, cl, hes, _⟩ := hma
        have := hat.c0
        simp [World.cell?, hes] at this
      have i1 : ∀ w' : World, Turn (· = w.heap.size) wr.drew w' → _ := fun w' ht => (hat.keep (w' := w') ((ht.block b (World.block_lt_of_cell? wr ⟨b, o + k * 6, none⟩ hat.c0) hbw))).all
      obtain ⟨w6, hrun, hm6, ht6, hs6⟩ := run_update_map (P := Try.prog) (t := 52) (k := 3) (e := 25) Try.underlying52 Try.underlying3 hma.drew x.a (.agg #[.int .i64 x.o.op, .int .i64 x.o.n, .int .i64 x.o.ar, .slice x.ra x.o.refs.length x.rc, .slice x.wa x.o.words.length x.wc])
      have i2 := i1 w6 ht6
      have HM6 := Lib.hid hm6
      have HT6 := Lib.hid ht6
      have HS6 := Lib.hid hs6
      clear hm hx hat hox hma hka i1 bne hm6 ht6 hs6
      go_upto_region 5 with (fail)
      go_region_held3 (fun w' => w'.cell? ⟨b, o + k * 6, none⟩ = some (.int .i64 x.a) ∧ w'.cell? ⟨b, o + k * 6 + 1, none⟩ = some (.int .i64 x.o.op) ∧ w'.cell? ⟨b, o + k * 6 + 2, none⟩ = some (.int .i64 x.o.n) ∧ w'.cell? ⟨b, o + k * 6 + 3, none⟩ = some (.int .i64 x.o.ar) ∧
          w'.cell? ⟨b, o + k * 6 + 4, none⟩ = some (.slice x.ra x.o.refs.length x.rc) ∧ w'.cell? ⟨b, o + k * 6 + 5, none⟩ = some (.slice x.wa x.o.words.length x.wc))
        (first | with_reducible exact i0 | with_reducible exact i2)
        (first | fail)
      clear i0 i2 hrun
      rename_i hHeld
      clear hHeld
      go_wp2_with fail
      go_roundw
      case rel =>
        have hb := HM.out.bel
        have hno : ∀ q, ok q → q ≠ w.heap.size := fun q hq e => by have := OK.out q hq; omega
        refine ⟨k + 1, by omega, by go_num, ⟨?_, (HM.out.bel.drew).trans (HT6.out.below (by have := hb.size; simpa using this) (fun q e => by omega))⟩⟩
        rw [cont_take HX.out]
        exact ObjMapO.put (HKA.out.imp fun p q g => g.fresh (Below.refl _ _).drew) HM6.out HT6.out (HOX.out.fresh (Below.refl _ _).drew) hno
      case measure => simp [intOf]; omega
    · have he : k = l.length := by omega
      have hmp := hm.map
      rw [he, List.take_length] at hmp
      have HMP := Lib.hid hmp
      have HB := Lib.hid hm.bel
      clear he hmp hm
      go_wp2_with fail
      go_ret
      exact ⟨_, rfl, HMP.out, Nat.le_refl _, HB.out⟩
end Go.Proofs.Ytobniolmielikaa

/- The reference heap's items of a map; no condition. -/
namespace Go.Proofs.Ytobniolmielikaa
open Go.RowKit

theorem own_made60 (w : World) : Own w.heap.size (w.alloc (.cells #[] 97)) (.slice (some ⟨w.heap.size, 0, none⟩) 0 0) [] := own_made0 w
/-- Where items stands. -/
structure ItsO (ok : Nat → Prop) (w : World) (r b : Nat) (m done todo : List (Int × Ob)) (v : Value) (l : List It) (W : World) : Prop where
  own : Own w.heap.size W v l
  abs : absI l = srtI done
  len : l.length = done.length
  obs : ∀ x ∈ l, ObAt ok W x.val x.o
  it : ObIterO ok W r b m todo
  perm : (done ++ todo).Perm m
  bel : Below w.heap.size w W

set_option maxHeartbeats 2000000 in
theorem items101_any (ok : Nat → Prop) (w : World) (b : Nat) (m : List (Int × Ob)) (h : ObjMapO ok w b m) (hok : ∀ k, ok k → k < w.heap.size) (hl : (m.length + 1) * 80 ≤ 140737488355328) :
    Calls Try.prog 101 #[.map (some b)] w fun e w' => ∃ v l done, e = .returned v ∧ Own w.heap.size w' v l ∧ done.Perm m ∧ absI l = srtI done ∧ (∀ x ∈ l, ObAt ok w' x.val x.o) ∧ Below w.heap.size w w' := by
  have hblt := h.lt
  have hb1 : Below w.heap.size w (w.alloc (.cells #[] 97)) := (Below.refl _ _).alloc (Nat.le_refl _) _
  obtain ⟨wi, hrun, hit, hwb, hws⟩ := ob_rangeO (h.fresh hb1)
  have hsz1 : (w.alloc (.cells #[] 97)).heap.size = w.heap.size + 1 := by simp
  rw [hsz1] at hrun hit hws
  have HST := Lib.hid (show ItsO ok w (w.heap.size + 1) b m [] m (.slice (some ⟨w.heap.size, 0, none⟩) 0 0) [] wi from ⟨(own_made60 w).fresh hwb, rfl, rfl, by simp, hit, .refl _, below_then hb1 (by simp) hwb⟩)
  have OK := Lib.hid hok
  clear h hit hwb hb1 hok
  go_enter Try.func101, Try.ntmps101
  go_wp2_with fail
  go_loopg [3] m.length (fun g v W => ∃ (done todo : List (Int × Ob)) (l : List It), g = todo.length ∧ ItsO ok w (w.heap.size + 1) b m done todo v l W)
  case atStart => exact ⟨[], m, [], rfl, HST.out⟩
  case round =>
    obtain ⟨done, todo, l, rfl, hst⟩ := hrel
    obtain ⟨Av, cv, rfl⟩ := hst.own.shape
    have hbs := hst.bel.size
    rcases ob_nextO hst.it (fun k hk e => by have := OK.out k hk; omega) 0 with ⟨h0, hrun⟩ | ⟨i, x, o, ra, wa, rc, wc, w', h1, hob, hrun, hit', ht, hs, hentry⟩
    · subst h0
      have HS := Lib.hid hst
      clear hst
      go_wp2_with fail
      go_ret
      exact ⟨_, l, done, rfl, HS.out.own, by simpa using HS.out.perm, HS.out.abs, HS.out.obs, HS.out.bel⟩
    · have hp' : ((done ++ [(x, o)]) ++ todo.eraseIdx i).Perm m := by
        rw [List.append_assoc]
        exact ((perm_erase todo i _ h1).append_left done).trans hst.perm
      have hlen : (todo.eraseIdx i).length < todo.length := by
        have := (List.getElem?_eq_some_iff.1 h1).1
        rw [List.length_eraseIdx_of_lt this]; omega
      have hmem : (x, o) ∈ m := hst.perm.mem_iff.1 (List.mem_append_right _ (List.mem_of_getElem? h1))
      have hnr : ¬ IsRow 97 w' (w.heap.size + 1) := by
        obtain ⟨_, _, ⟨es, clock, si, se, la, _, _, h9, _⟩, _⟩ := hit'
        rintro ⟨cs, f, h2⟩
        rw [h9] at h2
        simp at h2
      have hown' := hst.own.kept (w' := w') (fun g hg => ht.block g (hst.own.lt g hg).2 (fun e => by
        obtain ⟨_, _, ⟨es, clock, si, se, la, _, _, h9, _⟩, _⟩ := hst.it
        obtain ⟨_, cs, f, h2⟩ := hst.own.row hg
        rw [e, h9] at h2
        simp at h2))
      have hbel' : Below w.heap.size w w' := hst.bel.trans (ht.below hbs (fun k e => by omega))
      have hdl : done.length ≤ m.length := by
        have := hst.perm.length_eq
        rw [List.length_append] at this
        omega
      have hll := hst.len
      have hnd := hit'.map.nodup
      obtain ⟨lm, hlm, hkm⟩ := hit'.map
      have hgo : ∃ ra2 rc2 wa2 wc2, (∀ W : World, W.heap[b]? = w'.heap[b]? → (Instr.lookup 52 (.map (some b)) (.int .i64 x) false).run Try.prog W = .ok (.agg #[.int .i64 o.op, .int .i64 o.n, .int .i64 o.ar, .slice ra2 o.refs.length rc2, .slice wa2 o.words.length wc2]) W) ∧
          ObAt ok w' (.agg #[.int .i64 o.op, .int .i64 o.n, .int .i64 o.ar, .slice ra2 o.refs.length rc2, .slice wa2 o.words.length wc2]) o := run_lookup_obj ⟨lm, hlm, hkm⟩ ((get_mem hnd).2 hmem)
      obtain ⟨ra2, rc2, wa2, wc2, hlk, hov⟩ := hgo
      have hlk0 := hlk w' rfl
      have hraw := hown'.raw (by omega)
      have HRAW := Lib.hid hraw
      have HOV := Lib.hid hov
      have HOBS := Lib.hid (show ∀ z ∈ l, ObAt ok w' z.val z.o from fun z hz => (hst.obs z hz).turn ht (fun k hk e => by have := OK.out k hk; omega))
      have HIT := Lib.hid hit'
      have HP := Lib.hid hp'
      have HBEL := Lib.hid hbel'
      have HAB := Lib.hid hst.abs
      have HLEN := Lib.hid hll
      clear hst h1 hob hit' ht hp' hmem hnr hown' hbel' hnd hlm hkm hlk hov hraw hll
      go_wp2_with fail
      refine (merge_any _ w' _ l ⟨x, o, ra2, rc2, wa2, wc2⟩ HRAW.out (by have := HLEN.out; omega)).mono ?_
      rintro e w3 ⟨v3, rfl, hown3, hb3⟩
      have HO3 := Lib.hid hown3
      have HB3 := Lib.hid hb3
      have hw3 := HBEL.out.size
      clear hown3 hb3 hlk0
      go_wp2_with fail
      go_roundg (todo.eraseIdx i).length
      case measure => exact hlen
      case rel =>
        refine ⟨done ++ [(x, o)], todo.eraseIdx i, mrg l ⟨x, o, ra2, rc2, wa2, wc2⟩, rfl, ⟨HO3.out.base (by omega), ?_, ?_, ?_, HIT.out.fresh HB3.out, HP.out, below_then HBEL.out hw3 HB3.out⟩⟩
        · rw [abs_mrg, HAB.out]
          simp [srtI]
        · rw [mrg_length, HLEN.out, List.length_append]
          rfl
        · intro y hy
          rcases mrg_mem hy with hy | rfl
          · exact (HOBS.out y hy).fresh HB3.out
          · exact HOV.out.fresh HB3.out
end Go.Proofs.Ytobniolmielikaa

/- The reference heap's Replace; no condition. -/
namespace Go.Proofs.Ytobniolmielikaa
open Go.RowKit

theorem asc_eq {l m : List (Int × Ob)} (h1 : Asc l) (h2 : Asc m) (p : l.Perm m) : l = m := by
  refine List.Perm.eq_of_pairwise (le := fun p q : Int × Ob => p.1 < q.1) ?_ h1 h2 p
  intro a b _ _ h h'
  exfalso
  exact absurd h' (by have : a.1 < b.1 := h; show ¬ b.1 < a.1; omega)
theorem srtI_perm {l m : List (Int × Ob)} (hd : (m.map (·.1)).Nodup) (p : l.Perm m) : srtI l = srtI m := by
  have hd2 : (l.map (·.1)).Nodup := (p.map _).nodup_iff.2 hd
  obtain ⟨a1, p1⟩ := srtI_both hd
  obtain ⟨a2, p2⟩ := srtI_both hd2
  exact asc_eq a2 a1 (p2.trans (p.trans p1.symm))
theorem repl_perm {G : HM} {l1 l2 m1 m2 : List (Int × Ob)} (p1 : l1.Perm m1) (p2 : l2.Perm m2) (hd : (m2.map (·.1)).Nodup) : G.repl l1 l2 = G.repl m1 m2 := by
  have hm : meets l1 l2 = meets m1 m2 := by
    rw [meets_perm p1]
    unfold meets
    congr 1
    funext q
    rw [get_perm p2 ((p2.map _).nodup_iff.2 hd)]
  unfold HM.repl
  rw [fitB_perm p1, fitB_perm p2, hm, p1.length_eq, p2.length_eq]
theorem rput_perm {G G' : HM} {l1 l2 m1 m2 : List (Int × Ob)} (p1 : l1.Perm m1) (p2 : l2.Perm m2) (hd1 : (m1.map (·.1)).Nodup) (hd2 : (m2.map (·.1)).Nodup) (h : RPut G l1 l2 G') : RPut G m1 m2 G' := by
  have e := repl_perm (G := G) p1 p2 hd2
  refine ⟨fun hn => h.no (by rw [e]; exact hn), fun h0 => ?_⟩
  rw [h.yes (by rw [e]; exact h0), srtI_perm hd1 p1, srtI_perm hd2 p2, nxt_perm (p1.append p2)]

set_option maxHeartbeats 2000000 in
theorem rreplace_any (base : Nat) (ok : Nat → Prop) (w : World) (r : Nat) (NV AV : Value) (R : RM) (b1 b2 : Nat) (m1 m2 : List (Int × Ob)) (hh : RHeapAt base w r NV AV R) (hbase : base ≤ w.heap.size) (hs0 : R.s0 ≤ 65536) (hs1 : R.s1 ≤ 65536) (hnx : 0 ≤ R.next)
    (h1 : ObjMapO ok w b1 m1) (h2 : ObjMapO ok w b2 m2) (hok : ∀ k, ok k → k < w.heap.size) (hokr : ∀ k, ok k → k ≠ r) (hl : (m1.length + m2.length + 1) * 80 ≤ 140737488355328) :
    Calls Try.prog 68 #[.pointer (some ⟨r, 0, none⟩), .map (some b1), .map (some b2)] w fun e w' => e = .returned (.int .i64 (R.abs.repl m1 m2)) ∧
      ∃ NV' AV' R', RHeapAt base w' r NV' AV' R' ∧ RPut R.abs m1 m2 R'.abs ∧ Turn (RB r NV AV) w w' := by
  have HH := Lib.hid hh
  have H1 := Lib.hid h1
  have H2 := Lib.hid h2
  have OK := Lib.hid hok
  have OKR := Lib.hid hokr
  have hrl := hh.lt
  have G1 := Lib.hid (show (m1.length + 1) * 80 ≤ 140737488355328 from Nat.le_trans (Nat.mul_le_mul_right 80 (Nat.succ_le_succ (Nat.le_add_right m1.length m2.length))) hl)
  have G2 := Lib.hid (show (m2.length + 1) * 80 ≤ 140737488355328 from Nat.le_trans (Nat.mul_le_mul_right 80 (Nat.succ_le_succ (Nat.le_add_left m2.length m1.length))) hl)
  have G3 := Lib.hid hl
  clear hh h1 h2 hok hokr hl
  go_enter Try.func68, Try.ntmps68
  go_wp2_with fail
  refine (items101_any ok w b1 m1 H1.out OK.out G1.out).mono ?_
  rintro e w1 ⟨v1, l1, d1, rfl, hown1, hp1, ha1, ho1, hb1⟩
  have HO1 := Lib.hid hown1
  have HB1 := Lib.hid hb1
  have HP1 := Lib.hid hp1
  have HA1 := Lib.hid ha1
  have HX1 := Lib.hid ho1
  have hz1 := hb1.size
  clear hown1 hp1 ha1 ho1 hb1
  go_wp2_with fail
  refine (items101_any ok w1 b2 m2 (H2.out.fresh HB1.out) (fun k hk => by have := OK.out k hk; omega) G2.out).mono ?_
  rintro e w2 ⟨v2, l2, d2, rfl, hown2, hp2, ha2, ho2, hb2⟩
  have HO2 := Lib.hid hown2
  have HB2 := Lib.hid hb2
  have HP2 := Lib.hid hp2
  have HA2 := Lib.hid ha2
  have HX2 := Lib.hid ho2
  have hl1 : l1.length = m1.length := by
    have := congrArg List.length HA1.out
    rw [absI_length, srtI_length, HP1.out.length_eq] at this
    exact this
  have hl2 : l2.length = m2.length := by
    have := congrArg List.length HA2.out
    rw [absI_length, srtI_length, HP2.out.length_eq] at this
    exact this
  have HL1 := Lib.hid hl1
  have HL2 := Lib.hid hl2
  have hz2 := hb2.size
  have HB02 := Lib.hid (below_then HB1.out hz1 hb2)
  clear hown2 hp2 ha2 ho2 hb2 hl1 hl2
  go_wp2_with fail
  refine (rput_any base (fun k => k ≠ r) w2 r NV AV v1 v2 R l1 l2 (HH.out.fresh HB02.out) (by omega) hs0 hs1 hnx
    (((HO1.out.fresh HB2.out).raw (by rw [HL1.out]; exact Nat.le_trans (Nat.mul_le_mul_right 80 (Nat.le_succ _)) G1.out)).mono fun k _ hk => by have := hk.1; omega)
    ((HO2.out.raw (by rw [HL2.out]; exact Nat.le_trans (Nat.mul_le_mul_right 80 (Nat.le_succ _)) G2.out)).mono fun k _ hk => by have := hk.1; omega) (by rw [HL1.out, HL2.out]; exact Nat.le_trans (Nat.mul_le_mul_right 80 (Nat.le_succ _)) G3.out)
    (fun x hx => by
      rcases List.mem_append.1 hx with hx | hx
      · exact ((HX1.out x hx).fresh HB2.out).mono fun k _ hk => OKR.out k hk
      · exact (HX2.out x hx).mono fun k _ hk => OKR.out k hk) (fun b hb => hb)).mono ?_
  rintro e w3 ⟨rfl, NV', AV', R', hR', hput, ht⟩
  have q1 : (absI l1).Perm m1 := by rw [HA1.out]; exact (srtI_both ((HP1.out.map _).nodup_iff.2 H1.out.nodup)).2.trans HP1.out
  have q2 : (absI l2).Perm m2 := by rw [HA2.out]; exact (srtI_both ((HP2.out.map _).nodup_iff.2 H2.out.nodup)).2.trans HP2.out
  have HPUT := Lib.hid (rput_perm q1 q2 H1.out.nodup H2.out.nodup hput)
  have HE := Lib.hid (repl_perm (G := R.abs) q1 q2 H2.out.nodup)
  have HR := Lib.hid hR'
  have HT := Lib.hid ((below_turn HB02.out (RB r NV AV)).trans ht)
  rw [HE.out]
  clear hR' hput ht q1 q2
  go_wp2_with fail
  go_ret
  exact ⟨rfl, NV', AV', R', HR.out, HPUT.out, HT.out⟩
end Go.Proofs.Ytobniolmielikaa

/- The collector's law: made; no condition. -/
namespace Go.Proofs.Ytobniolmielikaa
open Go.RowKit

/-- Two heaps that made has made. -/
structure MadeAt (w w' : World) (n o : Int) (l1 l2 : List It) (h y a r : Nat) (NV AV : Value) (H : HM) (R : RM) : Prop where
  two : Two w.heap.size w' h y a r NV AV H R
  ok : newOk n o = true
  zero : (HM.mk n o 0 [] []).repl (cont l1) (cont l2) = 0
  rp : Repl ⟨n, o, 0, [], []⟩ (cont l1) (cont l2) H
  rq : RPut ⟨n, o, 0, [], []⟩ (cont l1) (cont l2) R.abs
  d1 : ((cont l1).map (·.1)).Nodup
  d2 : ((cont l2).map (·.1)).Nodup

/-- Where nothing is made. -/
def MadeNo (n o : Int) (l1 l2 : List It) : Prop := ¬ (newOk n o = true ∧ (HM.mk n o 0 [] []).repl (cont l1) (cont l2) = 0)
/-- How made ends. -/
def MadeEnd (w : World) (n o : Int) (l1 l2 : List It) (e : Ending) (w' : World) : Prop := Below w.heap.size w w' ∧ ((e = .returned (.tuple #[.pointer none, .pointer none]) ∧ MadeNo n o l1 l2) ∨
      ∃ h y a r NV AV H R, e = .returned (.tuple #[.pointer (some ⟨h, 0, none⟩), .pointer (some ⟨r, 0, none⟩)]) ∧ MadeAt w w' n o l1 l2 h y a r NV AV H R)
theorem box62 {W : World} {g : Nat} {a b c d : Value} (h : W.heap[g]? = some (.cells #[a, b, c, d] 62)) : W.cell? ⟨g, 0, none⟩ = some a ∧ W.cell? ⟨g, 1, none⟩ = some b ∧ W.cell? ⟨g, 2, none⟩ = some c ∧ W.cell? ⟨g, 3, none⟩ = some d :=
  ⟨by simpa using cellsH h 0, by simpa using cellsH h 1, by simpa using cellsH h 2, by simpa using cellsH h 3⟩
theorem put_length_le {β : Type} (l : List (Int × β)) (k : Int) (v : β) : (put l k v).length ≤ l.length + 1 := by
  unfold put
  split <;> simp
theorem cont_length (l : List It) : (cont l).length ≤ l.length := by
  have go : ∀ (l : List It) (m : List (Int × Ob)), (l.foldl (fun m x => put m x.a x.o) m).length ≤ m.length + l.length := by
    intro l
    induction l with
    | nil => intro m; simp
    | cons x l ih =>
      intro m
      have h1 := ih (put m x.a x.o)
      have h2 : (put m x.a x.o).length ≤ m.length + 1 := put_length_le m x.a x.o
      simp only [List.foldl_cons, List.length_cons]
      omega
  have := go l []
  simpa [cont] using this

set_option maxRecDepth 100000 in
set_option maxHeartbeats 4000000 in
theorem made34_any (ok : Nat → Prop) (w : World) (n o : Int) (v1 v2 : Value) (l1 l2 : List It) (h1 : Raw ok w v1 l1) (h2 : Raw ok w v2 l2) (ho1 : ∀ x ∈ l1, ObAt ok w x.val x.o) (ho2 : ∀ x ∈ l2, ObAt ok w x.val x.o) (hok : ∀ k, ok k → k < w.heap.size) (hl : (l1.length + l2.length + 1) * 80 ≤ 140737488355328) :
    Calls Try.prog 34 #[.agg #[.int .i64 n, .int .i64 o, v1, v2]] w (MadeEnd w n o l1 l2) := by
  obtain ⟨A1, c1, rfl⟩ := h1.shape
  obtain ⟨A2, c2, rfl⟩ := h2.shape
  have H1 := Lib.hid h1
  have H2 := Lib.hid h2
  have HO1 := Lib.hid ho1
  have HO2 := Lib.hid ho2
  have OK := Lib.hid hok
  have HL := Lib.hid hl
  clear h1 h2 ho1 ho2 hok hl
  have hb0 : Below w.heap.size w (w.alloc (.cells #[.int .i64 n, .int .i64 o, .slice A1 l1.length c1, .slice A2 l2.length c2] 62)) := (Below.refl _ _).alloc (Nat.le_refl _) _
  have HB0 := Lib.hid hb0
  clear hb0
  go_enter Try.func34, Try.ntmps34
  cases hn : newOk n o with
  | false =>
    have HN := Lib.hid hn
    clear hn
    go_wp2_with fail
    refine (new_no n o _ HN.out).mono ?_
    rintro e w1 ⟨rfl, rfl⟩
    have c0 := box62 (show (w.alloc (.cells #[.int .i64 n, .int .i64 o, .slice A1 l1.length c1, .slice A2 l2.length c2] 62)).heap[w.heap.size]? = _ from new0 _ _)
    go_wp2_with fail
    refine (rnew_no n o _ HN.out).mono ?_
    rintro e w1 ⟨rfl, rfl⟩
    go_wp2_with fail
    go_ret2
    unfold MadeEnd
    exact ⟨HB0.out, .inl ⟨rfl, fun hx => by rw [HN.out] at hx; exact absurd hx.1 (by simp)⟩⟩
  | true =>
    have HN := Lib.hid hn
    clear hn
    go_wp2_with fail
    refine (new_yes n o _ HN.out).mono ?_
    rintro e w1 ⟨h, y, a, rfl, hp, g1, g2, g3, hb1⟩
    have P1 := Lib.hid hp
    have x1 := rowB hb1 (new0 w _) (by simp)
    have X1 := Lib.hid x1
    have c1 := cellsH x1
    have B1 := Lib.hid (below_then HB0.out HB0.out.size hb1)
    have z1 := hb1.size
    simp only [World.size_alloc] at g1 g2 g3 z1
    clear hp hb1 x1
    go_wp2_with fail
    refine (rnew_yes w.heap.size n o _ HN.out).mono ?_
    rintro e w2 ⟨r, NV, AV, rfl, hq, g4, hb2⟩
    have T2 := Lib.hid (show Two w.heap.size w2 h y a r NV AV ⟨n, o, 0, [], []⟩ ⟨n, o, 0, [], []⟩ from ⟨P1.out.fresh hb2, hq, by omega, by omega, by omega, by omega⟩)
    have B2 := Lib.hid (below_then B1.out B1.out.size hb2)
    have x2 := rowB hb2 X1.out (heap_lt X1.out)
    have X2 := Lib.hid x2
    have z2 := hb2.size
    clear hq hb2 x2 c1
    have c2' := cellsH X2.out
    go_upto_region 5 with (fail)
    clear c2'
    have i0 := box62 (W := w2.drew) X2.out
    go_region_held3 (fun w' => w'.cell? ⟨w.heap.size, 0, none⟩ = some (.int .i64 n) ∧ w'.cell? ⟨w.heap.size, 1, none⟩ = some (.int .i64 o) ∧ w'.cell? ⟨w.heap.size, 2, none⟩ = some (.slice A1 l1.length c1) ∧ w'.cell? ⟨w.heap.size, 3, none⟩ = some (.slice A2 l2.length c2))
      (first | with_reducible exact i0 | with_reducible exact i1 | with_reducible exact i2)
      (first
        | (go_at_call 67; have hz := HC1; clear hz; refine (contents2_any ok w5 _ l2 (H2.out.fresh B5.out) (fun x hx => (HO2.out x hx).fresh B5.out) (fun k hk => by have := OK.out k hk; omega)).mono ?_; rintro e w6 ⟨b2, rfl, hm2, hg2, hb6⟩; have HC2 := Lib.hid hm2; have HB6 := Lib.hid hb6; have i2 := box62 (rowB hb6 X5.out (heap_lt X5.out)); clear hm2 hb6)
        | (go_at_call 67; refine (contents2_any ok w2.drew _ l1 ((H1.out.fresh B2.out).fresh (Below.refl _ _).drew) (fun x hx => ((HO1.out x hx).fresh B2.out).fresh (Below.refl _ _).drew) (fun k hk => by have := OK.out k hk; have := B2.out.size; simp; omega)).mono ?_; rintro e w5 ⟨b1, rfl, hm1, hg1, hb5⟩; have HC1 := Lib.hid hm1; have B25 := Lib.hid (undrew hb5); have X5 := Lib.hid (rowB (undrew hb5) X2.out (heap_lt X2.out)); have B5 := Lib.hid (below_then B2.out B2.out.size (undrew hb5)); have z5 := B5.out.size; have i1 := box62 X5.out; clear hm1 hb5))
    clear i0 i1 i2
    rename_i hHeld
    clear hHeld
    have z6 := HB6.out.size
    have hg1' : w2.heap.size ≤ b1 := hg1
    have T6 := Lib.hid ((T2.out.fresh B25.out).fresh HB6.out)
    have B6 := Lib.hid (below_then B5.out B5.out.size HB6.out)
    have zb2 := B2.out.size
    have hlt := T2.out.lt
    have z25 := B25.out.size
    have hkb : ∀ k, w.heap.size > k → ¬ HB h y a k := fun k hk e => by rcases e with e | e | e <;> omega
    have HKB := Lib.hid hkb
    clear hkb hg1
    go_wp2_with fail
    refine (replaceO_any ok w6 h y a b1 b2 ⟨n, o, 0, [], []⟩ (cont l1) (cont l2) T6.out.p (HC1.out.fresh HB6.out) HC2.out (fun k hk => by have := OK.out k hk; omega) (fun k hk => HKB.out k (OK.out k hk)) (by omega) (by omega) (by omega) (by omega)).mono ?_
    rintro e w7 ⟨rfl, H', hH', hrp, ht7⟩
    have T7 := Lib.hid (T6.out.prog ht7 hH')
    have B7 := Lib.hid (T6.out.pb ht7 B6.out.size)
    have HRP := Lib.hid hrp
    have nb1 : ¬ HB h y a b1 := fun e => by rcases e with e | e | e <;> omega
    have nb2 : ¬ HB h y a b2 := fun e => by rcases e with e | e | e <;> omega
    have M1 := Lib.hid ((HC1.out.fresh HB6.out).turn ht7 nb1 (fun k hk => HKB.out k (OK.out k hk)))
    have M2 := Lib.hid (HC2.out.turn ht7 nb2 (fun k hk => HKB.out k (OK.out k hk)))
    have z7 := ht7.size
    have hn4 : 1 ≤ n ∧ n ≤ 65536 ∧ 1 ≤ o ∧ o ≤ 65536 := by have := HN.out; simp [newOk] at this; omega
    have HLC := Lib.hid (show ((cont l1).length + (cont l2).length + 1) * 80 ≤ 140737488355328 from Nat.le_trans (Nat.mul_le_mul_right 80 (Nat.succ_le_succ (Nat.add_le_add (cont_length l1) (cont_length l2)))) HL.out)
    clear hH' hrp ht7 nb1 nb2
    go_wp2_with fail
    refine (rreplace_any w.heap.size ok w7 r NV AV ⟨n, o, 0, [], []⟩ b1 b2 (cont l1) (cont l2) T7.out.q (by omega) hn4.2.1 hn4.2.2.2 (Int.le_refl 0) M1.out M2.out (fun k hk => by have := OK.out k hk; omega) (fun k hk => by have := OK.out k hk; omega) HLC.out).mono ?_
    rintro e w8 ⟨rfl, NV', AV', R', hR', hput, ht8⟩
    have T8 := Lib.hid (T7.out.ref ht8 hR')
    have B8 := Lib.hid (B6.out.trans (B7.out.trans (T7.out.rb ht8 (by omega))))
    have HPUT := Lib.hid hput
    have hz : (RM.abs ⟨n, o, 0, [], []⟩).repl (cont l1) (cont l2) = (HM.mk n o 0 [] []).repl (cont l1) (cont l2) := rfl
    have ND1 := Lib.hid M1.out.nodup
    have ND2 := Lib.hid M2.out.nodup
    rw [hz]
    clear hz hR' hput ht8
    by_cases h0 : (HM.mk n o 0 [] []).repl (cont l1) (cont l2) = 0
    · have H0 := Lib.hid h0
      rw [h0]
      clear h0
      go_wp2_with fail
      go_ret2
      unfold MadeEnd
      exact ⟨B8.out, .inr ⟨h, y, a, r, NV', AV', H', R', rfl, ⟨T8.out, HN.out, H0.out, HRP.out, HPUT.out, ND1.out, ND2.out⟩⟩⟩
    · have hb : ((HM.mk n o 0 [] []).repl (cont l1) (cont l2) == 0) = false := by simpa using h0
      have NR := Lib.hid (show MadeNo n o l1 l2 from fun hx => h0 hx.2)
      clear h0
      generalize (HM.mk n o 0 [] []).repl (cont l1) (cont l2) = z at *
      have hne : ¬ z = 0 := by simpa using hb
      have HNE := Lib.hid hne
      go_wp2_with fail
      all_goals first
        | (exact absurd rfl HNE.out)
        | (go_ret2; unfold MadeEnd; exact ⟨B8.out, .inl ⟨rfl, NR.out⟩⟩)
end Go.Proofs.Ytobniolmielikaa

