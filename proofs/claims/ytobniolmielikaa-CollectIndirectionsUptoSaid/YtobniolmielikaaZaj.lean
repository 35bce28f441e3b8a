/- Texts of the collector's proof, joined: Que, Col3, Col4, Col5, Rcl1, Walk1, Rng. -/
import Derived.Test.YtobniolmielikaaZai
import Derived.Deep.AppendSrc
import Derived.Deep.Upon
import Derived.Test.YtobniolmielikaaZad
import Derived.Test.YtobniolmielikaaZae
import Derived.Test.YtobniolmielikaaZah
import Derived.Test.YtobniolmielikaaZac
import Derived.RangeFuncNested
import Derived.RangeFuncBound
import Derived.RangeFuncCalls
import Derived.RangeFuncLeaves
import Derived.Test.YtobniolmielikaaZaa
/- A queue of ints in memory: a slice anywhere in a row of the call's own; its head taken, a slice appended; no condition. -/
namespace Go.Proofs.Ytobniolmielikaa
open Go.RowKit

/-- v is a slice of the ints t, somewhere in a row of ints of the call's own. -/
def Que (base : Nat) (w : World) (v : Value) (t : List Int) : Prop :=
  (v = .slice none 0 0 ∧ t = []) ∨
  ∃ g off c cs, v = .slice (some ⟨g, off, none⟩) t.length c ∧ base ≤ g ∧ w.heap[g]? = some (.cells cs 3) ∧ t.length ≤ c ∧ c ≤ maxLen ∧ off + c ≤ cs.size ∧ (∀ (j : Nat) (x : Int), t[j]? = some x → cs[off + j]? = some (.int .i64 x)) ∧ ∀ x ∈ t, (Lit.int .i64 x).wf = true
theorem Que.kept {base : Nat} {w w' : World} {v : Value} {t : List Int} (h : Que base w v t) (hb : ∀ g, v.ownBlock = some g → w'.heap[g]? = w.heap[g]?) : Que base w' v t := by
  rcases h with h | ⟨g, off, c, cs, rfl, h1, h2, h3⟩
  · exact .inl h
  · exact .inr ⟨g, off, c, cs, rfl, h1, (hb g rfl).trans h2, h3⟩
theorem Que.lt {base : Nat} {w : World} {v : Value} {t : List Int} (h : Que base w v t) {g : Nat} (hg : v.ownBlock = some g) : base ≤ g ∧ g < w.heap.size ∧ IsRow 3 w g := by
  rcases h with ⟨rfl, _⟩ | ⟨g', off, c, cs, rfl, h1, h2, _⟩
  · cases hg
  · cases hg
    exact ⟨h1, heap_lt h2, cs, _, h2⟩
theorem Que.fresh {base : Nat} {w w' : World} {v : Value} {t : List Int} (h : Que base w v t) (hb : Below w.heap.size w w') : Que base w' v t := h.kept fun g hg => hb.block g (h.lt hg).2.1
theorem Que.turn {base : Nat} {S : Nat → Prop} {w w' : World} {v : Value} {t : List Int} (h : Que base w v t) (ht : Turn S w w') (hn : ∀ g, v.ownBlock = some g → ¬ S g) : Que base w' v t := h.kept fun g hg => ht.block g (h.lt hg).2.1 (hn g hg)
theorem Que.shape {base : Nat} {w : World} {v : Value} {t : List Int} (h : Que base w v t) : ∃ A c, v = .slice A t.length c ∧ t.length ≤ c := by
  rcases h with ⟨rfl, rfl⟩ | ⟨g, off, c, cs, rfl, _, _, h3, _⟩
  · exact ⟨none, 0, rfl, Nat.le_refl _⟩
  · exact ⟨_, c, rfl, h3⟩
theorem Que.wf {base : Nat} {w : World} {v : Value} {t : List Int} (h : Que base w v t) : ∀ x ∈ t, (Lit.int .i64 x).wf = true := by
  rcases h with ⟨rfl, rfl⟩ | ⟨g, off, c, cs, rfl, _, _, _, _, _, _, h⟩
  · intro x hx; simp at hx
  · exact h
theorem que_of_row {base : Nat} {w : World} {v : Value} {t : List Int} (h : w.ownsRow base 3 1 v t.length (t.map (Value.int .i64))) (hw : ∀ x ∈ t, (Lit.int .i64 x).wf = true) : Que base w v t := by
  obtain ⟨_, ⟨rfl, h0⟩ | ⟨g, cap, cur, rfl, hb, hg, h1, h2, h3, h4⟩⟩ := h
  · exact .inl ⟨rfl, List.eq_nil_of_length_eq_zero h0⟩
  · refine .inr ⟨g, 0, cap, cur, rfl, hb, hg, h1, h2, by omega, ?_, hw⟩
    intro j x hx
    have hj := (List.getElem?_eq_some_iff.1 hx).1
    have := congrArg (·[j]?) h4
    simp only [List.getElem?_map, hx, Option.map_some, List.getElem?_take] at this
    rw [if_pos (by omega)] at this
    simpa using this
/-- Its head. -/
theorem Que.head {base : Nat} {w : World} {A : Option Addr} {n c : Nat} {x : Int} {t : List Int} (h : Que base w (.slice A n c) (x :: t)) : ∃ gq off, A = some ⟨gq, off, none⟩ ∧ w.cell? ⟨gq, off, none⟩ = some (.int .i64 x) := by
  rcases h with ⟨_, h⟩ | ⟨g, off, c', cs, e, hb, hg, _, _, _, h, _⟩
  · cases h
  · cases e
    refine ⟨_, _, rfl, ?_⟩
    have := h 0 x rfl
    simpa [World.cell?, hg] using this
/-- 't[1:]'. -/
theorem Que.tail {base : Nat} {w : World} {A : Option Addr} {n c : Nat} {x : Int} {t : List Int} (h : Que base w (.slice A n c) (x :: t)) :
    ∃ B, Que base w (.slice B t.length (c - 1)) t ∧ (Value.slice B t.length (c - 1)).ownBlock = (Value.slice A n c).ownBlock ∧ ∀ W, (Instr.slice 23 (.slice A n c) (some (.int .i64 1)) none none).run Try.prog W = .ok (.slice B t.length (c - 1)) W := by
  rcases h with ⟨_, h⟩ | ⟨g, off, c', cs, e, hb, hg, h1, h2, h3, h4, h5⟩
  · cases h
  · cases e
    simp only [List.length_cons] at h1
    have hel : Try.prog.underlying 23 = some (.slice (Try.prog.elem 23)) := by kernel_rfl
    have hsz : ∀ W : World, (sizeOf (Try.prog.elem 23)).run Try.prog W = .ok 1 W := fun W => by kernel_rfl
    refine ⟨if c = 1 then some ⟨g, off, none⟩ else some ⟨g, off + 1, none⟩, ?_, ?_, fun W => ?_⟩
    · by_cases e : c = 1
      · subst e
        have : t = [] := List.eq_nil_of_length_eq_zero (by omega)
        subst this
        exact .inr ⟨g, off, 0, cs, by simp, hb, hg, by simp, by simp [maxLen], by omega, by simp, by simp⟩
      · rw [if_neg e]
        refine .inr ⟨g, off + 1, c - 1, cs, rfl, hb, hg, by omega, by omega, by omega, ?_, fun y hy => h5 y (by simp [hy])⟩
        intro j y hy
        have := h4 (j + 1) y (by simpa using hy)
        rwa [show off + (j + 1) = off + 1 + j by omega] at this
    · by_cases e : c = 1 <;> simp [e, Value.ownBlock]
    · have := run_slice_l (P := Try.prog) W 23 (some ⟨g, off, none⟩) (x :: t).length c hel .i64 1 (by simp) (by simp; omega)
      show (Instr.slice 23 (.slice (some ⟨g, off, none⟩) (x :: t).length c) (some (.int .i64 1)) none none).run Try.prog W = _
      rw [this, hsz]
      simp [Result.andThen, sliced, Addr.add]
/-- Cells written one behind the other. -/
theorem row_setCells {g : Nat} {T : TypeId} {f : Nat × Nat} : ∀ (vs : List Value) (o : Nat) (w : World) (cs : Array Value), w.heap[g]? = some (.cells cs T f) →
    ∃ cs', (w.setCells g o vs).heap[g]? = some (.cells cs' T f) ∧ cs'.size = cs.size ∧ (∀ i, i < o ∨ o + vs.length ≤ i → cs'[i]? = cs[i]?) ∧ (∀ (j : Nat) (v : Value), vs[j]? = some v → o + j < cs.size → cs'[o + j]? = some v)
  | [], o, w, cs, h => ⟨cs, h, rfl, fun _ _ => rfl, fun j v hj _ => by simp at hj⟩
  | u :: vs, o, w, cs, h => by
    obtain ⟨cs', h1, h2, h3, h4⟩ := row_setCells vs (o + 1) (w.setCell ⟨g, o, none⟩ u) _ (rowSet h o u)
    rw [Array.size_setIfInBounds] at h2
    refine ⟨cs', h1, h2, ?_, ?_⟩
    · intro i hi
      simp only [List.length_cons] at hi
      rw [h3 i (by omega), Array.getElem?_setIfInBounds_ne (by omega)]
    · intro j v hj hl
      match j, hj with
      | 0, hj =>
        simp at hj
        subst hj
        rw [h3 _ (by omega)]
        rw [Nat.add_zero] at hl ⊢
        rw [Array.getElem?_setIfInBounds]
        simp [hl]
      | j + 1, hj =>
        have := h4 j v (by simpa using hj) (by rw [Array.size_setIfInBounds]; omega)
        rwa [show o + 1 + j = o + (j + 1) by omega] at this
theorem turn_setCells {g : Nat} {S : Nat → Prop} (hS : S g) : ∀ (vs : List Value) (o : Nat) (a w : World), Turn S a w → Turn S a (w.setCells g o vs)
  | [], _, _, _, h => h
  | _ :: vs, o, a, _, h => turn_setCells hS vs (o + 1) a _ (h.setCell (p := ⟨g, o, none⟩) hS _)

/-- 'append(s, x...)' onto a queue. -/
theorem que_append {base : Nat} {w : World} {v u : Value} {t ys : List Int} {ok : Nat → Prop} (h : Que base w v t) (hbase : base ≤ w.heap.size) (hu : Ints ok w u ys) (hbytes : (t.length + ys.length) * 8 ≤ 140737488355328) (ty : TypeId) :
    ∃ v' w', (Builtin.append_ #[23, 23] ty #[v, u]).run Try.prog w = .ok v' w' ∧ Que base w' v' (t ++ ys) ∧ Turn (fun k => v.ownBlock = some k) w w' ∧ (v'.ownBlock = v.ownBlock ∨ ∃ g, v'.ownBlock = some g ∧ w.heap.size ≤ g) := by
  obtain ⟨i, hi, hz0, hz1, hz2⟩ := info_parts info3
  have hwu := Ints.wf hu
  have hwt := h.wf
  have hwa : ∀ x ∈ t ++ ys, (Lit.int .i64 x).wf = true := fun x hx => by
    rcases List.mem_append.1 hx with hx | hx
    · exact hwt x hx
    · exact hwu x hx
  obtain ⟨A, cap, rfl, u1, u2, u3, u4, u5⟩ := hu
  cases A with
  | none =>
    have hc := u3 rfl
    have hy : ys = [] := List.eq_nil_of_length_eq_zero (by omega)
    subst hy hc
    obtain ⟨B, c, rfl, hle⟩ := h.shape
    have hrun := run_append_nothing (P := Try.prog) w 23 23 ty 3 i Try.underlying23 hi B t.length c hle (.slice none 0 0) (Src.ofNil w Try.underlying23 0)
    exact ⟨_, _, hrun, by rw [List.append_nil]; exact h, Turn.refl _ _, .inl rfl⟩
  | some ad =>
    have hnews : ∀ j y, (ys.map (Value.int .i64))[j]? = some y → w.cell? (ad.add j) = some y := by
      intro j y hj
      simp only [List.getElem?_map, Option.map_eq_some_iff] at hj
      obtain ⟨z, hz, rfl⟩ := hj
      obtain ⟨ad', e1, _, _, hc⟩ := u4 (by have := (List.getElem?_eq_some_iff.1 hz).1; omega)
      cases e1
      exact hc j z hz
    have hgrow : ∀ v' w' B, w'.ownsRow B 3 1 v' (t.length + ys.length) (t.map (Value.int .i64) ++ ys.map (Value.int .i64)) → B = base ∨ B = w.heap.size → w.grownBy w' none → Que base w' v' (t ++ ys) ∧ Turn (fun k => v.ownBlock = some k) w w' := by
      intro v' w' B h1 hB h2
      rw [← List.map_append, ← List.length_append] at h1
      refine ⟨?_, ⟨h2.os, h2.tape, h2.output, h2.size, fun k hk _ => h2.block k hk (by simp)⟩⟩
      have := que_of_row h1 hwa
      rcases hB with rfl | rfl
      · exact this
      · rcases this with h | ⟨g, off, c, cs, e, hb, r⟩
        · exact .inl h
        · exact .inr ⟨g, off, c, cs, e, by omega, r⟩
    rcases h with ⟨rfl, rfl⟩ | ⟨g, off, c, cs, rfl, hb, hg, h1, h2, h3, h4, h5⟩
    · obtain ⟨v', w', hr, h2, h3, _⟩ := run_append_own (P := Try.prog) w w.heap.size 23 ty 3 i (.int .i64 0) 1 8 Try.underlying23 hi hz0 hz1 hz2 rfl (by decide) (.slice none 0 0) 0 [] (row_of_nil w w.heap.size 3) ad ys.length cap (ys.map (Value.int .i64)) (by simp) hnews (ints_oneCell _ _)
        (by unfold maxLen; simp at hbytes ⊢; omega) (by simpa using hbytes) (Nat.le_refl _)
      obtain ⟨q1, q2⟩ := hgrow v' w' _ h2 (.inr rfl) h3
      refine ⟨v', w', hr, q1, q2, ?_⟩
      obtain ⟨_, ⟨rfl, _⟩ | ⟨g, _, _, rfl, hg, _⟩⟩ := h2
      · exact .inl rfl
      · exact .inr ⟨g, rfl, hg⟩
    · by_cases hroom : t.length + ys.length ≤ c
      · have hcell : ∀ j, j < (ys.map (Value.int .i64)).length → (w.cell? ⟨g, off + t.length * i.size + j, none⟩).isSome = true := by
          intro j hj
          rw [hz1]
          rw [List.length_map] at hj
          simp [World.cell?, hg]
          omega
        have hsrc : Src Try.prog i.size 23 (.slice (some ad) ys.length cap) ys.length (ys.map (Value.int .i64)) w := Src.ofSlice w Try.underlying23 ad ys.length cap _ (by rw [hz1]; simp) hnews (ints_oneCell _ _)
        have hrun := run_append_room_src (P := Try.prog) w 23 23 ty 3 i Try.underlying23 hi g off t.length c (.slice (some ad) ys.length cap) ys.length (ys.map (Value.int .i64)) hsrc hroom hcell (fun j _ => row_free hg _)
        rw [hz1, Nat.mul_one] at hrun
        obtain ⟨cs', r1, r2, r3, r4⟩ := row_setCells (ys.map (Value.int .i64)) (off + t.length) w cs hg
        refine ⟨_, _, hrun, .inr ⟨g, off, c, cs', by simp, hb, r1, by simpa using hroom, h2, by omega, ?_, hwa⟩, turn_setCells (S := fun k => (Value.slice (some ⟨g, off, none⟩) t.length c).ownBlock = some k) rfl _ _ _ _ (Turn.refl _ _), .inl rfl⟩
        intro j x hj
        by_cases hlt : j < t.length
        · rw [List.getElem?_append_left hlt] at hj
          rw [r3 _ (.inl (by omega))]
          exact h4 j x hj
        · rw [List.getElem?_append_right (by omega)] at hj
          have hjl := (List.getElem?_eq_some_iff.1 hj).1
          have := r4 (j - t.length) (.int .i64 x) (by rw [List.getElem?_map, hj]; rfl) (by omega)
          rwa [show off + t.length + (j - t.length) = off + j by omega] at this
      · have holds : ∀ j y, (t.map (Value.int .i64))[j]? = some y → w.cell? ((⟨g, off, none⟩ : Addr).add j) = some y := by
          intro j y hj
          simp only [List.getElem?_map, Option.map_eq_some_iff] at hj
          obtain ⟨z, hz, rfl⟩ := hj
          have := h4 j z hz
          rw [Addr.add_lit]
          simpa [World.cell?, hg] using this
        obtain ⟨v', w', hr, q1, q2⟩ := run_append_arg_grows (P := Try.prog) w 23 ty 3 i (.int .i64 0) 1 8 Try.underlying23 hi hz0 hz1 hz2 rfl (by decide) ⟨g, off, none⟩ t.length c (t.map (Value.int .i64)) (by simp) holds ad ys.length cap (ys.map (Value.int .i64)) (by simp) hnews (by omega) (by unfold maxLen; omega) hbytes
        obtain ⟨p1, p2⟩ := hgrow v' w' _ q1 (.inr rfl) q2
        refine ⟨v', w', hr, p1, p2, ?_⟩
        obtain ⟨_, ⟨rfl, h0⟩ | ⟨g', _, _, rfl, hg', _⟩⟩ := q1
        · omega
        · exact .inr ⟨g', rfl, hg'⟩

set_option maxHeartbeats 400000 in
theorem clone_que (ok : Nat → Prop) (v : Value) (xs : List Int) (w : World) (h : Ints ok w v xs) :
    Calls Try.prog 93 #[v] w fun e w' => ∃ v', e = .returned v' ∧ Que w.heap.size w' v' xs ∧ Below w.heap.size w w' := by
  have h0 := Lib.hid h
  obtain ⟨A, cap, rfl, h1, h2, h3, h4, h5⟩ := h
  cases A with
  | none =>
    have hc := h3 rfl
    have hy : xs = [] := List.eq_nil_of_length_eq_zero (by omega)
    subst hc hy
    clear h1 h2 h3 h4 h5
    have hn := fun w => Lib.run_eql_slice_nil (P := Try.prog) w 23 3 none 0 0 0 0 Try.underlying23
    go_enter Try.func93, Try.ntmps93
    go_wp2
    go_ret
    exact ⟨_, rfl, .inl ⟨rfl, rfl⟩, Below.refl _ _⟩
  | some ad =>
    have hl := h5.1
    have hw := h5.2
    clear h1 h2 h3 h4 h5
    have Hw := Lib.hid hw
    clear hw
    have hn := fun w => Lib.run_eql_slice_nil (P := Try.prog) w 23 3 (some ad) xs.length cap 0 0 Try.underlying23
    go_enter Try.func93, Try.ntmps93
    go_wp2_with (at_builtin; refine wpList_append_ints _ rfl _ _ 23 rfl w.heap.size 3 Try.underlying23 info3 _ 0 [] rfl (World.ownsRow_made w #[] 0 (Nat.le_refl _) (by simp [maxLen]) rfl) ok _ xs rfl (h0.out.alloc _) (by omega) (by simp) ?_; intro v' w' hown hg)
    go_ret
    exact ⟨_, rfl, que_of_row (by simpa using hown) Hw.out, ((Below.refl _ _).alloc (Nat.le_refl _) _).grown hg (by simp) (fun k hk => by cases hk; exact Nat.le_refl _)⟩
end Go.Proofs.Ytobniolmielikaa

/- The reference collector's there; no condition. -/
namespace Go.Proofs.Ytobniolmielikaa
open Go.RowKit

set_option maxHeartbeats 400000 in
theorem there_any (base : Nat) (w : World) (r : Nat) (NV AV : Value) (R : RM) (k : Int) (hh : RHeapAt base w r NV AV R) :
    Calls Try.prog 107 #[.pointer (some ⟨r, 0, none⟩), .int .i64 k] w fun e w' => e = .returned (.bool ((R.get k).2 == 0)) ∧ Below w.heap.size w w' := by
  have HH := Lib.hid hh
  clear hh
  go_enter Try.func107, Try.ntmps107
  go_wp2_with fail
  refine (rget_any base w r NV AV R k HH.out).mono ?_
  rintro e w1 ⟨v1, rfl, hv, hb⟩
  obtain ⟨ra1, rc1, wa1, wc1, rfl⟩ := hv.open
  have HB := Lib.hid hb
  have hz := hb.size
  clear hv hb
  go_wp2_with fail
  go_ret
  exact ⟨rfl, HB.out.alloc hz _⟩
end Go.Proofs.Ytobniolmielikaa

/- The reference collector's within; no condition. -/
namespace Go.Proofs.Ytobniolmielikaa
open Go.RowKit

set_option maxHeartbeats 1000000 in
theorem within_any (base : Nat) (ok : Nat → Prop) (w : World) (r : Nat) (NV AV : Value) (R : RM) (v : Value) (l : List Int) (hh : RHeapAt base w r NV AV R) (h : Ints ok w v l) :
    Calls Try.prog 88 #[.pointer (some ⟨r, 0, none⟩), v] w fun e w' => e = .returned (.bool (l.all fun x => (R.get x).2 == 0)) ∧ Below w.heap.size w w' := by
  obtain ⟨A, c, rfl⟩ := h.shape
  have hlen := h.len
  have H := Lib.hid h
  have HH := Lib.hid hh
  clear h hh
  go_enter Try.func88, Try.ntmps88
  go_wp2_with fail
  go_loopw [5] (fun i wr => ∃ n : Nat, n ≤ l.length ∧ i = .int .i64 n ∧ (∀ j, j < n → ∀ y, l[j]? = some y → ((R.get y).2 == 0) = true) ∧ Below w.heap.size w wr) (fun i _ => l.length - (intOf i).toNat)
  case atStart => exact ⟨0, Nat.zero_le _, rfl, (fun j hj => by omega), Below.refl _ _⟩
  case round =>
    obtain ⟨n, hn, rfl, hno, hb⟩ := hrel
    have HNO := Lib.hid hno
    have HB := Lib.hid hb
    have zb := hb.size
    by_cases hlt : n < l.length
    · obtain ⟨ad, eA, hc⟩ := Ints.cell (H.out.fresh hb) hlt
      have hx := List.getElem?_eq_getElem hlt
      generalize l[n] = y at hc hx
      have HX := Lib.hid hx
      have HLT := Lib.hid hlt
      subst eA
      clear hx hno hb
      go_wp2_with fail
      refine (there_any base wr r NV AV R y (HH.out.fresh HB.out)).mono ?_
      rintro e w2 ⟨rfl, hb⟩
      have B2 := Lib.hid (below_then HB.out zb hb)
      clear hb hc
      cases he : (R.get y).2 == 0 with
      | true =>
        have HE := Lib.hid he
        clear he
        go_wp2_with fail
        go_roundw
        case rel =>
          refine ⟨n + 1, by have := HLT.out; omega, by go_num, ?_, B2.out⟩
          intro j hj z hz
          by_cases hjn : j = n
          · subst hjn
            rw [HX.out] at hz
            cases hz
            exact HE.out
          · exact HNO.out j (by omega) z hz
        case measure => have := HLT.out; simp [intOf]; omega
      | false =>
        have HF := Lib.hid (show (l.all fun x => (R.get x).2 == 0) = false from List.all_eq_false.2 ⟨y, List.mem_of_getElem? HX.out, by rw [he]; decide⟩)
        clear he
        go_wp2_with fail
        go_ret
        exact ⟨by rw [HF.out]; rfl, B2.out⟩
    · have he : n = l.length := by omega
      have HT := Lib.hid (show (l.all fun x => (R.get x).2 == 0) = true from List.all_eq_true.2 fun z hz => by
        obtain ⟨j, hj⟩ := List.getElem?_of_mem hz
        exact HNO.out j (by have := (List.getElem?_eq_some_iff.1 hj).1; omega) z hj)
      clear he hno hb
      go_wp2_with fail
      go_ret
      exact ⟨by rw [HT.out]; rfl, HB.out⟩
end Go.Proofs.Ytobniolmielikaa

/- The reference collector's young; no condition. -/
namespace Go.Proofs.Ytobniolmielikaa
open Go.RowKit

def RM.yng (R : RM) (x : Int) : Bool := !(Go.Proofs.Ytobniolmielikaa.get (keyed R.a) x).isSome
theorem filter_snoc5 {l : List Int} {k : Nat} {x : Int} (f : Int → Bool) (h : l[k]? = some x) : (l.take (k + 1)).filter f = (l.take k).filter f ++ if f x = true then [x] else [] := by
  rw [List.take_add_one, h, List.filter_append]
  congr 1
  cases hf : f x <;> simp [hf]

set_option maxHeartbeats 1000000 in
theorem ryoung_any (base : Nat) (ok : Nat → Prop) (w : World) (r : Nat) (NV AV : Value) (R : RM) (v : Value) (l : List Int) (hh : RHeapAt base w r NV AV R) (h : Ints ok w v l) :
    Calls Try.prog 89 #[.pointer (some ⟨r, 0, none⟩), v] w fun e w' => ∃ u, e = .returned u ∧ Ints (w.heap.size ≤ ·) w' u (l.filter R.yng) ∧ Below w.heap.size w w' := by
  obtain ⟨A, c, rfl⟩ := h.shape
  have hlen := h.len
  have H := Lib.hid h
  have HH := Lib.hid hh
  clear h hh
  go_enter Try.func89, Try.ntmps89
  go_wp2_with fail
  go_loopw [5, 6] (fun u i wr => ∃ (n : Nat) (xs : List Int), n ≤ l.length ∧ i = .int .i64 n ∧ xs = (l.take n).filter R.yng ∧ wr.ownsRow w.heap.size 3 1 u xs.length (xs.map (Value.int .i64)) ∧ Below w.heap.size w wr) (fun _ i _ => l.length - (intOf i).toNat)
  case atStart => exact ⟨0, [], Nat.zero_le _, rfl, rfl, row_of_nil _ _ _, Below.refl _ _⟩
  case round =>
    obtain ⟨n, xs, hn, rfl, hxs, hown, hb⟩ := hrel
    have HXS := Lib.hid hxs
    have OWN := Lib.hid hown
    have HB := Lib.hid hb
    have zb := hb.size
    have hxl : xs.length ≤ n := by
      rw [hxs]
      have h1 := List.length_filter_le R.yng (l.take n)
      have h2 := List.length_take_le n l
      omega
    by_cases hlt : n < l.length
    · obtain ⟨ad, eA, hc⟩ := Ints.cell (H.out.fresh hb) hlt
      have hx := List.getElem?_eq_getElem hlt
      have hwf := Ints.wf H.out l[n] (List.getElem_mem _)
      generalize l[n] = y at hc hx hwf
      have HX := Lib.hid hx
      have HLT := Lib.hid hlt
      have HW := Lib.hid hwf
      subst eA
      clear hx hxs hown hb hwf
      go_wp2_with fail
      refine (rold_any base wr r NV AV R y (HH.out.fresh HB.out)).mono ?_
      rintro e w2 ⟨rfl, rfl⟩
      cases he : (Go.Proofs.Ytobniolmielikaa.get (keyed R.a) y).isSome with
      | true =>
        have HY := Lib.hid (show R.yng y = false by simp [RM.yng, he])
        clear he
        go_wp2_with fail
        go_roundw
        case rel => exact ⟨n + 1, xs, by have := HLT.out; omega, by go_num, by rw [filter_snoc5 _ HX.out, HY.out]; simpa using HXS.out, OWN.out, HB.out⟩
        case measure => have := HLT.out; simp [intOf]; omega
      | false =>
        have HY := Lib.hid (show R.yng y = true by simp [RM.yng, he])
        clear he
        go_wp2_with (at_builtin; refine wpList_append_ints _ rfl _ _ 23 rfl w.heap.size 3 Try.underlying23 info3 _ xs.length xs rfl (OWN.out.alloc _) (fun _ => True) _ [y] rfl (ints_oneAt (new0 _ _) HW.out) (by have := HLT.out; simp; omega) (by simp; omega) ?_; intro st' w10 hown' hg'; have HO := Lib.hid hown'; have HG := Lib.hid hg'; clear hown' hg')
        go_roundw
        case rel => exact ⟨n + 1, xs ++ [y], by have := HLT.out; omega, by go_num, by rw [filter_snoc5 _ HX.out, HY.out, HXS.out]; simp, by simpa using HO.out, (HB.out.alloc zb _).grown HG.out (by simp; omega) (fun q hq => (OWN.out.lt q hq).1)⟩
        case measure => have := HLT.out; simp [intOf]; omega
    · have he : n = l.length := by omega
      have hx2 : xs = l.filter R.yng := by rw [hxs, he, List.take_length]
      have HX2 := Lib.hid hx2
      clear he hxs hown hb hx2
      go_wp2_with fail
      go_ret
      refine ⟨_, rfl, ?_, HB.out⟩
      rw [← HX2.out]
      refine ints_of_row OWN.out (by omega) ?_
      intro z hz
      rw [HX2.out] at hz
      exact Ints.wf H.out z (List.mem_filter.1 hz).1
end Go.Proofs.Ytobniolmielikaa

/- The reference collector: start, moved; no condition. -/
namespace Go.Proofs.Ytobniolmielikaa
open Go.RowKit

theorem own_shape {w : World} {base : Nat} {v : Value} {xs : List Value} {n : Nat} (h : w.ownsRow base 3 1 v n xs) : ∃ A c, v = .slice A n c := by
  obtain ⟨_, ⟨rfl, h0⟩ | ⟨g', cap, cur, rfl, _⟩⟩ := h
  · rw [h0]; exact ⟨_, _, rfl⟩
  · exact ⟨_, _, rfl⟩

set_option maxHeartbeats 400000 in
theorem rstart_any (ok : Nat → Prop) (v : Value) (xs : List Int) (w : World) (h : Ints ok w v xs) :
    Calls Try.prog 73 #[v] w fun e w' => ∃ u, e = .returned u ∧ w'.ownsRow w.heap.size 3 1 u xs.length (xs.map (Value.int .i64)) ∧ Below w.heap.size w w' := by
  obtain ⟨A, c, rfl⟩ := h.shape
  have hlen := h.len
  have H := Lib.hid h
  clear h
  go_enter Try.func73, Try.ntmps73
  go_wp2_with (at_builtin; refine wpList_append_ints _ rfl _ _ 23 rfl w.heap.size 3 Try.underlying23 info3 _ 0 [] rfl (row_of_nil _ _ _) ok _ xs rfl H.out (by omega) (Nat.le_refl _) ?_; intro v' w' hown hg)
  go_ret
  exact ⟨_, rfl, by simpa using hown, (Below.refl _ _).grown hg (Nat.le_refl _) (fun k hk => by cases hk)⟩

theorem take_map_snoc {l : List Int} {k : Nat} {x : Int} (f : Int → Int) (h : l[k]? = some x) : (l.take (k + 1)).map f = (l.take k).map f ++ [f x] := by
  rw [List.take_add_one, h, List.map_append]
  rfl

set_option maxHeartbeats 1000000 in
theorem moved_any (ok ok' : Nat → Prop) (w : World) (v u : Value) (xs L : List Int) (base : Int) (h : Ints ok w v xs) (hL : Ints ok' w u L) (hb : 0 ≤ base ∧ base ≤ 4611686018427387904) (hl : L.length ≤ 1000000) :
    Calls Try.prog 77 #[v, u, .int .i64 base] w fun e w' => ∃ z, e = .returned z ∧ w'.ownsRow w.heap.size 3 1 z xs.length ((xs.map (mv L base)).map (Value.int .i64)) ∧ (∀ x ∈ xs.map (mv L base), (Lit.int .i64 x).wf = true) ∧ Below w.heap.size w w' := by
  obtain ⟨A, c, rfl⟩ := h.shape
  obtain ⟨B, d, rfl⟩ := hL.shape
  have hlen := h.len
  have HX := Lib.hid h
  have HL := Lib.hid hL
  have hwm : ∀ x, (Lit.int .i64 x).wf = true → (Lit.int .i64 (mv L base x)).wf = true := fun x hx => by
    unfold mv
    split
    · rename_i h0
      have := atL_lt (l := L) (x := x)
      exact wf_key (by omega)
    · exact hx
  have WM := Lib.hid hwm
  clear h hL hwm
  go_enter Try.func77, Try.ntmps77
  go_wp2_with fail
  go_loopw [8, 7] (fun i z wr => ∃ k : Nat, k ≤ xs.length ∧ i = .int .i64 k ∧ wr.ownsRow w.heap.size 3 1 z k (((xs.take k).map (mv L base)).map (Value.int .i64)) ∧ Below w.heap.size w wr) (fun i _ _ => xs.length - (intOf i).toNat)
  case atStart => exact ⟨0, Nat.zero_le _, rfl, row_of_nil _ _ _, Below.refl _ _⟩
  case round =>
    obtain ⟨k, hk, rfl, ho, hb1⟩ := hrel
    obtain ⟨Az, cz, rfl⟩ := own_shape ho
    have HO := Lib.hid ho
    have HB := Lib.hid hb1
    have zb := hb1.size
    by_cases hlt : k < xs.length
    · obtain ⟨ad, eA, hc⟩ := Ints.cell (HX.out.fresh hb1) hlt
      have hx := List.getElem?_eq_getElem hlt
      have hwx := Ints.wf HX.out xs[k] (List.getElem_mem _)
      generalize xs[k] = x at hc hx hwx
      have HXX := Lib.hid hx
      have HLT := Lib.hid hlt
      have HWX := Lib.hid hwx
      have hal := atL_lt (l := L) (x := x)
      subst eA
      clear hx ho hb1 hwx
      go_wp2_with fail
      refine (at_any ok' wr _ L x (HL.out.fresh HB.out)).mono ?_
      rintro e w2 ⟨rfl, rfl⟩
      by_cases h0 : 0 ≤ atL L x
      · have HM := Lib.hid (show mv L base x = base + atL L x by unfold mv; rw [if_pos h0])
        go_wp2_with (at_builtin; refine wpList_append_ints _ rfl _ _ 23 rfl w.heap.size 3 Try.underlying23 info3 _ k ((xs.take k).map (mv L base)) rfl (HO.out.alloc _) (fun _ => True) _ [base + atL L x] rfl (ints_oneAt (new0 _ _) (by rw [← HM.out]; exact WM.out x HWX.out)) (by have := HLT.out; simp; omega) (by simp; omega) ?_; intro st' w10 hown' hg'; have HO2 := Lib.hid hown'; have HG := Lib.hid hg'; clear hown' hg')
        go_roundw
        case rel => exact ⟨k + 1, by have := HLT.out; omega, by go_num, by rw [take_map_snoc _ HXX.out, HM.out]; exact HO2.out, (HB.out.alloc zb _).grown HG.out (by simp; omega) (fun q hq => (HO.out.lt q hq).1)⟩
        case measure => have := HLT.out; simp [intOf]; omega
      · have HM := Lib.hid (show mv L base x = x by unfold mv; rw [if_neg h0])
        have h0' : atL L x < 0 := by omega
        go_wp2_with (at_builtin; refine wpList_append_ints _ rfl _ _ 23 rfl w.heap.size 3 Try.underlying23 info3 _ k ((xs.take k).map (mv L base)) rfl (HO.out.alloc _) (fun _ => True) _ [x] rfl (ints_oneAt (new0 _ _) HWX.out) (by have := HLT.out; simp; omega) (by simp; omega) ?_; intro st' w10 hown' hg'; have HO2 := Lib.hid hown'; have HG := Lib.hid hg'; clear hown' hg')
        go_roundw
        case rel => exact ⟨k + 1, by have := HLT.out; omega, by go_num, by rw [take_map_snoc _ HXX.out, HM.out]; exact HO2.out, (HB.out.alloc zb _).grown HG.out (by simp; omega) (fun q hq => (HO.out.lt q hq).1)⟩
        case measure => have := HLT.out; simp [intOf]; omega
    · have he : k = xs.length := by omega
      subst he
      rw [List.take_length] at ho
      have HO3 := Lib.hid ho
      clear ho hb1
      go_wp2_with fail
      go_ret
      refine ⟨_, rfl, HO3.out, ?_, HB.out⟩
      intro x hx
      obtain ⟨z, hz, rfl⟩ := List.mem_map.1 hx
      exact WM.out z (HX.out.wf z hz)
end Go.Proofs.Ytobniolmielikaa

/- The collector's walk of a heap: object, start; no condition. -/
namespace Go.Proofs.Ytobniolmielikaa
open Go.RowKit

/-- The block of a search. -/
def WalkAt (w : World) (g h : Nat) (bad : Bool) : Prop := w.heap[g]? = some (.cells #[.pointer (some ⟨h, 0, none⟩), .bool bad] 121)
theorem WalkAt.turn {S : Nat → Prop} {w w' : World} {g h : Nat} {bad : Bool} (hw : WalkAt w g h bad) (ht : Turn S w w') (hg : ¬ S g) : WalkAt w' g h bad := rowT ht hw hg
theorem WalkAt.fresh {w w' : World} {g h : Nat} {bad : Bool} (hw : WalkAt w g h bad) (hb : Below w.heap.size w w') : WalkAt w' g h bad := rowB hb hw (heap_lt hw)

theorem turnSet (w : World) (g i : Nat) (v : Value) : Turn (fun k => k = g) w (w.setCell ⟨g, i, none⟩ v) := Turn.setCell (S := fun k => k = g) (Turn.refl _ _) (p := ⟨g, i, none⟩) rfl v

set_option maxHeartbeats 1000000 in
theorem object_any (w : World) (g h y a : Nat) (H : HM) (bad : Bool) (k : Int) (hw : WalkAt w g h bad) (hh : HeapAt w h y a H) :
    Calls Try.prog 86 #[.pointer (some ⟨g, 0, none⟩), .int .i64 k] w fun e w' => ∃ v, e = .returned v ∧ ObR w.heap.size w' v (H.ob k) ∧ WalkAt w' g h (bad || !H.has k) ∧ Turn (· = g) w w' := by
  have hlt := heap_lt hw
  have HH := Lib.hid hh
  have HW := Lib.hid hw
  clear hh
  have c := cellsH (old1 hw (.cells #[.int .i64 0, .int .i64 0, .int .i64 0, .slice none 0 0, .slice none 0 0] 25))
  clear hw
  go_enter Try.func86, Try.ntmps86
  go_wp2_with fail
  clear c
  refine (get_any _ h y a H k (HH.out.alloc _)).mono ?_
  rintro e w1 ⟨v, rfl, hv, hb⟩
  obtain ⟨ra, rc, wa, wc, ev⟩ := hv.open
  have HV := Lib.hid hv
  have HB := Lib.hid hb
  have hsz := hb.size
  subst ev
  have hbox := rowB hb (new0 _ _) (by simp)
  have hg1 := rowB hb (old1 HW.out _) (by simp; omega)
  have HBOX := Lib.hid hbox
  have HG1 := Lib.hid hg1
  clear hv hb hbox hg1
  have hszz : w.heap.size < w1.heap.size := by simp at hsz; omega
  rw [HM.get_ob] at HV
  have HE := Lib.hid (HM.get_ob H k)
  obtain ⟨B, hB⟩ : ∃ B : Obj, Obj.cells #[.int .i64 (H.ob k).op, .int .i64 (H.ob k).n, .int .i64 (H.ob k).ar, .slice ra (H.ob k).refs.length rc, .slice wa (H.ob k).words.length wc] 25 = B := ⟨_, rfl⟩
  have T1 := Lib.hid (turn_of_below (below_then ((Below.refl w.heap.size w).alloc (Nat.le_refl _) _) (by simp) HB.out) (fun k h1 h2 => by omega) : Turn (· = g) w w1)
  have cg := cellsH (old1 HG1.out B)
  have fg := freeH (old1 HG1.out B)
  have HBN := Lib.hid (new0 w1 B)
  have BB := Lib.hid hB
  cases hk : H.has k with
  | true =>
    have he : (H.get k).2 = 0 := HM.get_ok hk
    rw [he, HM.get_ob]
    have c5 := cellsH (show (w1.alloc B).heap[w1.heap.size]? = _ by rw [HBN.out, ← BB.out])
    have c4 := cellsH HBOX.out
    have f4 := freeH HBOX.out
    have HHK := Lib.hid hk
    clear he hk cg fg
    go_upto_region 4 with (fail)
    clear hB
    go_wp2_with fail
    clear c4 f4 c5
    have c := cellsH (old1 (set5_row HBOX.out (.int .i64 (H.ob k).op) (.int .i64 (H.ob k).n) (.int .i64 (H.ob k).ar) (.slice ra (H.ob k).refs.length rc) (.slice wa (H.ob k).words.length wc)) B)
    unfold set5 at c
    refine bodyPost_ret (v := .agg #[.int .i64 (H.ob k).op, .int .i64 (H.ob k).n, .int .i64 (H.ob k).ar, .slice ra (H.ob k).refs.length rc, .slice wa (H.ob k).words.length wc]) (by simp [results, Try.results86, go_sem, c]) rfl ⟨_, rfl, ?_, ?_, ?_⟩
    · refine ((HV.out.turn (set5_turn (S := fun k => k = w.heap.size) (Turn.refl _ _) rfl _ _ _ _ _) ?_).fresh ((Below.refl _ _).alloc (Nat.le_refl _) B)).base (by simp)
      intro b hb _ e
      simp at hb
      omega
    · rw [HHK.out, Bool.not_true, Bool.or_false]
      exact old1 (rowT (set5_turn (S := fun k => k = w.heap.size) (Turn.refl _ _) rfl _ _ _ _ _) HG1.out (by omega)) B
    · exact (Turn.under T1.out (set5_turn (S := fun k => k = w.heap.size) (Turn.refl _ _) rfl _ _ _ _ _) (fun k h1 h2 => by omega)).alloc B
  | false =>
    have he : (H.get k).2 = 35 := HM.get_err hk
    rw [he, HM.get_ob]
    have HHK := Lib.hid hk
    clear he hk
    go_upto_region 4 with (fail)
    have hn1 : w1.heap.size ≠ g := by have := HB.out.size; simp at this; omega
    have c5 := cellsH (rowSetNe (show (w1.alloc B).heap[w1.heap.size]? = _ by rw [HBN.out, ← BB.out]) hn1 (.bool true) (i := 1))
    have c4 := cellsH (rowSetNe (old1 HBOX.out B) (by omega : w.heap.size ≠ g) (.bool true) (i := 1))
    have f4 := freeH (rowSetNe (old1 HBOX.out B) (by omega : w.heap.size ≠ g) (.bool true) (i := 1))
    have c4' := cellsH (rowSetNe HBOX.out (by omega : w.heap.size ≠ g) (.bool true) (i := 1))
    have f4' := freeH (rowSetNe HBOX.out (by omega : w.heap.size ≠ g) (.bool true) (i := 1))
    clear cg fg hB
    go_wp2_with fail
    clear c4 f4 c5 c4' f4'
    have c := cellsH (set5_row (rowSetNe (old1 HBOX.out B) (by omega : w.heap.size ≠ g) (.bool true) (i := 1)) (.int .i64 (H.ob k).op) (.int .i64 (H.ob k).n) (.int .i64 (H.ob k).ar) (.slice ra (H.ob k).refs.length rc) (.slice wa (H.ob k).words.length wc))
    unfold set5 at c
    refine bodyPost_ret (v := .agg #[.int .i64 (H.ob k).op, .int .i64 (H.ob k).n, .int .i64 (H.ob k).ar, .slice ra (H.ob k).refs.length rc, .slice wa (H.ob k).words.length wc]) (by simp [results, Try.results86, go_sem, c]) rfl ⟨_, rfl, ?_, ?_, ?_⟩
    · refine (((HV.out.fresh ((Below.refl _ _).alloc (Nat.le_refl _) B)).turn (turnSet _ g 1 _) ?_).turn (set5_turn (S := fun k => k = w.heap.size) (Turn.refl _ _) rfl _ _ _ _ _) ?_).base (by simp)
      · intro b hb _ e
        simp at hb
        omega
      · intro b hb _ e
        simp at hb
        omega
    · rw [HHK.out, Bool.not_false, Bool.or_true]
      exact rowT (set5_turn (S := fun k => k = w.heap.size) (Turn.refl _ _) rfl _ _ _ _ _) (rowSet (old1 HG1.out B) 1 (.bool true)) (by omega)
    · exact Turn.under ((T1.out.alloc B).trans (turnSet _ g 1 _)) (set5_turn (S := fun k => k = w.heap.size) (Turn.refl _ _) rfl _ _ _ _ _) (fun k h1 h2 => by omega)
end Go.Proofs.Ytobniolmielikaa

/- A range over a function whose rounds never leave it: the iterator and the rounds share the heap by blocks; no program in sight; no condition. -/
namespace Go.Proofs.Ytobniolmielikaa
open Go.RowKit

/-- The rounds' word on memory: 'pre' have come; M: the iterator's blocks, C: the rounds'. -/
structure Rounds {α : Type} (J : List α → (Nat → Prop) → (Nat → Prop) → World → Prop) : Prop where
  apart : ∀ {pre : List α} {M C : Nat → Prop} {W : World}, J pre M C W → ∀ k, C k → k < W.heap.size ∧ ¬ M k
  step : ∀ {pre : List α} {M C : Nat → Prop} {W : World} (M' : Nat → Prop) (W' : World), J pre M C W → Turn M W W' → (∀ k, M' k → M k ∨ W.heap.size ≤ k) → J pre M' C W'
/-- What one round leaves. -/
def RoundOk {α : Type} (J : List α → (Nat → Prop) → (Nat → Prop) → World → Prop) (pre : List α) (M C : Nat → Prop) (W W' : World) : Prop :=
  ∃ C' : Nat → Prop, J pre M C' W' ∧ Turn C W W' ∧ ∀ k, C' k → C k ∨ W.heap.size ≤ k
/-- What an iterator gives. -/
def Gives {α : Type} (n : Nat) (P : Program) (gf : Nat) (lb : Array Value) (encs : α → Array Value) (Ok : α → (Nat → Prop) → (Nat → Prop) → World → Prop) (N : Nat) (M0 C0 : Nat → Prop) (S : List α → World → Prop) (w : World) : Prop :=
  ∀ (l : Nat) (C : Nat → Prop) (W : World) (J : List α → (Nat → Prop) → (Nat → Prop) → World → Prop), Below w.heap.size w W → (∀ k, C k → C0 k ∨ w.heap.size ≤ k) → Rounds J →
    (∀ pre M C x W1, J pre M C W1 → Ok x M C W1 → pre.length < N → YieldAt Fence.wide (n - 1) P l (encs x) W1 fun e W' => e = .returned (.bool true) ∧ RoundOk J (pre ++ [x]) M C W1 W') →
    J [] M0 C W → CallsIn Fence.wide n P gf (#[.func (.yield l) #[] #[]] ++ lb) W fun e W' => (∃ v, e = .returned v) ∧ ∃ xs M C, S xs W' ∧ J xs M C W'

/-- How a round's body is left: it goes on. -/
def bodyOn (R : World → Prop) : Exit → Act → World → Prop
  | .normal, _, W => R W
  | _, _, _ => False

theorem turn_putObj {S : Nat → Prop} {w w' : World} {l : Nat} (h : Turn S w w') (hl : S l ∨ w.heap.size ≤ l) (o : Obj) : Turn S w (w'.putObj l o) :=
  ⟨h.os, h.tape, h.output, by rw [World.putObj_size]; exact h.size, fun k hk hn => (World.putObj_heap_other (fun e => by subst e; rcases hl with hl | hl; exact hn hl; omega)).trans (h.block k hk hn)⟩

theorem rangeFunc_it {α : Type} {n : Nat} {P : Program} {g : Operand} {ps : Array Tmp} {assign body : Code} {Q : Exit → Act → World → Prop} {a : Act} {w : World}
    {gf : Nat} {lb : Array Value} (hg : a.eval g = .func (.func gf) #[] lb) (eg : ∀ args w, (callFunc gf args).run P w = .ok (.enter gf args) w)
    {encs : α → Array Value} (hps : ∀ x, (encs x).size = ps.size) {Ok : α → (Nat → Prop) → (Nat → Prop) → World → Prop} {N : Nat} {M0 C0 : Nat → Prop} {S : List α → World → Prop} (hgive : Gives (n + 1) P gf lb encs Ok N M0 C0 S w)
    (hOk : ∀ {x : α} {M M' C C' : Nat → Prop} {W : World}, Ok x M C W → (∀ k, C' k → C k) → (∀ k, M' k → M k ∨ (k < W.heap.size ∧ ∀ e, ¬ IsRow e W k)) → Ok x M' C' W)
    (hM0 : ∀ k, M0 k → k < w.heap.size) (hS : ∀ xs W l o, w.heap.size ≤ l → S xs W → S xs (W.putObj l o))
    (I : List α → (Nat → Prop) → (Nat → Prop) → World → Prop) (hI : Rounds I) (h0 : I [] M0 C0 w)
    (hround : ∀ (l : Nat) (pre : List α) (M C : Nat → Prop) (x : α) (W : World), M l → w.heap.size < l → l < W.heap.size → I pre M C W → Ok x M C W → pre.length < N →
      assign.wpIn (Fence.wide.inRound l) n P (Exit.then (fun a₁ W₁ => Turn C W W₁ ∧ ∀ o : Obj, body.wpIn (Fence.wide.inRound l) n P (bodyOn fun W₃ => Turn C (W₁.putObj l o) W₃ ∧ ∃ C' : Nat → Prop, I (pre ++ [x]) M C' W₃ ∧ ∀ k, C' k → C k ∨ W.heap.size ≤ k) a₁ (W₁.putObj l o)) (fun _ _ _ => False))
        { tmps := (ps.zip (encs x)).foldl (fun t (p, v) => t.setIfInBounds p v) a.tmps, defers := [] } W)
    (hdone : ∀ (D : Nat) (xs : List α) (M C : Nat → Prop) (W : World), w.heap.size ≤ D → M D → S xs W → I xs M C W → W.heap[D]? = some (.deferred (some [])) → Q .normal { a with defers := { target := .collected D, args := #[] } :: a.defers } W) :
    (Code.rangeFunc g ps assign body).wpIn Fence.wide (n + 1 + 1) P Q a w := by
  refine wpIn_rangeFunc ?_
  intro fn hfn
  obtain ⟨rec, hrec⟩ : ∃ rec : LoopState → Option Code → Loop, rec = fun st pe => { state := st, pending := pe, fn, tmps := a.tmps, params := ps, assign, body, defers := w.heap.size } := ⟨_, rfl⟩
  obtain ⟨W1, hW1⟩ : ∃ W1, (w.alloc (.deferred (some []))).alloc (.loop (rec .ready none)) = W1 := ⟨_, rfl⟩
  have hL1 : W1.heap[w.heap.size + 1]? = some (.loop (rec .ready none)) := by rw [← hW1]; exact new21 w _ _
  have hK1 : W1.heap[w.heap.size]? = some (.deferred (some [])) := by rw [← hW1]; exact new20 w _ _
  have hb1 : Below w.heap.size w W1 := by rw [← hW1]; exact ((Below.refl _ w).alloc (Nat.le_refl _) _).alloc (by simp) _
  have hI1 : I [] (fun k => M0 k ∨ k = w.heap.size ∨ k = w.heap.size + 1) C0 W1 :=
    hI.step _ W1 h0 (turn_of_below hb1 (fun k h1 h2 => by omega)) (fun k hk => by rcases hk with hk | hk; exact .inl hk; exact .inr (by omega))
  refine ⟨w.heap.size + 1, [{ target := .collected w.heap.size, args := #[] }], W1, { target := .fn (.func gf) lb, args := #[.func (.yield (w.heap.size + 1)) #[] #[]] }, W1, gf,
    #[.func (.yield (w.heap.size + 1)) #[] #[]] ++ lb, W1, ?_, ?_, ?_, ?_, fun _ => by omega, ?_⟩
  · rw [← hW1, hrec]; exact run_enterLoop_outer _ _ _ _ _
  · simp only [resolve, hg]
    simp [go_sem]
  · intro f' _; trivial
  · simp [invoke, go_sem, eg]
  · refine (hgive (w.heap.size + 1) (fun k => C0 k ∨ k = w.heap.size + 1) W1
      (fun pre M C W => ∃ C1 : Nat → Prop, (∀ k, C k ↔ C1 k ∨ k = w.heap.size + 1) ∧ I pre (fun k => M k ∨ k = w.heap.size ∨ k = w.heap.size + 1) C1 W ∧ ¬ M w.heap.size ∧ ¬ M (w.heap.size + 1) ∧
        W.heap[w.heap.size + 1]? = some (.loop (rec .ready none)) ∧ W.heap[w.heap.size]? = some (.deferred (some [])))
      hb1 (fun k hk => by rcases hk with hk | hk; exact .inl hk; exact .inr (by omega)) ?_ ?_ ⟨C0, fun k => Iff.rfl, hI1, fun h => by have := hM0 _ h; omega, fun h => by have := hM0 _ h; omega, hL1, hK1⟩).mono ?_
    · -- the rounds' word
      refine ⟨?_, ?_⟩
      · rintro pre M C W ⟨C1, hC, hi, n1, n2, hl, hk⟩ k hck
        rcases (hC k).1 hck with h | rfl
        · obtain ⟨h1, h2⟩ := hI.apart hi k h
          exact ⟨h1, fun h => h2 (.inl h)⟩
        · exact ⟨heap_lt hl, n2⟩
      · rintro pre M C W M' W' ⟨C1, hC, hi, n1, n2, hl, hk⟩ ht hM'
        have l1 := heap_lt hl
        have l2 := heap_lt hk
        refine ⟨C1, hC, hI.step _ W' hi (ht.mono fun k _ h => .inl h) ?_, ?_, ?_, (ht.block _ l1 n2).trans hl, (ht.block _ l2 n1).trans hk⟩
        · intro k hk
          rcases hk with hk | hk
          · rcases hM' k hk with h | h
            · exact .inl (.inl h)
            · exact .inr h
          · exact .inl (.inr hk)
        · intro h
          rcases hM' _ h with h | h
          · exact n1 h
          · omega
        · intro h
          rcases hM' _ h with h | h
          · exact n2 h
          · omega
    · -- one round
      rintro pre M C x W ⟨C1, hC, hi, n1, n2, hl, hk⟩ hok hlen
      have hy := run_yield (P := P) (args := encs x) hl (by rw [hrec]; exact hps x)
      rw [hrec] at hy
      have hap := hI.apart hi
      refine ⟨fn, _, assign, body, hy, roundIn_of_wpIn hfn (wpIn_mono (hround (w.heap.size + 1) pre _ C1 x W (.inr (.inr rfl)) (by omega) (heap_lt hl) hi ?_ hlen) ?_)⟩
      · refine hOk hok (fun k h => (hC k).2 (.inl h)) ?_
        rintro k (h | rfl | rfl)
        · exact .inl h
        · exact .inr ⟨heap_lt hk, fun e h => by obtain ⟨cs, f, h⟩ := h; rw [hk] at h; cases h⟩
        · exact .inr ⟨heap_lt hl, fun e h => by obtain ⟨cs, f, h⟩ := h; rw [hl] at h; cases h⟩
      · rintro e a1 Wa hp
        cases e with
        | normal =>
          obtain ⟨hta, hb⟩ := hp
          have hla : Wa.heap[w.heap.size + 1]? = some (.loop (rec .ready none)) := (hta.block _ (heap_lt hl) (fun h => (hap _ h).2 (.inr (.inr rfl)))).trans hl
          have hka : Wa.heap[w.heap.size]? = some (.deferred (some [])) := (hta.block _ (heap_lt hk) (fun h => (hap _ h).2 (.inr (.inl rfl)))).trans hk
          refine ⟨_, run_beginRound hla (by rw [hrec]), wpIn_mono (hb _) ?_⟩
          rintro e3 a3 W3 hp3
          cases e3 with
          | normal =>
            obtain ⟨ht3, C', hi3, hC3⟩ := hp3
            have hl2 : (Wa.putObj (w.heap.size + 1) (.loop { rec .ready none with state := .busy })).heap[w.heap.size + 1]? = some (.loop { rec .ready none with state := .busy }) := World.putObj_heap_same (heap_lt hla)
            have hk2 : (Wa.putObj (w.heap.size + 1) (.loop { rec .ready none with state := .busy })).heap[w.heap.size]? = some (.deferred (some [])) := (World.putObj_heap_other (by omega)).trans hka
            have hl3 := (ht3.block _ (heap_lt hl2) (fun h => (hap _ h).2 (.inr (.inr rfl)))).trans hl2
            have hk3 := (ht3.block _ (heap_lt hk2) (fun h => (hap _ h).2 (.inr (.inl rfl)))).trans hk2
            have hend := run_endRound (P := P) none hl3
            rw [hrec] at hend
            refine ⟨_, _, hend, rfl, fun k => C' k ∨ k = w.heap.size + 1, ⟨C', fun k => Iff.rfl, hI.step _ _ hi3 ?_ (fun k hk => .inl hk), n1, n2, ?_, ?_⟩, ?_, ?_⟩
            · exact turn_putObj (Turn.refl _ _) (.inl (.inr (.inr rfl))) _
            · rw [hrec]; exact World.putObj_heap_same (heap_lt hl3)
            · exact (World.putObj_heap_other (by omega)).trans hk3
            · refine turn_putObj (Turn.trans (turn_putObj (hta.mono fun k _ h => (hC k).2 (.inl h)) (.inl ((hC _).2 (.inr rfl))) _) (ht3.mono fun k _ h => (hC k).2 (.inl h))) (.inl ((hC _).2 (.inr rfl))) _
            · intro k hk
              rcases hk with hk | hk
              · rcases hC3 k hk with h | h
                · exact .inl ((hC k).2 (.inl h))
                · exact .inr h
              · exact .inl ((hC k).2 (.inr hk))
          | ret => exact hp3.elim
          | exit id => exact hp3.elim
          | goto t => exact hp3.elim
          | panic ch => exact hp3.elim
          | outgrown => exact hp3.elim
        | ret => exact hp.elim
        | exit id => exact hp.elim
        | goto t => exact hp.elim
        | panic ch => exact hp.elim
        | outgrown => exact hp.elim
    · -- behind it
      rintro e W2 ⟨⟨v, rfl⟩, xs, M, C, hs, C1, hC, hi, n1, n2, hl, hk⟩
      refine ⟨none, _, by have := run_endLoop (P := P) hl (by rw [hrec]; simp); rw [hrec] at this; exact this, hdone _ xs _ C1 _ (Nat.le_refl _) (.inr (.inl rfl)) (hS _ _ _ _ (by omega) hs) (hI.step _ _ hi (turn_putObj (Turn.refl _ _) (.inl (.inr (.inr rfl))) _) (fun k hk => .inl hk)) ((World.putObj_heap_other (by omega)).trans hk)⟩
end Go.Proofs.Ytobniolmielikaa

