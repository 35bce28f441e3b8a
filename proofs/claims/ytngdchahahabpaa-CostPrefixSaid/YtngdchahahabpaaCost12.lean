/- The law's same where both sides are the same, the reference's begins and insert; no condition. -/
import Derived.Test.YtngdchahahabpaaCost11
namespace Go.Proofs.Ytngdchahahabpaa
open Go.RowKit

/-- One cell of a slice of ints. -/
theorem Ints.cell {ok : Nat → Prop} {w : World} {A : Option Addr} {n c : Nat} {xs : List Int} (h : Ints ok w (.slice A n c) xs) {k : Nat} (hk : k < xs.length) : ∃ ad, A = some ad ∧ w.cell? (ad.add k) = some (.int .i64 xs[k]) := by
  obtain ⟨A', cap, e, _, _, _, h4, _⟩ := h
  cases e
  obtain ⟨ad, rfl, _, _, hc⟩ := h4 (by omega)
  exact ⟨ad, rfl, hc k _ (List.getElem?_eq_getElem hk)⟩

set_option maxHeartbeats 400000 in
theorem same_any (ok ok' : Nat → Prop) (w : World) (u v : Value) (xs : List Int) (h : Ints ok w u xs) (h' : Ints ok' w v xs) :
    Calls Try.prog 25 #[u, v] w fun e w' => e = .returned (.bool true) ∧ ∃ n, w' = w.drewN n := by
  obtain ⟨A, c, rfl⟩ := h.shape
  obtain ⟨A', c', rfl⟩ := h'.shape
  have H := Lib.hid h
  have H' := Lib.hid h'
  have hl := h.len
  clear h h'
  go_enter Try.func25, Try.ntmps25
  go_wp2_with fail
  go_loopw [5] (fun i wr => ∃ k n : Nat, k ≤ xs.length ∧ i = .int .i64 k ∧ wr = w.drewN n) (fun i _ => xs.length - (intOf i).toNat)
  case atStart => exact ⟨0, 0, Nat.zero_le _, rfl, rfl⟩
  case round =>
    obtain ⟨k, n, hk, rfl, rfl⟩ := hrel
    by_cases hlt : k < xs.length
    · obtain ⟨ad, rfl, c1⟩ := H.out.cell hlt
      obtain ⟨ad', rfl, c1'⟩ := H'.out.cell hlt
      generalize xs[k] = x at *
      go_wp2_with fail
      go_quiet (fail)
      go_wp2_with fail
      go_roundw
      case rel => exact ⟨k + 1, n + nq, by omega, by go_num, rfl⟩
      case measure => simp [intOf]; omega
    · go_wp2_with fail
      go_ret
      exact ⟨rfl, n, rfl⟩

/-- Whether an evaluation goes on behind the events. -/
def bgnF (id : Int) (b : Bool) (e : Ev) : Bool :=
  if e.id = id then (if e.op = 2 ∨ e.op = 6 then true else if e.op = 3 ∨ e.op = 4 ∨ e.op = 5 then false else b) else b
def bgn (l : List Ev) (id : Int) : Bool := l.foldl (bgnF id) false

set_option maxHeartbeats 1000000 in
theorem begins_any (w : World) (v : Value) (l : List Ev) (id : Int) (h : Evs w v l) :
    Calls Try.prog 37 #[v, .int .i64 id] w fun e w' => e = .returned (.bool (bgn l id)) ∧ w' = w := by
  obtain ⟨A, c, rfl⟩ := h.shape
  have hl := h.len
  have H := Lib.hid h
  clear h
  go_enter Try.func37, Try.ntmps37
  go_wp2_with fail
  go_loopw [6, 5] (fun i u wr => ∃ k : Nat, k ≤ l.length ∧ i = .int .i64 k ∧ u = .bool ((l.take k).foldl (bgnF id) false) ∧ wr = w) (fun i _ _ => l.length - (intOf i).toNat)
  case atStart => exact ⟨0, Nat.zero_le _, rfl, rfl, rfl⟩
  case round =>
    obtain ⟨k, hk, rfl, rfl, rfl⟩ := hrel
    by_cases hlt : k < l.length
    · obtain ⟨b, o, rfl, c1, c2, c3⟩ := H.out.cell hlt
      have hf := fold_take (bgnF id) false l hlt
      generalize (l.take k).foldl (bgnF id) false = S at hf
      generalize l[k] = ev at c1 c2 c3 hf
      obtain ⟨op', id', step⟩ := ev
      dsimp only at c1 c2 c3
      have HF := Lib.hid hf
      clear hf
      by_cases h1 : id' = id
      · subst h1
        have t0 : (id' == id') = true := by simp
        by_cases hy : op' = 2 ∨ op' = 6
        · have HN := Lib.hid (show bgnF id' S ⟨op', id', step⟩ = true by simp [bgnF, hy])
          rcases hy with rfl | rfl <;>
          · go_wp2_with fail
            go_roundw
            case rel => exact ⟨k + 1, by omega, by go_num, by rw [HF.out, HN.out], trivial⟩
            case measure => simp [intOf]; omega
        · by_cases hn : op' = 3 ∨ op' = 4 ∨ op' = 5
          · have HN := Lib.hid (show bgnF id' S ⟨op', id', step⟩ = false by simp only [bgnF, if_neg hy, if_pos hn, if_true])
            clear hy
            rcases hn with rfl | rfl | rfl <;>
            · go_wp2_with fail
              go_roundw
              case rel => exact ⟨k + 1, by omega, by go_num, by rw [HF.out, HN.out], trivial⟩
              case measure => simp [intOf]; omega
          · have HN := Lib.hid (show bgnF id' S ⟨op', id', step⟩ = S by simp only [bgnF, if_neg hy, if_neg hn, if_true])
            have t2 : (op' == 2) = false := by simp; omega
            have t6 : (op' == 6) = false := by simp; omega
            have t3 : (op' == 3) = false := by simp; omega
            have t4 : (op' == 4) = false := by simp; omega
            have t5 : (op' == 5) = false := by simp; omega
            clear hy hn
            go_wp2_with fail
            go_roundw
            case rel => exact ⟨k + 1, by omega, by go_num, by rw [HF.out, HN.out], trivial⟩
            case measure => simp [intOf]; omega
      · have t0 : (id' == id) = false := by simpa using h1
        have HN := Lib.hid (show bgnF id S ⟨op', id', step⟩ = S by simp only [bgnF, if_neg h1])
        clear h1
        go_wp2_with fail
        go_roundw
        case rel => exact ⟨k + 1, by omega, by go_num, by rw [HF.out, HN.out], trivial⟩
        case measure => simp [intOf]; omega
    · have he : k = l.length := by omega
      have HN := Lib.hid (show (l.take k).foldl (bgnF id) false = bgn l id by rw [he, List.take_length]; rfl)
      clear he
      go_wp2_with fail
      go_ret
      exact ⟨by rw [← HN.out]; rfl, rfl⟩

/-- A number laid into an ascending list, once. -/
def ins : List Int → Int → List Int
  | [], n => [n]
  | x :: r, n => if x < n then x :: ins r n else if x = n then n :: r else n :: x :: r
theorem ins_stop {xs : List Int} {n : Int} (h : ∀ x, xs.head? = some x → ¬ x < n) : ins xs n = n :: (if xs.head? = some n then xs.tail else xs) := by
  cases xs with
  | nil => rfl
  | cons x r =>
    have hx := h x rfl
    simp only [ins, if_neg hx, List.head?_cons, List.tail_cons, Option.some.injEq]
    split <;> rfl
theorem ins_length (n : Int) : ∀ xs : List Int, (ins xs n).length ≤ xs.length + 1
  | [] => by simp [ins]
  | x :: r => by
    have := ins_length n r
    unfold ins
    split
    · simp; omega
    · split <;> simp
theorem mem_ins (n : Int) : ∀ (xs : List Int) (x : Int), x ∈ ins xs n ↔ x = n ∨ x ∈ xs
  | [], x => by simp [ins]
  | y :: r, x => by
    unfold ins
    split
    · simp only [List.mem_cons, mem_ins n r x]
      constructor
      · rintro (h | h | h) <;> simp [h]
      · rintro (h | h | h) <;> simp [h]
    · split
      · rename_i e
        subst e
        simp
      · simp
theorem ins_step (xs : List Int) (n : Int) {k : Nat} (hk : k < xs.length) (h : xs[k] < n) : xs.take k ++ ins (xs.drop k) n = xs.take (k + 1) ++ ins (xs.drop (k + 1)) n := by
  rw [List.drop_eq_getElem_cons hk, List.take_succ_eq_append_getElem hk]
  simp only [ins, if_pos h, List.append_assoc, List.singleton_append]

theorem size38 (W : World) : (sizeOf (Try.prog.elem 38)).run Try.prog W = .ok 1 W := by kernel_rfl
theorem Ints.drop {ok : Nat → Prop} {w : World} {A : Option Addr} {n c : Nat} {xs : List Int} (h : Ints ok w (.slice A n c) xs) {k : Nat} (hk : k ≤ xs.length) :
    Ints ok w (.slice (if c = k then A else A.map (·.add (k * 1))) (xs.length - k) (c - k)) (xs.drop k) := by
  obtain ⟨A', cap, e, h1, h2, h3, h4, h5, h6⟩ := h
  cases e
  have hlen : (xs.drop k).length = xs.length - k := by simp
  refine ⟨_, _, by rw [hlen], by omega, by omega, fun hA => ?_, fun h0 => ?_, by omega, fun x hx => h6 x (List.mem_of_mem_drop hx)⟩
  · by_cases hc : c = k
    · omega
    · rw [if_neg hc] at hA
      have := h3 (by simpa using hA)
      omega
  · obtain ⟨ad, rfl, ho, hl, hc⟩ := h4 (by omega)
    rw [if_neg (by omega)]
    refine ⟨ad.add (k * 1), rfl, by rw [addr_block]; exact ho, by rw [addr_block]; exact hl, fun i x hx => ?_⟩
    rw [List.getElem?_drop] at hx
    rw [Go.Deep.add_add]
    have := hc (k + i) x hx
    rw [← this]
    congr 2
    omega
/-- The rest of a slice of ints. -/
theorem ints_rest {ok : Nat → Prop} {w : World} {A : Option Addr} {c : Nat} {xs : List Int} (h : Ints ok w (.slice A xs.length c) xs) {k : Nat} (hk : k ≤ xs.length) :
    ∃ B, (∀ W, Below w.heap.size w W → Ints ok W (.slice B (xs.length - k) (c - k)) (xs.drop k)) ∧
      (∀ W, (Instr.slice 38 (.slice A xs.length c) (some (.int .i64 k)) none none).run Try.prog W = .ok (.slice B (xs.length - k) (c - k)) W) := by
  have hel : Try.prog.underlying 38 = some (.slice (Try.prog.elem 38)) := by kernel_rfl
  refine ⟨_, fun W hW => (h.drop hk).fresh hW, fun W => ?_⟩
  rw [run_slice_l W 38 A xs.length c hel .i64 k (by omega) (by omega), size38]
  simp only [Result.andThen, sliced, Int.toNat_natCast]

set_option maxHeartbeats 2000000 in
theorem insert_any (ok : Nat → Prop) (w : World) (v : Value) (xs : List Int) (n : Int) (h : Ints ok w v xs) (hn : (Lit.int .i64 n).wf = true) (hb : xs.length ≤ 8796093022208) :
    Calls Try.prog 33 #[v, .int .i64 n] w fun e w' => ∃ u, e = .returned u ∧ Ints (w.heap.size ≤ ·) w' u (ins xs n) ∧ Below w.heap.size w w' := by
  obtain ⟨A, c, rfl⟩ := h.shape
  have hwf := h.wf
  have H := Lib.hid h
  have HW := Lib.hid hwf
  have HN := Lib.hid hn
  clear h hwf hn
  go_enter Try.func33, Try.ntmps33
  go_wp2_with fail
  go_loopw [5, 6] (fun u i wr => ∃ k : Nat, k ≤ xs.length ∧ i = .int .i64 k ∧ ins xs n = xs.take k ++ ins (xs.drop k) n ∧ wr.ownsRow w.heap.size 3 1 u k ((xs.take k).map (Value.int .i64)) ∧ Below w.heap.size w wr) (fun _ i _ => xs.length - (intOf i).toNat)
  case atStart => exact ⟨0, Nat.zero_le _, rfl, rfl, World.ownsRow_made w #[] 0 (Nat.le_refl _) (by simp [maxLen]) rfl, (Below.refl _ _).alloc (Nat.le_refl _) _⟩
  case round =>
    obtain ⟨k, hk, rfl, hi, hown, hbel⟩ := hrel
    have HI := Lib.hid hi
    have HO := Lib.hid hown
    have HB := Lib.hid hbel
    have hbs := hbel.size
    clear hi hown hbel
    by_cases hlt : k < xs.length
    · obtain ⟨ad, rfl, c1⟩ := (H.out.fresh HB.out).cell hlt
      have hstep := ins_step xs n hlt
      have hxw := HW.out xs[k] (List.getElem_mem _)
      have htk := List.take_succ_eq_append_getElem hlt
      have hhead : (xs.drop k).head? = some xs[k] := by rw [List.drop_eq_getElem_cons hlt]; rfl
      generalize hxk : xs[k] = x at *
      have HX2 := Lib.hid hxk
      clear hxk
      have HST := Lib.hid hstep
      have HX := Lib.hid hxw
      have HT := Lib.hid htk
      have HH := Lib.hid hhead
      clear hstep hxw htk hhead
      have c1' := fun o => cellAlloc c1 o
      by_cases hx : x < n
      · go_wp2_with (at_builtin; refine wpList_append_ints _ rfl _ _ 38 rfl w.heap.size 3 Try.underlying38 info3 _ k (xs.take k) rfl (HO.out.alloc _) (fun _ => True) _ [x] rfl (ints_oneAt (new0 _ _) HX.out) (by simp <;> omega) (by simp <;> omega) ?_; intro st' w3 hown' hg'; have HO' := Lib.hid hown'; have HG := Lib.hid hg'; clear hown' hg')
        go_roundw
        case rel =>
          refine ⟨k + 1, by omega, by go_num, ?_, ?_, ?_⟩
          · rw [HI.out, HST.out hx]
          · rw [HT.out]
            have := HO'.out
            simpa using this
          · refine (HB.out.alloc hbs _).grown HG.out (by simp; omega) ?_
            intro q hq
            exact (HO.out.lt q hq).1
        case measure => simp [intOf]; omega
      · have hn' : ∀ z, (xs.drop k).head? = some z → ¬ z < n := by
          intro z hz
          rw [HH.out] at hz
          cases hz
          exact hx
        by_cases hxe : x = n
        · subst hxe
          have HE := Lib.hid (show ins xs x = (xs.take k ++ [x]) ++ xs.drop (k + 1) by
            rw [HI.out, ins_stop hn', HH.out, if_pos rfl, List.append_assoc, List.tail_drop]; rfl)
          clear hn' hx
          have t1 : (x == x) = true := by simp
          obtain ⟨B, hB1, hB2⟩ := ints_rest H.out (k := k + 1) (by omega)
          have HB1 := Lib.hid hB1
          push_cast at hB2
          clear hB1
          go_wp2_with (first
            | (at_builtin; refine wpList_append_ints _ rfl _ _ 38 rfl w.heap.size 3 Try.underlying38 info3 _ k (xs.take k) rfl (HO.out.alloc _) (fun _ => True) _ [x] rfl (ints_oneAt (new0 _ _) HN.out) (by simp <;> omega) (by simp <;> omega) ?_; intro st' w3 hown' hg'; have HO' := Lib.hid hown'; have HB3 := Lib.hid (show Below w.heap.size w w3 from (HB.out.alloc hbs _).grown hg' (by simp; omega) (fun q hq => (HO.out.lt q hq).1)); clear hown' hg'; obtain ⟨ad', ea, c2⟩ := (H.out.fresh HB3.out).cell hlt; cases ea; rw [HX2.out] at c2)
            | (at_builtin; refine wpList_append_ints _ rfl _ _ 38 rfl w.heap.size 3 Try.underlying38 info3 _ (k + 1) (xs.take k ++ [x]) rfl HO'.out ok _ (xs.drop (k + 1)) rfl (HB1.out _ HB3.out) (by simp; omega) HB3.out.size ?_; intro st'' w4 hown'' hg''; have HO'' := Lib.hid hown''; have HB4 := Lib.hid (show Below w.heap.size w w4 from HB3.out.grown hg'' HB3.out.size (fun q hq => (HO'.out.lt q hq).1)); clear hown'' hg''))
          go_ret
          refine ⟨_, rfl, ?_, HB4.out⟩
          rw [HE.out]
          have hfin := HO''.out
          refine ints_of_row hfin (by simp; omega) ?_
          rw [← HE.out]
          intro y hy
          rcases (mem_ins x xs y).1 hy with h1 | h1
          · exact h1 ▸ HN.out
          · exact HW.out y h1
        · have HE := Lib.hid (show ins xs n = (xs.take k ++ [n]) ++ xs.drop k by
            rw [HI.out, ins_stop hn', HH.out, if_neg (by simpa using hxe), List.append_assoc]; rfl)
          have t1 : (x == n) = false := by simpa using hxe
          clear hn' hxe
          obtain ⟨B, hB1, hB2⟩ := ints_rest H.out (k := k) (by omega)
          have HB1 := Lib.hid hB1
          clear hB1
          go_wp2_with (first
            | (at_builtin; refine wpList_append_ints _ rfl _ _ 38 rfl w.heap.size 3 Try.underlying38 info3 _ k (xs.take k) rfl (HO.out.alloc _) (fun _ => True) _ [n] rfl (ints_oneAt (new0 _ _) HN.out) (by simp <;> omega) (by simp <;> omega) ?_; intro st' w3 hown' hg'; have HO' := Lib.hid hown'; have HB3 := Lib.hid (show Below w.heap.size w w3 from (HB.out.alloc hbs _).grown hg' (by simp; omega) (fun q hq => (HO.out.lt q hq).1)); clear hown' hg'; obtain ⟨ad', ea, c2⟩ := (H.out.fresh HB3.out).cell hlt; cases ea; rw [HX2.out] at c2)
            | (at_builtin; refine wpList_append_ints _ rfl _ _ 38 rfl w.heap.size 3 Try.underlying38 info3 _ (k + 1) (xs.take k ++ [n]) rfl HO'.out ok _ (xs.drop (k)) rfl (HB1.out _ HB3.out) (by simp; omega) HB3.out.size ?_; intro st'' w4 hown'' hg''; have HO'' := Lib.hid hown''; have HB4 := Lib.hid (show Below w.heap.size w w4 from HB3.out.grown hg'' HB3.out.size (fun q hq => (HO'.out.lt q hq).1)); clear hown'' hg''))
          go_ret
          refine ⟨_, rfl, ?_, HB4.out⟩
          rw [HE.out]
          have hfin := HO''.out
          refine ints_of_row hfin (by simp; omega) ?_
          rw [← HE.out]
          intro y hy
          rcases (mem_ins n xs y).1 hy with h1 | h1
          · exact h1 ▸ HN.out
          · exact HW.out y h1
    · have he : k = xs.length := by omega
      have HE := Lib.hid (show ins xs n = (xs.take k ++ [n]) ++ xs.drop k by
        rw [HI.out, he, List.drop_length]; simp [ins])
      clear he
      obtain ⟨B, hB1, hB2⟩ := ints_rest H.out (k := k) (by omega)
      have HB1 := Lib.hid hB1

      clear hB1
      go_wp2_with (first
        | (at_builtin; refine wpList_append_ints _ rfl _ _ 38 rfl w.heap.size 3 Try.underlying38 info3 _ k (xs.take k) rfl (HO.out.alloc _) (fun _ => True) _ [n] rfl (ints_oneAt (new0 _ _) HN.out) (by simp <;> omega) (by simp <;> omega) ?_; intro st' w3 hown' hg'; have HO' := Lib.hid hown'; have HB3 := Lib.hid (show Below w.heap.size w w3 from (HB.out.alloc hbs _).grown hg' (by simp; omega) (fun q hq => (HO.out.lt q hq).1)); clear hown' hg')
        | (at_builtin; refine wpList_append_ints _ rfl _ _ 38 rfl w.heap.size 3 Try.underlying38 info3 _ (k + 1) (xs.take k ++ [n]) rfl HO'.out ok _ (xs.drop (k)) rfl (HB1.out _ HB3.out) (by simp; omega) HB3.out.size ?_; intro st'' w4 hown'' hg''; have HO'' := Lib.hid hown''; have HB4 := Lib.hid (show Below w.heap.size w w4 from HB3.out.grown hg'' HB3.out.size (fun q hq => (HO'.out.lt q hq).1)); clear hown'' hg''))
      go_ret
      refine ⟨_, rfl, ?_, HB4.out⟩
      rw [HE.out]
      have hfin := HO''.out
      refine ints_of_row hfin (by simp; omega) ?_
      rw [← HE.out]
      intro y hy
      rcases (mem_ins n xs y).1 hy with h1 | h1
      · exact h1 ▸ HN.out
      · exact HW.out y h1
end Go.Proofs.Ytngdchahahabpaa
