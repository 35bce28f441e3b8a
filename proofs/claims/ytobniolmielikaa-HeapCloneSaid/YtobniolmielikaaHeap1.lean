/- Contracts of the heap's small functions; no condition. -/
import Derived.Test.YtobniolmielikaaRows
import Derived.Test.YtobniolmielikaaWords
namespace Go.Proofs.Ytobniolmielikaa
open Go.RowKit

theorem info3 : (Try.prog.info? 3).map (fun i => (i.zero, i.size, i.bytes)) = some (some (.int .i64 0), 1, 8) := by kernel_rfl

set_option maxHeartbeats 400000 in
theorem clone_any (ok : Nat → Prop) (v : Value) (xs : List Int) (w : World) (h : Ints ok w v xs) :
    Calls Try.prog 93 #[v] w fun e w' => ∃ v', e = .returned v' ∧ IntsR 3 w.heap.size w' v' xs ∧ Below w.heap.size w w' := by
  have h0 := Lib.hid h
  obtain ⟨A, cap, rfl, h1, h2, h3, h4, h5⟩ := h
  cases A with
  | none =>
    have hc := h3 rfl
    have hy : xs = [] := List.eq_nil_of_length_eq_zero (by omega)
    subst hc hy
    clear h1 h2 h3 h4 h5
    have hn := fun w => Lib.run_eql_slice_nil (P := Try.prog) w 23 3 none 0 0 0 0 Try.underlying23
    go_enter Try.func93, Try.ntmps93
    go_wp2
    go_ret
    exact ⟨_, rfl, IntsR.nil _ _ _, Below.refl _ _⟩
  | some ad =>
    have hl := h5.1
    have hw := h5.2
    clear h1 h2 h3 h4 h5
    have Hw := Lib.hid hw
    clear hw
    have hn := fun w => Lib.run_eql_slice_nil (P := Try.prog) w 23 3 (some ad) xs.length cap 0 0 Try.underlying23
    go_enter Try.func93, Try.ntmps93
    go_wp2_with (at_builtin; refine wpList_append_ints _ rfl _ _ 23 rfl w.heap.size 3 Try.underlying23 info3 _ 0 [] rfl (World.ownsRow_made w #[] 0 (Nat.le_refl _) (by simp [maxLen]) rfl) ok _ xs rfl (h0.out.alloc _) (by omega) (by simp) ?_; intro v' w' hown hg)
    go_ret
    exact ⟨_, rfl, intsR_of_row (n := xs.length) (by simpa using hown) (by omega) Hw.out, ((Below.refl _ _).alloc (Nat.le_refl _) _).grown hg (by simp) (fun k hk => by cases hk; exact Nat.le_refl _)⟩

/-- A heap object. -/
structure Ob where
  op : Int
  n : Int
  ar : Int
  refs : List Int
  words : List Int

/-- v is the object o, in blocks that meet ok. -/
def ObAt (ok : Nat → Prop) (w : World) (v : Value) (o : Ob) : Prop :=
  ∃ rv wv, v = .agg #[.int .i64 o.op, .int .i64 o.n, .int .i64 o.ar, rv, wv] ∧ Ints ok w rv o.refs ∧ Ints ok w wv o.words

/-- v is the object o, in rows of ints from base on. -/
def ObR (base : Nat) (w : World) (v : Value) (o : Ob) : Prop := ∃ rv wv, v = .agg #[.int .i64 o.op, .int .i64 o.n, .int .i64 o.ar, rv, wv] ∧ IntsR 3 base w rv o.refs ∧ IntsR 3 base w wv o.words
theorem ObR.at {base : Nat} {w : World} {v : Value} {o : Ob} (h : ObR base w v o) : ObAt (fun b => base ≤ b ∧ IsRow 3 w b) w v o := h
theorem ObR.turn {base : Nat} {S : Nat → Prop} {w w' : World} {v : Value} {o : Ob} (h : ObR base w v o) (ht : Turn S w w') (hn : ∀ b, base ≤ b → IsRow 3 w b → ¬ S b) : ObR base w' v o := by
  obtain ⟨rv, wv, rfl, h1, h2⟩ := h
  exact ⟨rv, wv, rfl, h1.turn ht hn, h2.turn ht hn⟩
theorem ObR.fresh {base : Nat} {w w' : World} {v : Value} {o : Ob} (h : ObR base w v o) (hb : Below w.heap.size w w') : ObR base w' v o := by
  obtain ⟨rv, wv, rfl, h1, h2⟩ := h
  exact ⟨rv, wv, rfl, h1.fresh hb, h2.fresh hb⟩
theorem ObR.base {base base' : Nat} {w : World} {v : Value} {o : Ob} (h : ObR base w v o) (hb : base' ≤ base) : ObR base' w v o := by
  obtain ⟨rv, wv, rfl, h1, h2⟩ := h
  exact ⟨rv, wv, rfl, h1.base hb, h2.base hb⟩

theorem ObAt.keep {ok : Nat → Prop} {w w' : World} {v : Value} {o : Ob} (h : ObAt ok w v o) (hs : w.heap.size ≤ w'.heap.size) (hb : ∀ b, ok b → b < w.heap.size → w'.heap[b]? = w.heap[b]?) : ObAt ok w' v o := by
  obtain ⟨rv, wv, rfl, h1, h2⟩ := h
  exact ⟨rv, wv, rfl, h1.keep hs hb, h2.keep hs hb⟩
theorem ObAt.fresh {ok : Nat → Prop} {w w' : World} {v : Value} {o : Ob} (h : ObAt ok w v o) (hb : Below w.heap.size w w') : ObAt ok w' v o :=
  h.keep hb.size fun b _ hl => hb.block b hl
theorem ObAt.below {ok : Nat → Prop} {B : Nat} {w w' : World} {v : Value} {o : Ob} (h : ObAt ok w v o) (hb : Below B w w') (ho : ∀ b, ok b → b < w.heap.size → b < B) : ObAt ok w' v o :=
  h.keep hb.size fun b hk hl => hb.block b (ho b hk hl)
theorem ObAt.turn {ok S : Nat → Prop} {w w' : World} {v : Value} {o : Ob} (h : ObAt ok w v o) (ht : Turn S w w') (ho : ∀ b, ok b → ¬ S b) : ObAt ok w' v o :=
  h.keep ht.size fun b hk hl => ht.block b hl (ho b hk)
theorem ObAt.mono {ok ok' : Nat → Prop} {w : World} {v : Value} {o : Ob} (h : ObAt ok w v o) (ho : ∀ b, b < w.heap.size → ok b → ok' b) : ObAt ok' w v o := by
  obtain ⟨rv, wv, rfl, h1, h2⟩ := h
  exact ⟨rv, wv, rfl, h1.mono ho, h2.mono ho⟩

set_option maxHeartbeats 400000 in
theorem copied_any (ok : Nat → Prop) (v : Value) (o : Ob) (w : World) (h : ObAt ok w v o) :
    Calls Try.prog 54 #[v] w fun e w' => ∃ v', e = .returned v' ∧ ObR w.heap.size w' v' o ∧ Below w.heap.size w w' := by
  obtain ⟨rv, wv, rfl, h1, h2⟩ := h
  obtain ⟨ra, rc, rfl⟩ := h1.shape
  obtain ⟨wa, wc, rfl⟩ := h2.shape
  have H1 := Lib.hid h1
  have H2 := Lib.hid h2
  clear h1 h2
  go_enter Try.func54, Try.ntmps54
  go_wp2_with fail
  refine (clone_any ok _ _ _ ((H1.out.alloc _).alloc _)).mono ?_
  rintro e w1 ⟨r1, rfl, i1, b1⟩
  obtain ⟨ra1, rc1, rfl⟩ := Ints.shape i1
  have I1 := Lib.hid i1
  clear i1
  have h1 := rowB b1 (new20 _ _ _) (by simp <;> omega)
  have h2 := rowB b1 (new21 _ _ _) (by simp <;> omega)
  have bw := below_then (((Below.refl w.heap.size w).alloc (Nat.le_refl _) _).alloc (by simp) _) (by simp <;> omega) b1
  have c1 := cellsH h1
  have c2 := cellsH h2
  have f1 := freeH h1
  have f2 := freeH h2
  go_wp2_with fail
  refine (clone_any ok _ _ _ (H2.out.fresh (bw.setCell (Nat.le_refl _) _))).mono ?_
  rintro e w2 ⟨r2, rfl, i2, b2⟩
  obtain ⟨ra2, rc2, rfl⟩ := Ints.shape i2
  have I2 := Lib.hid i2
  clear i2 c1 c2 f1 f2
  have h3 := rowB b2 (rowSet h1 3 _) (heap_lt (rowSet h1 3 _))
  have h4 := rowB b2 (rowSetNe (k := w.heap.size) h2 (by omega) _) (heap_lt (rowSetNe (k := w.heap.size) (i := 3) h2 (by omega) _))
  clear h1 h2
  have c1 := cellsH h3
  have c2 := cellsH h4
  have f1 := freeH h3
  have f2 := freeH h4
  go_wp2_with fail
  clear c1 c2 f1 f2
  have h5 := rowSet (rowSet (rowSet (rowSet (rowSet (rowSetNe (k := w.heap.size) (i := 4) h4 (by omega) (.slice ra2 o.words.length rc2)) 0 (.int .i64 o.op)) 1 (.int .i64 o.n)) 2 (.int .i64 o.ar)) 3 (.slice ra1 o.refs.length rc1)) 4 (.slice ra2 o.words.length rc2)
  have c5 := cellsH h5
  have z1 : w.heap.size ≤ w1.heap.size := bw.size
  have z2 : w1.heap.size ≤ w2.heap.size := by have := b2.size; simpa using this
  have bF : Below w.heap.size w _ := ((((((below_then (bw.setCell (Nat.le_refl _) (.slice ra1 o.refs.length rc1)) (by simpa using z1) b2).setCell (p := ⟨w.heap.size, 4, none⟩) (Nat.le_refl _) (.slice ra2 o.words.length rc2)).setCell (p := ⟨w.heap.size + 1, 0, none⟩) (by simp) (.int .i64 o.op)).setCell (p := ⟨w.heap.size + 1, 1, none⟩) (by simp) (.int .i64 o.n)).setCell (p := ⟨w.heap.size + 1, 2, none⟩) (by simp) (.int .i64 o.ar)).setCell (p := ⟨w.heap.size + 1, 3, none⟩) (by simp) (.slice ra1 o.refs.length rc1)).setCell (p := ⟨w.heap.size + 1, 4, none⟩) (by simp) (.slice ra2 o.words.length rc2)
  refine bodyPost_ret (v := .agg #[.int .i64 o.op, .int .i64 o.n, .int .i64 o.ar, .slice ra1 o.refs.length rc1, .slice ra2 o.words.length rc2]) (by simp [results, Try.results54, go_sem, c5]) rfl ⟨_, rfl, ⟨_, _, rfl, ?_, ?_⟩, bF⟩
  · refine IntsR.base (IntsR.turn (S := fun k => k = w.heap.size ∨ k = w.heap.size + 1) I1.out ?_ (fun b hb _ hs => by simp at hb; omega)) (by simp <;> omega)
    exact (((((((Turn.refl _ _).setCell (.inl rfl) _).then b2).setCell (.inl rfl) _).setCell (.inr rfl) _).setCell (.inr rfl) _).setCell (.inr rfl) _).setCell (.inr rfl) _ |>.setCell (.inr rfl) _
  · refine IntsR.base (IntsR.turn (S := fun k => k = w.heap.size ∨ k = w.heap.size + 1) I2.out ?_ (fun b hb _ hs => by have := b1.size; simp at hb this; omega)) (by simp <;> omega)
    exact (((((Turn.refl _ _).setCell (.inl rfl) _).setCell (.inr rfl) _).setCell (.inr rfl) _).setCell (.inr rfl) _).setCell (.inr rfl) _ |>.setCell (.inr rfl) _

/-- All are at least nought. -/
def NonNeg (l : List Int) : Prop := ∀ x ∈ l, 0 ≤ x
/-- The first test of 'valid' lets it by. -/
def HeadOk (op ar : Int) : Prop := ¬ (op < 1 ∨ 10 < op ∨ (op = 4 ∧ ar < 1) ∨ (op ≠ 4 ∧ ar ≠ 0))
/-- The last test of 'valid'. -/
def vTail (op n len : Int) : Bool :=
  if op = 1 then len == 0 else if op = 2 then len == 0 && decide (0 ≤ n) && decide (n ≤ 255) else if op = 6 then decide (0 ≤ n) && decide (2 ≤ len)
      else if op = 7 then decide (0 ≤ n) && len == 1 else if op = 9 then decide (0 ≤ n) && len == 1 else decide (0 ≤ n)
instance (op ar : Int) : Decidable (HeadOk op ar) := by unfold HeadOk; infer_instance
/-- Whether an object is valid. -/
def vld (o : Ob) : Bool := decide (HeadOk o.op o.ar) && o.refs.all (fun r => decide (0 ≤ r)) && vTail o.op o.n o.refs.length

theorem headOk_dec (op ar : Int) : decide (HeadOk op ar) = !(decide (op < 1) || decide (10 < op) || (decide (op = 4) && decide (ar < 1)) || (decide (op ≠ 4) && decide (ar ≠ 0))) := by
  unfold HeadOk
  by_cases h1 : op < 1 <;> by_cases h2 : 10 < op <;> by_cases h3 : op = 4 <;> by_cases h4 : ar < 1 <;> by_cases h5 : ar = 0 <;> simp [h1, h2, h3, h4, h5]
theorem vld_bad {o : Ob} (h : ¬ HeadOk o.op o.ar) : vld o = false := by simp [vld, h]
theorem vld_neg {op n ar : Int} {refs words : List Int} {k : Nat} {r : Int} (hlt : k < refs.length) (hr : refs[k] = r) (hneg : r < 0) : vld ⟨op, n, ar, refs, words⟩ = false := by
  have : refs.all (fun r => decide (0 ≤ r)) = false := by
    rw [List.all_eq_false]
    exact ⟨refs[k], List.getElem_mem hlt, by simp [hr]; omega⟩
  simp [vld, this]
theorem vld_good {op n ar : Int} {refs words : List Int} (h : HeadOk op ar) (hn : NonNeg refs) : vld ⟨op, n, ar, refs, words⟩ = vTail op n refs.length := by
  have : refs.all (fun r => decide (0 ≤ r)) = true := by
    rw [List.all_eq_true]
    intro x hx
    simpa using hn x hx
  simp [vld, this, h]
theorem nonNeg_succ {refs : List Int} {k : Nat} (hlt : k < refs.length) (h : NonNeg (refs.take k)) (h0 : 0 ≤ refs[k]) : NonNeg (refs.take (k + 1)) := by
  rw [List.take_succ_eq_append_getElem hlt]
  intro x hx
  rcases List.mem_append.1 hx with hx | hx
  · exact h x hx
  · simp at hx; omega

set_option maxHeartbeats 1000000 in
theorem valid_any (ok : Nat → Prop) (v : Value) (o : Ob) (w : World) (h : ObAt ok w v o) :
    Calls Try.prog 53 #[v] w fun e w' => e = .returned (.bool (vld o)) ∧ Below w.heap.size w w' := by
  obtain ⟨rv, wv, rfl, h1, h2⟩ := h
  obtain ⟨wa, wc, ewv⟩ := h2.shape
  obtain ⟨ra, rc, rfl, _, _, _, h4, h5, _⟩ := h1
  clear h2
  subst ewv
  obtain ⟨op, n, ar, refs, words⟩ := o
  dsimp only at *
  have H4 := Lib.hid h4
  clear h4
  by_cases hbad : HeadOk op ar
  · have HG := Lib.hid hbad
    have hd := headOk_dec op ar
    have hg : 1 ≤ op ∧ op ≤ 10 ∧ (op = 4 → 1 ≤ ar) ∧ (op ≠ 4 → ar = 0) := by unfold HeadOk at hbad; omega
    clear hbad hd
    obtain ⟨g1, g2, g3, g4⟩ := hg
    by_cases h4 : op = 4
    · have g3 := g3 h4
      clear g4
      subst h4
      go_enter Try.func53, Try.ntmps53
      go_wp2_with fail
      go_loop [35, 4] (fun i _ => ∃ k : Nat, k ≤ refs.length ∧ i = .int .i64 k ∧ NonNeg (refs.take k)) (fun i _ => refs.length - (intOf i).toNat)
      case atStart => exact ⟨0, Nat.zero_le _, rfl, by simp [NonNeg]⟩
      case round =>
        obtain ⟨k, hk, rfl, hnn⟩ := hrel
        have HN := Lib.hid hnn
        clear hnn
        by_cases hlt : k < refs.length
        · obtain ⟨ad, rfl, _, had, hc⟩ := H4.out (by omega)
          have hck := hc k _ (List.getElem?_eq_getElem hlt)
          have hck' := cellAlloc hck
          generalize hr : refs[k] = r at hck hck'
          have HR := Lib.hid hr
          clear hr hc hck
          by_cases hneg : r < 0
          · go_wp2_with fail
            go_ret
            refine ⟨by rw [vld_neg hlt HR.out hneg]; rfl, (Below.refl _ _).alloc (Nat.le_refl _) _⟩
          · go_wp2_with fail
            go_round
            case rel => exact ⟨k + 1, by omega, by go_num, nonNeg_succ hlt HN.out (by rw [HR.out]; omega)⟩
            case measure => simp [intOf]; omega
        · have he : k = refs.length := by omega
          have HV := Lib.hid (vld_good (n := n) (words := words) HG.out (by rw [he, List.take_length] at HN; exact HN.out))
          clear he
          have HB := Lib.hid (show vTail 4 n refs.length = decide (0 ≤ n) from by first | rfl | (simp [vTail, *]; done) | (simp [vTail, *]; omega))
          go_wp2_with fail
          go_ret
          refine ⟨by rw [HV.out, HB.out]; first | rfl | simp, (Below.refl _ _).alloc (Nat.le_refl _) _⟩
    · have g4 := g4 h4
      subst g4
      have h4b : (op == 4) = false := by simpa using h4
      clear g3
      go_enter Try.func53, Try.ntmps53
      go_wp2_with fail
      go_loop [35, 4] (fun i _ => ∃ k : Nat, k ≤ refs.length ∧ i = .int .i64 k ∧ NonNeg (refs.take k)) (fun i _ => refs.length - (intOf i).toNat)
      case atStart => exact ⟨0, Nat.zero_le _, rfl, by simp [NonNeg]⟩
      case round =>
        obtain ⟨k, hk, rfl, hnn⟩ := hrel
        have HN := Lib.hid hnn
        clear hnn
        by_cases hlt : k < refs.length
        · obtain ⟨ad, rfl, _, had, hc⟩ := H4.out (by omega)
          have hck := hc k _ (List.getElem?_eq_getElem hlt)
          have hck' := cellAlloc hck
          generalize hr : refs[k] = r at hck hck'
          have HR := Lib.hid hr
          clear hr hc hck
          by_cases hneg : r < 0
          · go_wp2_with fail
            go_ret
            refine ⟨by rw [vld_neg hlt HR.out hneg]; rfl, (Below.refl _ _).alloc (Nat.le_refl _) _⟩
          · go_wp2_with fail
            go_round
            case rel => exact ⟨k + 1, by omega, by go_num, nonNeg_succ hlt HN.out (by rw [HR.out]; omega)⟩
            case measure => simp [intOf]; omega
        · have he : k = refs.length := by omega
          have HV := Lib.hid (vld_good (n := n) (words := words) HG.out (by rw [he, List.take_length] at HN; exact HN.out))
          clear he
          by_cases o1 : op = 1
          · subst o1
            have HB := Lib.hid (show vTail 1 n refs.length = ((refs.length : Int) == 0) from by first | rfl | (simp [vTail, *]; done) | (simp [vTail, *]; omega))
            go_wp2_with fail
            go_ret
            refine ⟨by rw [HV.out, HB.out]; first | rfl | simp, (Below.refl _ _).alloc (Nat.le_refl _) _⟩
          have p1 : (op == 1) = false := by simpa using o1
          by_cases o2 : op = 2
          · subst o2
            by_cases q1 : refs.length = 0
            · have q2 : ((refs.length : Int) == 0) = true := by simp [q1]
              have Q1 := Lib.hid q1
              clear q1
              by_cases q3 : 0 ≤ n
              · have HB := Lib.hid (show vTail 2 n refs.length = decide (n ≤ 255) from by first | rfl | (simp [vTail, *]; done) | (simp [vTail, *]; omega))
                go_wp2_with fail
                go_ret
                refine ⟨by rw [HV.out, HB.out]; first | rfl | simp, (Below.refl _ _).alloc (Nat.le_refl _) _⟩
              · have q4 : n < 0 := by omega
                clear q3
                have HB := Lib.hid (show vTail 2 n refs.length = false from by first | rfl | (simp [vTail, *]; done) | (simp [vTail, *]; omega))
                go_wp2_with fail
                go_ret
                refine ⟨by rw [HV.out, HB.out]; first | rfl | simp, (Below.refl _ _).alloc (Nat.le_refl _) _⟩
            · have q2 : ((refs.length : Int) == 0) = false := by simpa using q1
              clear q1
              have HB := Lib.hid (show vTail 2 n refs.length = false from by first | rfl | (simp [vTail, *]; done) | (simp [vTail, *]; omega))
              go_wp2_with fail
              go_ret
              refine ⟨by rw [HV.out, HB.out]; first | rfl | simp, (Below.refl _ _).alloc (Nat.le_refl _) _⟩
          have p2 : (op == 2) = false := by simpa using o2
          by_cases o6 : op = 6
          · subst o6
            by_cases q3 : 0 ≤ n
            · have HB := Lib.hid (show vTail 6 n refs.length = decide (2 ≤ (refs.length : Int)) from by first | rfl | (simp [vTail, *]; done) | (simp [vTail, *]; omega))
              go_wp2_with fail
              go_ret
              refine ⟨by rw [HV.out, HB.out]; first | rfl | simp, (Below.refl _ _).alloc (Nat.le_refl _) _⟩
            · have q4 : n < 0 := by omega
              clear q3
              have HB := Lib.hid (show vTail 6 n refs.length = false from by first | rfl | (simp [vTail, *]; done) | (simp [vTail, *]; omega))
              go_wp2_with fail
              go_ret
              refine ⟨by rw [HV.out, HB.out]; first | rfl | simp, (Below.refl _ _).alloc (Nat.le_refl _) _⟩
          have p6 : (op == 6) = false := by simpa using o6
          by_cases o7 : op = 7
          · subst o7
            by_cases q3 : 0 ≤ n
            · have HB := Lib.hid (show vTail 7 n refs.length = ((refs.length : Int) == 1) from by first | rfl | (simp [vTail, *]; done) | (simp [vTail, *]; omega))
              go_wp2_with fail
              go_ret
              refine ⟨by rw [HV.out, HB.out]; first | rfl | simp, (Below.refl _ _).alloc (Nat.le_refl _) _⟩
            · have q4 : n < 0 := by omega
              clear q3
              have HB := Lib.hid (show vTail 7 n refs.length = false from by first | rfl | (simp [vTail, *]; done) | (simp [vTail, *]; omega))
              go_wp2_with fail
              go_ret
              refine ⟨by rw [HV.out, HB.out]; first | rfl | simp, (Below.refl _ _).alloc (Nat.le_refl _) _⟩
          have p7 : (op == 7) = false := by simpa using o7
          by_cases o9 : op = 9
          · subst o9
            by_cases q3 : 0 ≤ n
            · have HB := Lib.hid (show vTail 9 n refs.length = ((refs.length : Int) == 1) from by first | rfl | (simp [vTail, *]; done) | (simp [vTail, *]; omega))
              go_wp2_with fail
              go_ret
              refine ⟨by rw [HV.out, HB.out]; first | rfl | simp, (Below.refl _ _).alloc (Nat.le_refl _) _⟩
            · have q4 : n < 0 := by omega
              clear q3
              have HB := Lib.hid (show vTail 9 n refs.length = false from by first | rfl | (simp [vTail, *]; done) | (simp [vTail, *]; omega))
              go_wp2_with fail
              go_ret
              refine ⟨by rw [HV.out, HB.out]; first | rfl | simp, (Below.refl _ _).alloc (Nat.le_refl _) _⟩
          have p9 : (op == 9) = false := by simpa using o9
          have HB := Lib.hid (show vTail op n refs.length = decide (0 ≤ n) from by first | rfl | (simp [vTail, *]; done) | (simp [vTail, *]; omega))
          go_wp2_with fail
          go_ret
          refine ⟨by rw [HV.out, HB.out]; first | rfl | simp, (Below.refl _ _).alloc (Nat.le_refl _) _⟩
  · have HV := Lib.hid (vld_bad (o := ⟨op, n, ar, refs, words⟩) hbad)
    have hg : op < 1 ∨ (1 ≤ op ∧ 10 < op) ∨ (1 ≤ op ∧ op ≤ 10 ∧ op = 4 ∧ ar < 1) ∨ (1 ≤ op ∧ op ≤ 10 ∧ op ≠ 4 ∧ 1 ≤ ar) ∨ (1 ≤ op ∧ op ≤ 10 ∧ op ≠ 4 ∧ ar < 0) := by unfold HeadOk at hbad; omega
    clear hbad
    rcases hg with g | ⟨g, g'⟩ | ⟨g1, g2, rfl, g4⟩ | ⟨g1, g2, g3, g4⟩ | ⟨g1, g2, g3, g4⟩
    · go_enter Try.func53, Try.ntmps53
      go_wp2_with fail
      go_ret
      exact ⟨by rw [HV.out]; rfl, (Below.refl _ _).alloc (Nat.le_refl _) _⟩
    · go_enter Try.func53, Try.ntmps53
      go_wp2_with fail
      go_ret
      exact ⟨by rw [HV.out]; rfl, (Below.refl _ _).alloc (Nat.le_refl _) _⟩
    · have g5 : decide (1 ≤ ar) = false := by simp; omega
      go_enter Try.func53, Try.ntmps53
      go_wp2_with fail
      go_ret
      exact ⟨by rw [HV.out]; rfl, (Below.refl _ _).alloc (Nat.le_refl _) _⟩
    · have g5 : decide (1 ≤ ar) = true := by simp; omega
      have g6 : (op == 4) = false := by simpa using g3
      have g7 : (ar == 0) = false := by simp; omega
      have g8 : ((op == 4) = decide (1 ≤ ar)) = False := by simp [g6]; omega
      go_enter Try.func53, Try.ntmps53
      go_wp2_with fail
      go_ret
      exact ⟨by rw [HV.out]; rfl, (Below.refl _ _).alloc (Nat.le_refl _) _⟩
    · have g5 : decide (1 ≤ ar) = false := by simp; omega
      have g6 : (op == 4) = false := by simpa using g3
      have g7 : (ar == 0) = false := by simp; omega
      have g8 : (op != 4) = true := by simpa using g3
      have g9 : (ar != 0) = true := by simp; omega
      go_enter Try.func53, Try.ntmps53
      go_wp2_with fail
      go_ret
      exact ⟨by rw [HV.out]; rfl, (Below.refl _ _).alloc (Nat.le_refl _) _⟩

end Go.Proofs.Ytobniolmielikaa
