/- Texts of the collector's proof, joined: Heap1, Heap2, Heap3. -/
import Derived.Test.YtobniolmielikaaRows
import Derived.Test.YtobniolmielikaaZaa
import Derived.Deep.QuietTactic
import Derived.BigQuiet
import Derived.Deep.RegionWith
/- Contracts of the heap's small functions; no condition. -/
namespace Go.Proofs.Ytobniolmielikaa
open Go.RowKit

theorem info3 : (Try.prog.info? 3).map (fun i => (i.zero, i.size, i.bytes)) = some (some (.int .i64 0), 1, 8) := by kernel_rfl

set_option maxHeartbeats 400000 in
theorem clone_any (ok : Nat → Prop) (v : Value) (xs : List Int) (w : World) (h : Ints ok w v xs) :
    Calls Try.prog 93 #[v] w fun e w' => ∃ v', e = .returned v' ∧ IntsR 3 w.heap.size w' v' xs ∧ Below w.heap.size w w' := by
  have h0 := Lib.hid h
  obtain ⟨A, cap, rfl, h1, h2, h3, h4, h5⟩ := h
  cases A with
  | none =>
    have hc := h3 rfl
    have hy : xs = [] := List.eq_nil_of_length_eq_zero (by omega)
    subst hc hy
    clear h1 h2 h3 h4 h5
    have hn := fun w => Lib.run_eql_slice_nil (P := Try.prog) w 23 3 none 0 0 0 0 Try.underlying23
    go_enter Try.func93, Try.ntmps93
    go_wp2
    go_ret
    exact ⟨_, rfl, IntsR.nil _ _ _, Below.refl _ _⟩
  | some ad =>
    have hl := h5.1
    have hw := h5.2
    clear h1 h2 h3 h4 h5
    have Hw := Lib.hid hw
    clear hw
    have hn := fun w => Lib.run_eql_slice_nil (P := Try.prog) w 23 3 (some ad) xs.length cap 0 0 Try.underlying23
    go_enter Try.func93, Try.ntmps93
    go_wp2_with (at_builtin; refine wpList_append_ints _ rfl _ _ 23 rfl w.heap.size 3 Try.underlying23 info3 _ 0 [] rfl (World.ownsRow_made w #[] 0 (Nat.le_refl _) (by simp [maxLen]) rfl) ok _ xs rfl (h0.out.alloc _) (by omega) (by simp) ?_; intro v' w' hown hg)
    go_ret
    exact ⟨_, rfl, intsR_of_row (n := xs.length) (by simpa using hown) (by omega) Hw.out, ((Below.refl _ _).alloc (Nat.le_refl _) _).grown hg (by simp) (fun k hk => by cases hk; exact Nat.le_refl _)⟩

/-- A heap object. -/
structure Ob where
  op : Int
  n : Int
  ar : Int
  refs : List Int
  words : List Int

/-- v is the object o, in blocks that meet ok. -/
def ObAt (ok : Nat → Prop) (w : World) (v : Value) (o : Ob) : Prop :=
  ∃ rv wv, v = .agg #[.int .i64 o.op, .int .i64 o.n, .int .i64 o.ar, rv, wv] ∧ Ints ok w rv o.refs ∧ Ints ok w wv o.words

/-- v is the object o, in rows of ints from base on. -/
def ObR (base : Nat) (w : World) (v : Value) (o : Ob) : Prop := ∃ rv wv, v = .agg #[.int .i64 o.op, .int .i64 o.n, .int .i64 o.ar, rv, wv] ∧ IntsR 3 base w rv o.refs ∧ IntsR 3 base w wv o.words
theorem ObR.at {base : Nat} {w : World} {v : Value} {o : Ob} (h : ObR base w v o) : ObAt (fun b => base ≤ b ∧ IsRow 3 w b) w v o := h
theorem ObR.turn {base : Nat} {S : Nat → Prop} {w w' : World} {v : Value} {o : Ob} (h : ObR base w v o) (ht : Turn S w w') (hn : ∀ b, base ≤ b → IsRow 3 w b → ¬ S b) : ObR base w' v o := by
  obtain ⟨rv, wv, rfl, h1, h2⟩ := h
  exact ⟨rv, wv, rfl, h1.turn ht hn, h2.turn ht hn⟩
theorem ObR.fresh {base : Nat} {w w' : World} {v : Value} {o : Ob} (h : ObR base w v o) (hb : Below w.heap.size w w') : ObR base w' v o := by
  obtain ⟨rv, wv, rfl, h1, h2⟩ := h
  exact ⟨rv, wv, rfl, h1.fresh hb, h2.fresh hb⟩
theorem ObR.base {base base' : Nat} {w : World} {v : Value} {o : Ob} (h : ObR base w v o) (hb : base' ≤ base) : ObR base' w v o := by
  obtain ⟨rv, wv, rfl, h1, h2⟩ := h
  exact ⟨rv, wv, rfl, h1.base hb, h2.base hb⟩

theorem ObAt.keep {ok : Nat → Prop} {w w' : World} {v : Value} {o : Ob} (h : ObAt ok w v o) (hs : w.heap.size ≤ w'.heap.size) (hb : ∀ b, ok b → b < w.heap.size → w'.heap[b]? = w.heap[b]?) : ObAt ok w' v o := by
  obtain ⟨rv, wv, rfl, h1, h2⟩ := h
  exact ⟨rv, wv, rfl, h1.keep hs hb, h2.keep hs hb⟩
theorem ObAt.fresh {ok : Nat → Prop} {w w' : World} {v : Value} {o : Ob} (h : ObAt ok w v o) (hb : Below w.heap.size w w') : ObAt ok w' v o :=
  h.keep hb.size fun b _ hl => hb.block b hl
theorem ObAt.below {ok : Nat → Prop} {B : Nat} {w w' : World} {v : Value} {o : Ob} (h : ObAt ok w v o) (hb : Below B w w') (ho : ∀ b, ok b → b < w.heap.size → b < B) : ObAt ok w' v o :=
  h.keep hb.size fun b hk hl => hb.block b (ho b hk hl)
theorem ObAt.turn {ok S : Nat → Prop} {w w' : World} {v : Value} {o : Ob} (h : ObAt ok w v o) (ht : Turn S w w') (ho : ∀ b, ok b → ¬ S b) : ObAt ok w' v o :=
  h.keep ht.size fun b hk hl => ht.block b hl (ho b hk)
theorem ObAt.mono {ok ok' : Nat → Prop} {w : World} {v : Value} {o : Ob} (h : ObAt ok w v o) (ho : ∀ b, b < w.heap.size → ok b → ok' b) : ObAt ok' w v o := by
  obtain ⟨rv, wv, rfl, h1, h2⟩ := h
  exact ⟨rv, wv, rfl, h1.mono ho, h2.mono ho⟩

set_option maxHeartbeats 400000 in
theorem copied_any (ok : Nat → Prop) (v : Value) (o : Ob) (w : World) (h : ObAt ok w v o) :
    Calls Try.prog 54 #[v] w fun e w' => ∃ v', e = .returned v' ∧ ObR w.heap.size w' v' o ∧ Below w.heap.size w w' := by
  obtain ⟨rv, wv, rfl, h1, h2⟩ := h
  obtain ⟨ra, rc, rfl⟩ := h1.shape
  obtain ⟨wa, wc, rfl⟩ := h2.shape
  have H1 := Lib.hid h1
  have H2 := Lib.hid h2
  clear h1 h2
  go_enter Try.func54, Try.ntmps54
  go_wp2_with fail
  refine (clone_any ok _ _ _ ((H1.out.alloc _).alloc _)).mono ?_
  rintro e w1 ⟨r1, rfl, i1, b1⟩
  obtain ⟨ra1, rc1, rfl⟩ := Ints.shape i1
  have I1 := Lib.hid i1
  clear i1
  have h1 := rowB b1 (new20 _ _ _) (by simp <;> omega)
  have h2 := rowB b1 (new21 _ _ _) (by simp <;> omega)
  have bw := below_then (((Below.refl w.heap.size w).alloc (Nat.le_refl _) _).alloc (by simp) _) (by simp <;> omega) b1
  have c1 := cellsH h1
  have c2 := cellsH h2
  have f1 := freeH h1
  have f2 := freeH h2
  go_wp2_with fail
  refine (clone_any ok _ _ _ (H2.out.fresh (bw.setCell (Nat.le_refl _) _))).mono ?_
  rintro e w2 ⟨r2, rfl, i2, b2⟩
  obtain ⟨ra2, rc2, rfl⟩ := Ints.shape i2
  have I2 := Lib.hid i2
  clear i2 c1 c2 f1 f2
  have h3 := rowB b2 (rowSet h1 3 _) (heap_lt (rowSet h1 3 _))
  have h4 := rowB b2 (rowSetNe (k := w.heap.size) h2 (by omega) _) (heap_lt (rowSetNe (k := w.heap.size) (i := 3) h2 (by omega) _))
  clear h1 h2
  have c1 := cellsH h3
  have c2 := cellsH h4
  have f1 := freeH h3
  have f2 := freeH h4
  go_wp2_with fail
  clear c1 c2 f1 f2
  have h5 := rowSet (rowSet (rowSet (rowSet (rowSet (rowSetNe (k := w.heap.size) (i := 4) h4 (by omega) (.slice ra2 o.words.length rc2)) 0 (.int .i64 o.op)) 1 (.int .i64 o.n)) 2 (.int .i64 o.ar)) 3 (.slice ra1 o.refs.length rc1)) 4 (.slice ra2 o.words.length rc2)
  have c5 := cellsH h5
  have z1 : w.heap.size ≤ w1.heap.size := bw.size
  have z2 : w1.heap.size ≤ w2.heap.size := by have := b2.size; simpa using this
  have bF : Below w.heap.size w _ := ((((((below_then (bw.setCell (Nat.le_refl _) (.slice ra1 o.refs.length rc1)) (by simpa using z1) b2).setCell (p := ⟨w.heap.size, 4, none⟩) (Nat.le_refl _) (.slice ra2 o.words.length rc2)).setCell (p := ⟨w.heap.size + 1, 0, none⟩) (by simp) (.int .i64 o.op)).setCell (p := ⟨w.heap.size + 1, 1, none⟩) (by simp) (.int .i64 o.n)).setCell (p := ⟨w.heap.size + 1, 2, none⟩) (by simp) (.int .i64 o.ar)).setCell (p := ⟨w.heap.size + 1, 3, none⟩) (by simp) (.slice ra1 o.refs.length rc1)).setCell (p := ⟨w.heap.size + 1, 4, none⟩) (by simp) (.slice ra2 o.words.length rc2)
  refine bodyPost_ret (v := .agg #[.int .i64 o.op, .int .i64 o.n, .int .i64 o.ar, .slice ra1 o.refs.length rc1, .slice ra2 o.words.length rc2]) (by simp [results, Try.results54, go_sem, c5]) rfl ⟨_, rfl, ⟨_, _, rfl, ?_, ?_⟩, bF⟩
  · refine IntsR.base (IntsR.turn (S := fun k => k = w.heap.size ∨ k = w.heap.size + 1) I1.out ?_ (fun b hb _ hs => by simp at hb; omega)) (by simp <;> omega)
    exact (((((((Turn.refl _ _).setCell (.inl rfl) _).then b2).setCell (.inl rfl) _).setCell (.inr rfl) _).setCell (.inr rfl) _).setCell (.inr rfl) _).setCell (.inr rfl) _ |>.setCell (.inr rfl) _
  · refine IntsR.base (IntsR.turn (S := fun k => k = w.heap.size ∨ k = w.heap.size + 1) I2.out ?_ (fun b hb _ hs => by have := b1.size; simp at hb this; omega)) (by simp <;> omega)
    exact (((((Turn.refl _ _).setCell (.inl rfl) _).setCell (.inr rfl) _).setCell (.inr rfl) _).setCell (.inr rfl) _).setCell (.inr rfl) _ |>.setCell (.inr rfl) _

/-- All are at least nought. -/
def NonNeg (l : List Int) : Prop := ∀ x ∈ l, 0 ≤ x
/-- The first test of 'valid' lets it by. -/
def HeadOk (op ar : Int) : Prop := ¬ (op < 1 ∨ 10 < op ∨ (op = 4 ∧ ar < 1) ∨ (op ≠ 4 ∧ ar ≠ 0))
/-- The last test of 'valid'. -/
def vTail (op n len : Int) : Bool :=
  if op = 1 then len == 0 else if op = 2 then len == 0 && decide (0 ≤ n) && decide (n ≤ 255) else if op = 6 then decide (0 ≤ n) && decide (2 ≤ len)
      else if op = 7 then decide (0 ≤ n) && len == 1 else if op = 9 then decide (0 ≤ n) && len == 1 else decide (0 ≤ n)
instance (op ar : Int) : Decidable (HeadOk op ar) := by unfold HeadOk; infer_instance
/-- Whether an object is valid. -/
def vld (o : Ob) : Bool := decide (HeadOk o.op o.ar) && o.refs.all (fun r => decide (0 ≤ r)) && vTail o.op o.n o.refs.length

theorem headOk_dec (op ar : Int) : decide (HeadOk op ar) = !(decide (op < 1) || decide (10 < op) || (decide (op = 4) && decide (ar < 1)) || (decide (op ≠ 4) && decide (ar ≠ 0))) := by
  unfold HeadOk
  by_cases h1 : op < 1 <;> by_cases h2 : 10 < op <;> by_cases h3 : op = 4 <;> by_cases h4 : ar < 1 <;> by_cases h5 : ar = 0 <;> simp [h1, h2, h3, h4, h5]
theorem vld_bad {o : Ob} (h : ¬ HeadOk o.op o.ar) : vld o = false := by simp [vld, h]
theorem vld_neg {op n ar : Int} {refs words : List Int} {k : Nat} {r : Int} (hlt : k < refs.length) (hr : refs[k] = r) (hneg : r < 0) : vld ⟨op, n, ar, refs, words⟩ = false := by
  have : refs.all (fun r => decide (0 ≤ r)) = false := by
    rw [List.all_eq_false]
    exact ⟨refs[k], List.getElem_mem hlt, by simp [hr]; omega⟩
  simp [vld, this]
theorem vld_good {op n ar : Int} {refs words : List Int} (h : HeadOk op ar) (hn : NonNeg refs) : vld ⟨op, n, ar, refs, words⟩ = vTail op n refs.length := by
  have : refs.all (fun r => decide (0 ≤ r)) = true := by
    rw [List.all_eq_true]
    intro x hx
    simpa using hn x hx
  simp [vld, this, h]
theorem nonNeg_succ {refs : List Int} {k : Nat} (hlt : k < refs.length) (h : NonNeg (refs.take k)) (h0 : 0 ≤ refs[k]) : NonNeg (refs.take (k + 1)) := by
  rw [List.take_succ_eq_append_getElem hlt]
  intro x hx
  rcases List.mem_append.1 hx with hx | hx
  · exact h x hx
  · simp at hx; omega

set_option maxHeartbeats 1000000 in
theorem valid_any (ok : Nat → Prop) (v : Value) (o : Ob) (w : World) (h : ObAt ok w v o) :
    Calls Try.prog 53 #[v] w fun e w' => e = .returned (.bool (vld o)) ∧ Below w.heap.size w w' := by
  obtain ⟨rv, wv, rfl, h1, h2⟩ := h
  obtain ⟨wa, wc, ewv⟩ := h2.shape
  obtain ⟨ra, rc, rfl, _, _, _, h4, h5, _⟩ := h1
  clear h2
  subst ewv
  obtain ⟨op, n, ar, refs, words⟩ := o
  dsimp only at *
  have H4 := Lib.hid h4
  clear h4
  by_cases hbad : HeadOk op ar
  · have HG := Lib.hid hbad
    have hd := headOk_dec op ar
    have hg : 1 ≤ op ∧ op ≤ 10 ∧ (op = 4 → 1 ≤ ar) ∧ (op ≠ 4 → ar = 0) := by unfold HeadOk at hbad; omega
    clear hbad hd
    obtain ⟨g1, g2, g3, g4⟩ := hg
    by_cases h4 : op = 4
    · have g3 := g3 h4
      clear g4
      subst h4
      go_enter Try.func53, Try.ntmps53
      go_wp2_with fail
      go_loop [35, 4] (fun i _ => ∃ k : Nat, k ≤ refs.length ∧ i = .int .i64 k ∧ NonNeg (refs.take k)) (fun i _ => refs.length - (intOf i).toNat)
      case atStart => exact ⟨0, Nat.zero_le _, rfl, by simp [NonNeg]⟩
      case round =>
        obtain ⟨k, hk, rfl, hnn⟩ := hrel
        have HN := Lib.hid hnn
        clear hnn
        by_cases hlt : k < refs.length
        · obtain ⟨ad, rfl, _, had, hc⟩ := H4.out (by omega)
          have hck := hc k _ (List.getElem?_eq_getElem hlt)
          have hck' := cellAlloc hck
          generalize hr : refs[k] = r at hck hck'
          have HR := Lib.hid hr
          clear hr hc hck
          by_cases hneg : r < 0
          · go_wp2_with fail
            go_ret
            refine ⟨by rw [vld_neg hlt HR.out hneg]; rfl, (Below.refl _ _).alloc (Nat.le_refl _) _⟩
          · go_wp2_with fail
            go_round
            case rel => exact ⟨k + 1, by omega, by go_num, nonNeg_succ hlt HN.out (by rw [HR.out]; omega)⟩
            case measure => simp [intOf]; omega
        · have he : k = refs.length := by omega
          have HV := Lib.hid (vld_good (n := n) (words := words) HG.out (by rw [he, List.take_length] at HN; exact HN.out))
          clear he
          have HB := Lib.hid (show vTail 4 n refs.length = decide (0 ≤ n) from by first | rfl | (simp [vTail, *]; done) | (simp [vTail, *]; omega))
          go_wp2_with fail
          go_ret
          refine ⟨by rw [HV.out, HB.out]; first | rfl | simp, (Below.refl _ _).alloc (Nat.le_refl _) _⟩
    · have g4 := g4 h4
      subst g4
      have h4b : (op == 4) = false := by simpa using h4
      clear g3
      go_enter Try.func53, Try.ntmps53
      go_wp2_with fail
      go_loop [35, 4] (fun i _ => ∃ k : Nat, k ≤ refs.length ∧ i = .int .i64 k ∧ NonNeg (refs.take k)) (fun i _ => refs.length - (intOf i).toNat)
      case atStart => exact ⟨0, Nat.zero_le _, rfl, by simp [NonNeg]⟩
      case round =>
        obtain ⟨k, hk, rfl, hnn⟩ := hrel
        have HN := Lib.hid hnn
        clear hnn
        by_cases hlt : k < refs.length
        · obtain ⟨ad, rfl, _, had, hc⟩ := H4.out (by omega)
          have hck := hc k _ (List.getElem?_eq_getElem hlt)
          have hck' := cellAlloc hck
          generalize hr : refs[k] = r at hck hck'
          have HR := Lib.hid hr
          clear hr hc hck
          by_cases hneg : r < 0
          · go_wp2_with fail
            go_ret
            refine ⟨by rw [vld_neg hlt HR.out hneg]; rfl, (Below.refl _ _).alloc (Nat.le_refl _) _⟩
          · go_wp2_with fail
            go_round
            case rel => exact ⟨k + 1, by omega, by go_num, nonNeg_succ hlt HN.out (by rw [HR.out]; omega)⟩
            case measure => simp [intOf]; omega
        · have he : k = refs.length := by omega
          have HV := Lib.hid (vld_good (n := n) (words := words) HG.out (by rw [he, List.take_length] at HN; exact HN.out))
          clear he
          by_cases o1 : op = 1
          · subst o1
            have HB := Lib.hid (show vTail 1 n refs.length = ((refs.length : Int) == 0) from by first | rfl | (simp [vTail, *]; done) | (simp [vTail, *]; omega))
            go_wp2_with fail
            go_ret
            refine ⟨by rw [HV.out, HB.out]; first | rfl | simp, (Below.refl _ _).alloc (Nat.le_refl _) _⟩
          have p1 : (op == 1) = false := by simpa using o1
          by_cases o2 : op = 2
          · subst o2
            by_cases q1 : refs.length = 0
            · have q2 : ((refs.length : Int) == 0) = true := by simp [q1]
              have Q1 := Lib.hid q1
              clear q1
              by_cases q3 : 0 ≤ n
              · have HB := Lib.hid (show vTail 2 n refs.length = decide (n ≤ 255) from by first | rfl | (simp [vTail, *]; done) | (simp [vTail, *]; omega))
                go_wp2_with fail
                go_ret
                refine ⟨by rw [HV.out, HB.out]; first | rfl | simp, (Below.refl _ _).alloc (Nat.le_refl _) _⟩
              · have q4 : n < 0 := by omega
                clear q3
                have HB := Lib.hid (show vTail 2 n refs.length = false from by first | rfl | (simp [vTail, *]; done) | (simp [vTail, *]; omega))
                go_wp2_with fail
                go_ret
                refine ⟨by rw [HV.out, HB.out]; first | rfl | simp, (Below.refl _ _).alloc (Nat.le_refl _) _⟩
            · have q2 : ((refs.length : Int) == 0) = false := by simpa using q1
              clear q1
              have HB := Lib.hid (show vTail 2 n refs.length = false from by first | rfl | (simp [vTail, *]; done) | (simp [vTail, *]; omega))
              go_wp2_with fail
              go_ret
              refine ⟨by rw [HV.out, HB.out]; first | rfl | simp, (Below.refl _ _).alloc (Nat.le_refl _) _⟩
          have p2 : (op == 2) = false := by simpa using o2
          by_cases o6 : op = 6
          · subst o6
            by_cases q3 : 0 ≤ n
            · have HB := Lib.hid (show vTail 6 n refs.length = decide (2 ≤ (refs.length : Int)) from by first | rfl | (simp [vTail, *]; done) | (simp [vTail, *]; omega))
              go_wp2_with fail
              go_ret
              refine ⟨by rw [HV.out, HB.out]; first | rfl | simp, (Below.refl _ _).alloc (Nat.le_refl _) _⟩
            · have q4 : n < 0 := by omega
              clear q3
              have HB := Lib.hid (show vTail 6 n refs.length = false from by first | rfl | (simp [vTail, *]; done) | (simp [vTail, *]; omega))
              go_wp2_with fail
              go_ret
              refine ⟨by rw [HV.out, HB.out]; first | rfl | simp, (Below.refl _ _).alloc (Nat.le_refl _) _⟩
          have p6 : (op == 6) = false := by simpa using o6
          by_cases o7 : op = 7
          · subst o7
            by_cases q3 : 0 ≤ n
            · have HB := Lib.hid (show vTail 7 n refs.length = ((refs.length : Int) == 1) from by first | rfl | (simp [vTail, *]; done) | (simp [vTail, *]; omega))
              go_wp2_with fail
              go_ret
              refine ⟨by rw [HV.out, HB.out]; first | rfl | simp, (Below.refl _ _).alloc (Nat.le_refl _) _⟩
            · have q4 : n < 0 := by omega
              clear q3
              have HB := Lib.hid (show vTail 7 n refs.length = false from by first | rfl | (simp [vTail, *]; done) | (simp [vTail, *]; omega))
              go_wp2_with fail
              go_ret
              refine ⟨by rw [HV.out, HB.out]; first | rfl | simp, (Below.refl _ _).alloc (Nat.le_refl _) _⟩
          have p7 : (op == 7) = false := by simpa using o7
          by_cases o9 : op = 9
          · subst o9
            by_cases q3 : 0 ≤ n
            · have HB := Lib.hid (show vTail 9 n refs.length = ((refs.length : Int) == 1) from by first | rfl | (simp [vTail, *]; done) | (simp [vTail, *]; omega))
              go_wp2_with fail
              go_ret
              refine ⟨by rw [HV.out, HB.out]; first | rfl | simp, (Below.refl _ _).alloc (Nat.le_refl _) _⟩
            · have q4 : n < 0 := by omega
              clear q3
              have HB := Lib.hid (show vTail 9 n refs.length = false from by first | rfl | (simp [vTail, *]; done) | (simp [vTail, *]; omega))
              go_wp2_with fail
              go_ret
              refine ⟨by rw [HV.out, HB.out]; first | rfl | simp, (Below.refl _ _).alloc (Nat.le_refl _) _⟩
          have p9 : (op == 9) = false := by simpa using o9
          have HB := Lib.hid (show vTail op n refs.length = decide (0 ≤ n) from by first | rfl | (simp [vTail, *]; done) | (simp [vTail, *]; omega))
          go_wp2_with fail
          go_ret
          refine ⟨by rw [HV.out, HB.out]; first | rfl | simp, (Below.refl _ _).alloc (Nat.le_refl _) _⟩
  · have HV := Lib.hid (vld_bad (o := ⟨op, n, ar, refs, words⟩) hbad)
    have hg : op < 1 ∨ (1 ≤ op ∧ 10 < op) ∨ (1 ≤ op ∧ op ≤ 10 ∧ op = 4 ∧ ar < 1) ∨ (1 ≤ op ∧ op ≤ 10 ∧ op ≠ 4 ∧ 1 ≤ ar) ∨ (1 ≤ op ∧ op ≤ 10 ∧ op ≠ 4 ∧ ar < 0) := by unfold HeadOk at hbad; omega
    clear hbad
    rcases hg with g | ⟨g, g'⟩ | ⟨g1, g2, rfl, g4⟩ | ⟨g1, g2, g3, g4⟩ | ⟨g1, g2, g3, g4⟩
    · go_enter Try.func53, Try.ntmps53
      go_wp2_with fail
      go_ret
      exact ⟨by rw [HV.out]; rfl, (Below.refl _ _).alloc (Nat.le_refl _) _⟩
    · go_enter Try.func53, Try.ntmps53
      go_wp2_with fail
      go_ret
      exact ⟨by rw [HV.out]; rfl, (Below.refl _ _).alloc (Nat.le_refl _) _⟩
    · have g5 : decide (1 ≤ ar) = false := by simp; omega
      go_enter Try.func53, Try.ntmps53
      go_wp2_with fail
      go_ret
      exact ⟨by rw [HV.out]; rfl, (Below.refl _ _).alloc (Nat.le_refl _) _⟩
    · have g5 : decide (1 ≤ ar) = true := by simp; omega
      have g6 : (op == 4) = false := by simpa using g3
      have g7 : (ar == 0) = false := by simp; omega
      have g8 : ((op == 4) = decide (1 ≤ ar)) = False := by simp [g6]; omega
      go_enter Try.func53, Try.ntmps53
      go_wp2_with fail
      go_ret
      exact ⟨by rw [HV.out]; rfl, (Below.refl _ _).alloc (Nat.le_refl _) _⟩
    · have g5 : decide (1 ≤ ar) = false := by simp; omega
      have g6 : (op == 4) = false := by simpa using g3
      have g7 : (ar == 0) = false := by simp; omega
      have g8 : (op != 4) = true := by simpa using g3
      have g9 : (ar != 0) = true := by simp; omega
      go_enter Try.func53, Try.ntmps53
      go_wp2_with fail
      go_ret
      exact ⟨by rw [HV.out]; rfl, (Below.refl _ _).alloc (Nat.le_refl _) _⟩

end Go.Proofs.Ytobniolmielikaa

/- Contracts of the heap's methods New, Alloc, Get, Set, Room; no condition. -/
namespace Go.Proofs.Ytobniolmielikaa
open Go.RowKit

/-- The contents of a heap. -/
structure HM where
  nur : Int
  eld : Int
  next : Int
  ly : List (Int × Ob)
  la : List (Int × Ob)

/-- Block b is a map of objects that reads as m. -/
def ObjMap (w : World) (b : Nat) (m : List (Int × Ob)) : Prop := ∃ l, MapAt w b l ∧ Kin (ObR 0 w) l m

/-- h, y, a: the blocks of a heap with the contents H. -/
structure HeapAt (w : World) (h y a : Nat) (H : HM) : Prop where
  row : w.heap[h]? = some (.cells #[.map (some y), .map (some a), .int .i64 H.nur, .int .i64 H.eld, .int .i64 H.next] 54)
  young : ObjMap w y H.ly
  old : ObjMap w a H.la
  ne : y ≠ a

theorem ObjMap.turn {S : Nat → Prop} {w w' : World} {b : Nat} {m : List (Int × Ob)} (h : ObjMap w b m) (ht : Turn S w w') (hb : ¬ S b) (hn : ∀ k, IsRow 3 w k → ¬ S k) : ObjMap w' b m := by
  obtain ⟨l, h1, h2⟩ := h
  exact ⟨l, h1.turn ht hb, h2.imp fun x y r => r.turn ht (fun k _ hk => hn k hk)⟩
theorem ObjMap.fresh {w w' : World} {b : Nat} {m : List (Int × Ob)} (h : ObjMap w b m) (hb : Below w.heap.size w w') : ObjMap w' b m := by
  obtain ⟨l, h1, h2⟩ := h
  exact ⟨l, h1.below hb h1.lt, h2.imp fun x y r => r.fresh hb⟩
theorem HeapAt.fresh {w w' : World} {h y a : Nat} {H : HM} (hh : HeapAt w h y a H) (hb : Below w.heap.size w w') : HeapAt w' h y a H :=
  ⟨rowB hb hh.row (heap_lt hh.row), hh.young.fresh hb, hh.old.fresh hb, hh.ne⟩
theorem HeapAt.turn {S : Nat → Prop} {w w' : World} {h y a : Nat} {H : HM} (hh : HeapAt w h y a H) (ht : Turn S w w') (h1 : ¬ S h) (h2 : ¬ S y) (h3 : ¬ S a) (hn : ∀ k, IsRow 3 w k → ¬ S k) : HeapAt w' h y a H :=
  ⟨rowT ht hh.row h1, hh.young.turn ht h2 hn, hh.old.turn ht h3 hn, hh.ne⟩

/-- The blocks of a heap. -/
def HB (h y a : Nat) (k : Nat) : Prop := k = h ∨ k = y ∨ k = a
theorem HeapAt.notRow {w : World} {h y a : Nat} {H : HM} (hh : HeapAt w h y a H) : ∀ k, IsRow 3 w k → ¬ HB h y a k := by
  rintro k ⟨cs, f, hk⟩ (rfl | rfl | rfl)
  · rw [hh.row] at hk; simp at hk
  · obtain ⟨l, ⟨es, c, h1, _⟩, _⟩ := hh.young; rw [h1] at hk; simp at hk
  · obtain ⟨l, ⟨es, c, h1, _⟩, _⟩ := hh.old; rw [h1] at hk; simp at hk

theorem zero25 (w : World) : (zeroValue 25).run Try.prog w = .ok (.agg #[.int .i64 0, .int .i64 0, .int .i64 0, .slice none 0 0, .slice none 0 0]) w := by kernel_rfl

set_option maxHeartbeats 400000 in
theorem made_any (h y : Nat) (w : World) (hc : w.cell? ⟨h, 0, none⟩ = some (.map (some y))) :
    Calls Try.prog 52 #[.pointer (some ⟨h, 0, none⟩)] w fun e w' => e = .returned (.bool true) ∧ w' = w := by
  have hn := fun w => run_neq_map_nil (P := Try.prog) w 52 3 25 (some y) Try.underlying52
  go_enter Try.func52, Try.ntmps52
  go_wp2
  go_ret
  exact ⟨rfl, rfl⟩

/-- What New makes of two sizes. -/
def newOk (n o : Int) : Bool := decide (1 ≤ n) && decide (n ≤ 65536) && decide (1 ≤ o) && decide (o ≤ 65536)

set_option maxHeartbeats 400000 in
theorem new_no (n o : Int) (w : World) (h : newOk n o = false) : Calls Try.prog 15 #[.int .i64 n, .int .i64 o] w fun e w' => e = .returned (.tuple #[.pointer none, .int .i64 39]) ∧ w' = w := by
  have hg : n < 1 ∨ (1 ≤ n ∧ 65536 < n) ∨ (1 ≤ n ∧ n ≤ 65536 ∧ o < 1) ∨ (1 ≤ n ∧ n ≤ 65536 ∧ 1 ≤ o ∧ 65536 < o) := by simp [newOk] at h; omega
  clear h
  rcases hg with g | ⟨g, g'⟩ | ⟨g1, g2, g3⟩ | ⟨g1, g2, g3, g4⟩ <;> (go_enter Try.func15, Try.ntmps15; go_wp2; go_ret2; exact ⟨rfl, rfl⟩)

set_option maxHeartbeats 400000 in
theorem new_yes (n o : Int) (w : World) (h : newOk n o = true) : Calls Try.prog 15 #[.int .i64 n, .int .i64 o] w fun e w' => ∃ h y a, e = .returned (.tuple #[.pointer (some ⟨h, 0, none⟩), .int .i64 0]) ∧
    HeapAt w' h y a ⟨n, o, 0, [], []⟩ ∧ w.heap.size ≤ h ∧ w.heap.size ≤ y ∧ w.heap.size ≤ a ∧ Below w.heap.size w w' := by
  have hg : 1 ≤ n ∧ n ≤ 65536 ∧ 1 ≤ o ∧ o ≤ 65536 := by simp [newOk] at h; omega
  clear h
  obtain ⟨g1, g2, g3, g4⟩ := hg
  have hmm := @run_makeMap Try.prog
  go_enter Try.func15, Try.ntmps15
  go_wp2
  go_ret2
  refine ⟨w.heap.size + 1 + 1, w.heap.size, w.heap.size + 1, rfl, ⟨new32 _ _ _ _, ⟨[], (((MapAt.made w).alloc _).alloc _), .nil⟩, ⟨[], ?_, .nil⟩, by omega⟩, by omega, by omega, by omega, ?_⟩
  · have := (MapAt.made (w.alloc (.map #[] 0))).alloc (.cells #[.map (some w.heap.size), .map (some (w.heap.size + 1)), .int .i64 n, .int .i64 o, .int .i64 0] 54)
    simpa using this
  · exact (((Below.refl w.heap.size w).alloc (Nat.le_refl _) _).alloc (by simp) _).alloc (by simp <;> omega) _
set_option maxHeartbeats 400000 in
theorem room_any (w : World) (h y a : Nat) (H : HM) (hh : HeapAt w h y a H) :
    Calls Try.prog 20 #[.pointer (some ⟨h, 0, none⟩)] w fun e w' => e = .returned (.int .i64 (wrap64 (H.nur - H.ly.length))) ∧ ∃ n, w' = w.drewN n := by
  obtain ⟨ly, hm, hk⟩ := hh.young
  have hl := hk.length
  have c := cellsH hh.row
  have c0 : w.cell? ⟨h, 0, none⟩ = some (.map (some y)) := c 0
  have c2 : w.cell? ⟨h, 2, none⟩ = some (.int .i64 H.nur) := c 2
  have M := Lib.hid (made_any h y w c0)
  rw [← hl]
  clear hl hk hh c
  have hlen := fun n ty => run_len_map (P := Try.prog) (k := 3) (e := 25) Try.underlying52 (hm.drewN n) ty
  have hlen0 := fun ty => run_len_map (P := Try.prog) (k := 3) (e := 25) Try.underlying52 hm ty
  go_enter Try.func20, Try.ntmps20
  go_wp2_with fail
  refine M.out.mono ?_
  rintro e w' ⟨rfl, rfl⟩
  go_wp2_with fail
  go_quiet (fail)
  go_wp2_with fail
  go_ret
  exact ⟨rfl, nq, rfl⟩

theorem below_turn {w w' : World} (hb : Below w.heap.size w w') (S : Nat → Prop) : Turn S w w' := turn_of_below hb fun k h1 h2 => by omega

theorem undrew {w w' : World} (h : Below w.drew.heap.size w.drew w') : Below w.heap.size w w' := ⟨h.os, h.tape, h.output, h.size, h.block⟩
theorem HeapAt.hy {w : World} {h y a : Nat} {H : HM} (hh : HeapAt w h y a H) : h ≠ y := by
  rintro rfl
  obtain ⟨l, ⟨es, c, h1, _⟩, _⟩ := hh.young
  rw [hh.row] at h1; simp at h1
theorem HeapAt.ha {w : World} {h y a : Nat} {H : HM} (hh : HeapAt w h y a H) : h ≠ a := by
  rintro rfl
  obtain ⟨l, ⟨es, c, h1, _⟩, _⟩ := hh.old
  rw [hh.row] at h1; simp at h1
theorem intrude {S : Nat → Prop} {w w' : World} {h y a : Nat} (hs : ∀ k, S k → HB h y a k) (ht : Turn S w w') : Turn (HB h y a) w w' := ht.mono fun k _ => hs k

/-- What Alloc answers, and the heap behind it. -/
def HM.alloc (H : HM) (o : Ob) : Int × Int × HM :=
  if vld o = true then (if H.nur ≤ H.ly.length then (0, 33, H) else (H.next, 0, { H with ly := put H.ly H.next o, next := wrap64 (H.next + 1) })) else (0, 1, H)

set_option maxHeartbeats 400000 in
theorem alloc_any (ok : Nat → Prop) (w : World) (h y a : Nat) (H : HM) (v : Value) (o : Ob) (hh : HeapAt w h y a H) (ho : ObAt ok w v o) :
    Calls Try.prog 16 #[.pointer (some ⟨h, 0, none⟩), v] w fun e w' => e = .returned (.tuple #[.int .i64 (H.alloc o).1, .int .i64 (H.alloc o).2.1]) ∧ HeapAt w' h y a (H.alloc o).2.2 ∧ Turn (HB h y a) w w' := by
  have hlt := heap_lt hh.row
  have c := cellsH hh.row
  have c0 : w.cell? ⟨h, 0, none⟩ = some (.map (some y)) := c 0
  clear c
  have HH := Lib.hid hh
  have ho0 := ho
  obtain ⟨rv, wv, rfl, h1, h2⟩ := ho
  obtain ⟨ra, rc, rfl⟩ := h1.shape
  obtain ⟨wa, wc, rfl⟩ := h2.shape
  have HO := Lib.hid ho0
  clear ho0 h1 h2 hh
  have c0' := cellAlloc c0
  have M := Lib.hid (fun o => made_any h y (w.alloc o) (c0' o))
  clear c0 c0'
  by_cases hv : vld o = true
  · have HV := Lib.hid hv
    by_cases hfull : H.nur ≤ H.ly.length
    · have HA := Lib.hid (show H.alloc o = (0, 33, H) by simp [HM.alloc, hv, hfull])
      have HF := Lib.hid hfull
      clear hv hfull
      go_enter Try.func16, Try.ntmps16
      go_wp2_with fail
      refine (M.out _).mono ?_
      rintro e w1 ⟨rfl, rfl⟩
      go_wp2_with fail
      refine (valid_any ok _ o _ (HO.out.fresh ((Below.refl _ _).alloc (Nat.le_refl _) _))).mono ?_
      rintro e w2 ⟨rfl, hb⟩
      rw [HV.out]
      have hb2 := below_then ((Below.refl _ _).alloc (Nat.le_refl _) _) (by simp) hb
      have hh2 := HH.out.fresh hb2
      have c := cellsH hh2.row
      have c0 : w2.cell? ⟨h, 0, none⟩ = some (.map (some y)) := c 0
      have c2 : w2.cell? ⟨h, 2, none⟩ = some (.int .i64 H.nur) := c 2
      clear c
      obtain ⟨ly, hm, hk⟩ := hh2.young
      have hf : H.nur ≤ (ly.length : Int) := by rw [hk.length]; exact HF.out
      clear hk hh2
      have hlen := fun n ty => run_len_map (P := Try.prog) (k := 3) (e := 25) Try.underlying52 (hm.drewN n) ty
      have hlen0 := fun ty => run_len_map (P := Try.prog) (k := 3) (e := 25) Try.underlying52 hm ty
      go_wp2_with fail
      go_quiet (fail)
      go_wp2_with fail
      go_ret2
      rw [HA.out]
      have hb3 : Below w.heap.size w (w2.drewN nq) := below_drewN hb2 nq
      exact ⟨rfl, HH.out.fresh hb3, below_turn hb3 _⟩
    · have HA := Lib.hid (show H.alloc o = (H.next, 0, { H with ly := put H.ly H.next o, next := wrap64 (H.next + 1) }) by simp [HM.alloc, hv, hfull])
      have HF := Lib.hid hfull
      clear hv hfull
      go_enter Try.func16, Try.ntmps16
      go_wp2_with fail
      refine (M.out _).mono ?_
      rintro e w1 ⟨rfl, rfl⟩
      go_wp2_with fail
      refine (valid_any ok _ o _ (HO.out.fresh ((Below.refl _ _).alloc (Nat.le_refl _) _))).mono ?_
      rintro e w2 ⟨rfl, hb⟩
      rw [HV.out]
      have hbox := rowB hb (new0 _ _) (by simp)
      have hb2 := below_then ((Below.refl _ _).alloc (Nat.le_refl _) _) (by simp) hb
      have hh2 := HH.out.fresh hb2
      have c := cellsH hh2.row
      have c0 : w2.cell? ⟨h, 0, none⟩ = some (.map (some y)) := c 0
      have c2 : w2.cell? ⟨h, 2, none⟩ = some (.int .i64 H.nur) := c 2
      have c4 : w2.cell? ⟨h, 4, none⟩ = some (.int .i64 H.next) := c 4
      clear c
      obtain ⟨ly, hm, hk⟩ := hh2.young
      have hf : (ly.length : Int) < H.nur := by rw [hk.length]; have := HF.out; omega
      have HK := Lib.hid hk
      have HH2 := Lib.hid hh2
      clear hk hh2
      have hlen := fun n ty => run_len_map (P := Try.prog) (k := 3) (e := 25) Try.underlying52 (hm.drewN n) ty
      have hlen0 := fun ty => run_len_map (P := Try.prog) (k := 3) (e := 25) Try.underlying52 hm ty
      go_wp2_with fail
      go_quiet (fail)
      clear hlen hlen0
      go_wp2_with fail
      clear hm c0 c2 c4
      have hb3 : Below w.heap.size w (w2.drewN nq) := below_drewN hb2 nq
      have hbox3 : (w2.drewN nq).heap[w.heap.size]? = _ := hbox
      have hlt3 : w.heap.size < (w2.drewN nq).heap.size := heap_lt hbox
      clear hbox hb2 hb HH2 HK
      generalize w2.drewN nq = w3 at *
      have HH3 := Lib.hid (HH.out.fresh hb3)
      have B3 := Lib.hid hb3
      have X3 := Lib.hid hbox3
      have c := cellsH HH3.out.row
      have d := cellsH hbox3
      have c0 : w3.cell? ⟨h, 0, none⟩ = some (.map (some y)) := c 0
      clear hb3 hbox3 c
      go_region_with (go_at_call 54; refine (copied_any ok _ o _ (by exact (HO.out.fresh B3.out.drew))).mono ?_; rintro e w4 ⟨v', rfl, hov, hb4⟩; have HV4 := Lib.hid hov; have B4 := Lib.hid hb4; have c4 : w4.cell? ⟨h, 0, none⟩ = some (.map (some y)) := (hb4.cell (by simp <;> omega)).trans c0; clear hov hb4; have HH4 := Lib.hid (HH3.out.fresh (undrew B4.out)); obtain ⟨ly', hm', hk'⟩ := HH4.out.young; have HK4 := Lib.hid hk'; clear hk'; obtain ⟨w5, hrun, hm5, ht5, hs5⟩ := run_update_map (P := Try.prog) (k := 3) (e := 25) Try.underlying52 Try.underlying3 hm' H.next v'; have HM5 := Lib.hid hm5; have HT5 := Lib.hid ht5; have HS5 := Lib.hid hs5; clear hm' hm5 ht5 hs5)
      all_goals
        have HR5 := Lib.hid (rowT HT5.out HH4.out.row HH4.out.hy)
        have c := cellsH HR5.out
        have f4 := freeH HR5.out 4
        have c4 : w5.cell? ⟨h, 4, none⟩ = some (.int .i64 H.next) := c 4
        clear c
        go_wp2_with fail
        go_ret2
        rw [HA.out]
        have T : Turn (fun k => k = h ∨ k = y) w4 (w5.setCell ⟨h, 4, none⟩ (.int .i64 (wrap64 (H.next + 1)))) := (HT5.out.mono fun k _ hk => .inr hk).setCell (.inl rfl) _
        have hn := HH4.out.notRow
        have hnr : ∀ k, IsRow 3 w4 k → ¬ (k = h ∨ k = y) := fun k hk hs => hn k hk (by rcases hs with hs | hs <;> simp [HB, hs])
        refine ⟨rfl, ⟨rowSet HR5.out 4 _, ⟨_, HM5.out.setCell HH4.out.hy.symm _, Kin.put (HK4.out.imp fun x y r => r.turn T fun k _ => hnr k) _ ((HV4.out.base (Nat.zero_le _)).turn T fun k _ => hnr k)⟩, HH4.out.old.turn T (fun e => by rcases e with e | e; exact HH4.out.ha e.symm; exact HH4.out.ne e.symm) hnr, HH4.out.ne⟩, ?_⟩
        refine Turn.trans (Turn.trans (below_turn B3.out _) (below_turn (undrew B4.out) _)) (T.mono fun k _ hk => ?_)
        rcases hk with hk | hk <;> simp [HB, hk]
  · have hv' : vld o = false := by simpa using hv
    have HA := Lib.hid (show H.alloc o = (0, 1, H) by simp [HM.alloc, hv'])
    have HV := Lib.hid hv'
    clear hv hv'
    go_enter Try.func16, Try.ntmps16
    go_wp2_with fail
    refine (M.out _).mono ?_
    rintro e w1 ⟨rfl, rfl⟩
    go_wp2_with fail
    refine (valid_any ok _ o _ (HO.out.fresh ((Below.refl _ _).alloc (Nat.le_refl _) _))).mono ?_
    rintro e w2 ⟨rfl, hb⟩
    rw [HV.out]
    go_wp2_with fail
    go_ret2
    rw [HA.out]
    have hb2 := below_then ((Below.refl _ _).alloc (Nat.le_refl _) _) (by simp) hb
    exact ⟨rfl, HH.out.fresh hb2, below_turn hb2 _⟩
end Go.Proofs.Ytobniolmielikaa

/- Contracts of the heap's methods Get and Set; no condition. -/
namespace Go.Proofs.Ytobniolmielikaa
open Go.RowKit

def ob0 : Ob := ⟨0, 0, 0, [], []⟩
theorem obR0 (b : Nat) (w : World) : ObR b w (.agg #[.int .i64 0, .int .i64 0, .int .i64 0, .slice none 0 0, .slice none 0 0]) ob0 := ⟨_, _, rfl, IntsR.nil _ _ _, IntsR.nil _ _ _⟩

/-- What Get answers. -/
def HM.get (H : HM) (k : Int) : Ob × Int :=
  match Go.Proofs.Ytobniolmielikaa.get H.ly k with
  | some o => (o, 0)
  | none => match Go.Proofs.Ytobniolmielikaa.get H.la k with
    | some o => (o, 0)
    | none => (ob0, 35)

/-- As the walk meets an object. -/
theorem ObR.open {b : Nat} {w : World} {v : Value} {o : Ob} (h : ObR b w v o) : ∃ ra rc wa wc, v = .agg #[.int .i64 o.op, .int .i64 o.n, .int .i64 o.ar, .slice ra o.refs.length rc, .slice wa o.words.length wc] := by
  obtain ⟨rv, wv, rfl, h1, h2⟩ := h
  obtain ⟨ra, rc, rfl⟩ := Ints.shape h1
  obtain ⟨wa, wc, rfl⟩ := Ints.shape h2
  exact ⟨_, _, _, _, rfl⟩

/-- Five cells written one behind the other. -/
def set5 (w : World) (g : Nat) (a b c d e : Value) : World := ((((w.setCell ⟨g, 0, none⟩ a).setCell ⟨g, 1, none⟩ b).setCell ⟨g, 2, none⟩ c).setCell ⟨g, 3, none⟩ d).setCell ⟨g, 4, none⟩ e
theorem set5_row {w : World} {g : Nat} {x0 x1 x2 x3 x4 : Value} {T : TypeId} {f : Nat × Nat} (h : w.heap[g]? = some (.cells #[x0, x1, x2, x3, x4] T f)) (a b c d e : Value) : (set5 w g a b c d e).heap[g]? = some (.cells #[a, b, c, d, e] T f) :=
  rowSet (rowSet (rowSet (rowSet (rowSet h 0 a) 1 b) 2 c) 3 d) 4 e
theorem set5_turn {S : Nat → Prop} {w0 w : World} {g : Nat} (ht : Turn S w0 w) (hg : S g) (a b c d e : Value) : Turn S w0 (set5 w g a b c d e) :=
  ((((ht.setCell (p := ⟨g, 0, none⟩) hg a).setCell (p := ⟨g, 1, none⟩) hg b).setCell (p := ⟨g, 2, none⟩) hg c).setCell (p := ⟨g, 3, none⟩) hg d).setCell (p := ⟨g, 4, none⟩) hg e
theorem set5_below {B : Nat} {w0 w : World} {g : Nat} (ht : Below B w0 w) (hg : B ≤ g) (a b c d e : Value) : Below B w0 (set5 w g a b c d e) :=
  ((((ht.setCell (p := ⟨g, 0, none⟩) hg a).setCell (p := ⟨g, 1, none⟩) hg b).setCell (p := ⟨g, 2, none⟩) hg c).setCell (p := ⟨g, 3, none⟩) hg d).setCell (p := ⟨g, 4, none⟩) hg e

set_option maxHeartbeats 400000 in
theorem get_any (w : World) (h y a : Nat) (H : HM) (k : Int) (hh : HeapAt w h y a H) :
    Calls Try.prog 18 #[.pointer (some ⟨h, 0, none⟩), .int .i64 k] w fun e w' => ∃ v, e = .returned (.tuple #[v, .int .i64 (H.get k).2]) ∧ ObR w.heap.size w' v (H.get k).1 ∧ Below w.heap.size w w' := by
  have hlt := heap_lt hh.row
  have c := cellsH hh.row
  have c0 : w.cell? ⟨h, 0, none⟩ = some (.map (some y)) := c 0
  have c1 : w.cell? ⟨h, 1, none⟩ = some (.map (some a)) := c 1
  clear c
  have c0' := cellAlloc c0
  have c1' := cellAlloc c1
  have M := Lib.hid (fun o => made_any h y (w.alloc o) (c0' o))
  clear c0 c1
  have HH := Lib.hid hh
  obtain ⟨ly, hmy, hky⟩ := hh.young
  obtain ⟨la, hma, hka⟩ := hh.old
  clear hh
  have ly1 := fun o => run_lookup_map (P := Try.prog) (t := 52) (k := 3) (e := 25) Try.underlying52 Try.underlying3 (zero25 _) (hmy.alloc o) k true
  have la1 := fun o p => run_lookup_map (P := Try.prog) (t := 52) (k := 3) (e := 25) Try.underlying52 Try.underlying3 (zero25 _) ((hma.alloc o).alloc p) k true
  rcases hky.get k with ⟨g1, g2⟩ | ⟨v, o, g1, g2, hv⟩
  · simp only [g1, Option.getD_none, Option.isSome_none] at ly1
    rcases hka.get k with ⟨g3, g4⟩ | ⟨v, o, g3, g4, hv⟩
    · have HG := Lib.hid (show H.get k = (ob0, 35) by simp [HM.get, g2, g4])
      simp only [g3, Option.getD_none, Option.isSome_none] at la1
      clear hmy hma hky hka g1 g2 g3 g4
      go_enter Try.func18, Try.ntmps18
      go_wp2_with fail
      refine (M.out _).mono ?_
      rintro e w1 ⟨rfl, rfl⟩
      go_wp2_with fail
      rw [HG.out]
      refine bodyPost_ret (v := .tuple #[.agg #[.int .i64 0, .int .i64 0, .int .i64 0, .slice none 0 0, .slice none 0 0], .int .i64 35]) (by simp [results, Try.results18, go_sem]) rfl ⟨_, rfl, obR0 _ _, (((Below.refl w.heap.size w).alloc (Nat.le_refl _) _).alloc (by simp) _).alloc (by simp <;> omega) _⟩
    · have HG := Lib.hid (show H.get k = (o, 0) by simp [HM.get, g2, g4])
      obtain ⟨ra, rc, wa, wc, ev⟩ := hv.open
      have HV := Lib.hid hv
      clear hv hmy hma hky hka g2 g4
      subst ev
      simp only [g3, Option.getD_some, Option.isSome_some] at la1
      clear g1 g3
      go_enter Try.func18, Try.ntmps18
      go_wp2_with fail
      refine (M.out _).mono ?_
      rintro e w1 ⟨rfl, rfl⟩
      go_wp2_with fail
      have b0 : Below w.heap.size w _ := (((Below.refl w.heap.size w).alloc (Nat.le_refl _) (.cells #[.int .i64 0, .int .i64 0, .int .i64 0, .slice none 0 0, .slice none 0 0] 25)).alloc (by simp) (.cells #[.int .i64 0, .int .i64 0, .int .i64 0, .slice none 0 0, .slice none 0 0] 25)).alloc (by simp <;> omega) (.cells #[.int .i64 o.op, .int .i64 o.n, .int .i64 o.ar, .slice ra o.refs.length rc, .slice wa o.words.length wc] 25)
      refine (copied_any _ _ o _ (HV.out.fresh b0).at).mono ?_
      rintro e w3 ⟨v', rfl, hv', hb'⟩
      obtain ⟨ra', rc', wa', wc', ev'⟩ := hv'.open
      have HV' := Lib.hid hv'
      clear hv'
      subst ev'
      have hrow := rowB hb' (new30 _ _ _ _) (by simp <;> omega)
      have B' := Lib.hid hb'
      have B0 := Lib.hid b0
      clear hb' b0
      have c := cellsH hrow
      have f := freeH hrow
      have HR := Lib.hid hrow
      clear hrow
      go_wp2_with fail
      clear c f
      have c := cellsH (set5_row HR.out (.int .i64 o.op) (.int .i64 o.n) (.int .i64 o.ar) (.slice ra' o.refs.length rc') (.slice wa' o.words.length wc'))
      unfold set5 at c
      rw [HG.out]
      refine bodyPost_ret (v := .tuple #[.agg #[.int .i64 o.op, .int .i64 o.n, .int .i64 o.ar, .slice ra' o.refs.length rc', .slice wa' o.words.length wc'], .int .i64 0]) (by simp [results, Try.results18, go_sem, c]) rfl ⟨_, rfl, ?_, ?_⟩
      · refine ((HV'.out.turn (set5_turn (S := fun k => k = w.heap.size) (Turn.refl _ _) rfl _ _ _ _ _) ?_).base (by simp <;> omega))
        intro b hb _ e
        simp at hb
        omega
      · exact set5_below (below_then B0.out (by simp <;> omega) B'.out) (Nat.le_refl _) _ _ _ _ _
  · have HG := Lib.hid (show H.get k = (o, 0) by simp [HM.get, g2])
    obtain ⟨ra, rc, wa, wc, ev⟩ := hv.open
    have HV := Lib.hid hv
    clear hv hmy hma hky hka la1 g2
    subst ev
    simp only [g1, Option.getD_some, Option.isSome_some] at ly1
    clear g1
    go_enter Try.func18, Try.ntmps18
    go_wp2_with fail
    refine (M.out _).mono ?_
    rintro e w1 ⟨rfl, rfl⟩
    go_wp2_with fail
    have b0 : Below w.heap.size w _ := ((Below.refl w.heap.size w).alloc (Nat.le_refl _) (.cells #[.int .i64 0, .int .i64 0, .int .i64 0, .slice none 0 0, .slice none 0 0] 25)).alloc (by simp) (.cells #[.int .i64 o.op, .int .i64 o.n, .int .i64 o.ar, .slice ra o.refs.length rc, .slice wa o.words.length wc] 25)
    refine (copied_any _ _ o _ (HV.out.fresh b0).at).mono ?_
    rintro e w3 ⟨v', rfl, hv', hb'⟩
    obtain ⟨ra', rc', wa', wc', ev'⟩ := hv'.open
    have HV' := Lib.hid hv'
    clear hv'
    subst ev'
    have hrow := rowB hb' (new20 _ _ _) (by simp <;> omega)
    have B' := Lib.hid hb'
    have B0 := Lib.hid b0
    clear hb' b0
    have c := cellsH hrow
    have f := freeH hrow
    have HR := Lib.hid hrow
    clear hrow
    go_wp2_with fail
    clear c f
    have c := cellsH (set5_row HR.out (.int .i64 o.op) (.int .i64 o.n) (.int .i64 o.ar) (.slice ra' o.refs.length rc') (.slice wa' o.words.length wc'))
    unfold set5 at c
    rw [HG.out]
    refine bodyPost_ret (v := .tuple #[.agg #[.int .i64 o.op, .int .i64 o.n, .int .i64 o.ar, .slice ra' o.refs.length rc', .slice wa' o.words.length wc'], .int .i64 0]) (by simp [results, Try.results18, go_sem, c]) rfl ⟨_, rfl, ?_, ?_⟩
    · refine ((HV'.out.turn (set5_turn (S := fun k => k = w.heap.size) (Turn.refl _ _) rfl _ _ _ _ _) ?_).base (by simp <;> omega))
      intro b hb _ e
      simp at hb
      omega
    · exact set5_below (below_then B0.out (by simp <;> omega) B'.out) (Nat.le_refl _) _ _ _ _ _
/-- What Set answers, and the heap behind it. -/
def HM.set (H : HM) (k : Int) (o : Ob) : Int × HM :=
  if vld o = true then
    (match Go.Proofs.Ytobniolmielikaa.get H.ly k with
    | some _ => (0, { H with ly := put H.ly k o })
    | none => match Go.Proofs.Ytobniolmielikaa.get H.la k with
      | some _ => (0, { H with la := put H.la k o })
      | none => (35, H))
  else (1, H)

set_option maxHeartbeats 400000 in
theorem set_any (ok : Nat → Prop) (w : World) (h y a : Nat) (H : HM) (k : Int) (v : Value) (o : Ob) (hh : HeapAt w h y a H) (ho : ObAt ok w v o) :
    Calls Try.prog 17 #[.pointer (some ⟨h, 0, none⟩), .int .i64 k, v] w fun e w' => e = .returned (.int .i64 (H.set k o).1) ∧ HeapAt w' h y a (H.set k o).2 ∧ Turn (HB h y a) w w' := by
  have hlt := heap_lt hh.row
  have c := cellsH hh.row
  have c0 : w.cell? ⟨h, 0, none⟩ = some (.map (some y)) := c 0
  have c1 : w.cell? ⟨h, 1, none⟩ = some (.map (some a)) := c 1
  clear c
  have HH := Lib.hid hh
  have ho0 := ho
  obtain ⟨rv, wv, rfl, h1, h2⟩ := ho
  obtain ⟨ra, rc, rfl⟩ := h1.shape
  obtain ⟨wa, wc, rfl⟩ := h2.shape
  have HO := Lib.hid ho0
  clear ho0 h1 h2
  have c0' := cellAlloc c0
  have M := Lib.hid (fun o => made_any h y (w.alloc o) (c0' o))
  clear c0 c1 c0'
  by_cases hv : vld o = true
  · have HV := Lib.hid hv
    obtain ⟨ly, hmy, hky⟩ := hh.young
    obtain ⟨la, hma, hka⟩ := hh.old
    clear hh
    have HMy := Lib.hid hmy
    have HMa := Lib.hid hma
    rcases hky.get k with ⟨g1, g2⟩ | ⟨v0, o0, g1, g2, hv0⟩
    · have G1 := Lib.hid g1
      rcases hka.get k with ⟨g3, g4⟩ | ⟨v0, o0, g3, g4, hv0⟩
      · have HA := Lib.hid (show H.set k o = (35, H) by simp [HM.set, hv, g2, g4])
        have G3 := Lib.hid g3
        clear hv hmy hma hky hka g1 g2 g3 g4
        go_enter Try.func17, Try.ntmps17
        go_wp2_with fail
        refine (M.out _).mono ?_
        rintro e w1 ⟨rfl, rfl⟩
        go_wp2_with fail
        refine (valid_any ok _ o _ (HO.out.fresh ((Below.refl _ _).alloc (Nat.le_refl _) _))).mono ?_
        rintro e w2 ⟨rfl, hb⟩
        rw [HV.out]
        have hbox := rowB hb (new0 _ _) (by simp)
        have hb2 := below_then ((Below.refl _ _).alloc (Nat.le_refl _) _) (by simp) hb
        have hh2 := HH.out.fresh hb2
        have c := cellsH hh2.row
        have c0 : w2.cell? ⟨h, 0, none⟩ = some (.map (some y)) := c 0
        have c1 : w2.cell? ⟨h, 1, none⟩ = some (.map (some a)) := c 1
        clear c
        have c0' := cellAlloc c0
        have c1' := cellAlloc c1
        have hmy2 := HMy.out.below hb2 HMy.out.lt
        have hma2 := HMa.out.below hb2 HMa.out.lt
        have ly1 := run_lookup_map (P := Try.prog) (t := 52) (k := 3) (e := 25) Try.underlying52 Try.underlying3 (zero25 _) hmy2 k true
        have la1 := fun p => run_lookup_map (P := Try.prog) (t := 52) (k := 3) (e := 25) Try.underlying52 Try.underlying3 (zero25 _) (hma2.alloc p) k true
        simp only [G1.out, Option.getD_none, Option.isSome_none] at ly1
        simp only [G3.out, Option.getD_none, Option.isSome_none] at la1
        go_wp2_with fail
        go_ret
        rw [HA.out]
        have hb3 := (hb2.alloc hb2.size (.cells #[.int .i64 0, .int .i64 0, .int .i64 0, .slice none 0 0, .slice none 0 0] 25)).alloc (by have := hb2.size; simp <;> omega) (.cells #[.int .i64 0, .int .i64 0, .int .i64 0, .slice none 0 0, .slice none 0 0] 25)
        exact ⟨rfl, HH.out.fresh hb3, below_turn hb3 _⟩
      · have HA := Lib.hid (show H.set k o = (0, { H with la := put H.la k o }) by simp [HM.set, hv, g2, g4])
        have G3 := Lib.hid g3
        obtain ⟨ra0, rc0, wa0, wc0, ev⟩ := hv0.open
        clear hv0 hv hmy hma hky hka g1 g2 g4
        subst ev
        clear g3
        go_enter Try.func17, Try.ntmps17
        go_wp2_with fail
        refine (M.out _).mono ?_
        rintro e w1 ⟨rfl, rfl⟩
        go_wp2_with fail
        refine (valid_any ok _ o _ (HO.out.fresh ((Below.refl _ _).alloc (Nat.le_refl _) _))).mono ?_
        rintro e w2 ⟨rfl, hb⟩
        rw [HV.out]
        have hbox := rowB hb (new0 _ _) (by simp)
        have hb2 := below_then ((Below.refl _ _).alloc (Nat.le_refl _) _) (by simp) hb
        have hh2 := HH.out.fresh hb2
        have c := cellsH hh2.row
        have c0 : w2.cell? ⟨h, 0, none⟩ = some (.map (some y)) := c 0
        have c1 : w2.cell? ⟨h, 1, none⟩ = some (.map (some a)) := c 1
        clear c
        have c0' := cellAlloc c0
        have c1' := cellAlloc c1
        have hmy2 := HMy.out.below hb2 HMy.out.lt
        have hma2 := HMa.out.below hb2 HMa.out.lt
        have ly1 := run_lookup_map (P := Try.prog) (t := 52) (k := 3) (e := 25) Try.underlying52 Try.underlying3 (zero25 _) hmy2 k true
        have la1 := fun p => run_lookup_map (P := Try.prog) (t := 52) (k := 3) (e := 25) Try.underlying52 Try.underlying3 (zero25 _) (hma2.alloc p) k true
        simp only [G1.out, Option.getD_none, Option.isSome_none] at ly1
        simp only [G3.out, Option.getD_some, Option.isSome_some] at la1
        go_wp2_with fail
        have hb3 : Below w.heap.size w ((w2.alloc (.cells #[.int .i64 0, .int .i64 0, .int .i64 0, .slice none 0 0, .slice none 0 0] 25)).alloc (.cells #[.int .i64 o0.op, .int .i64 o0.n, .int .i64 o0.ar, .slice ra0 o0.refs.length rc0, .slice wa0 o0.words.length wc0] 25)) := (hb2.alloc hb2.size _).alloc (by have := hb2.size; simp <;> omega) _
        have hbox3 : ((w2.alloc (.cells #[.int .i64 0, .int .i64 0, .int .i64 0, .slice none 0 0, .slice none 0 0] 25)).alloc (.cells #[.int .i64 o0.op, .int .i64 o0.n, .int .i64 o0.ar, .slice ra0 o0.refs.length rc0, .slice wa0 o0.words.length wc0] 25)).heap[w.heap.size]? = _ := old1 (old1 hbox _) _
        have hlt3 : w.heap.size < ((w2.alloc (.cells #[.int .i64 0, .int .i64 0, .int .i64 0, .slice none 0 0, .slice none 0 0] 25)).alloc (.cells #[.int .i64 o0.op, .int .i64 o0.n, .int .i64 o0.ar, .slice ra0 o0.refs.length rc0, .slice wa0 o0.words.length wc0] 25)).heap.size := heap_lt hbox3
        clear hbox hb2 hb hh2 hmy2 hma2 ly1 la1 c0 c1 c0' c1'
        generalize ((w2.alloc (.cells #[.int .i64 0, .int .i64 0, .int .i64 0, .slice none 0 0, .slice none 0 0] 25)).alloc (.cells #[.int .i64 o0.op, .int .i64 o0.n, .int .i64 o0.ar, .slice ra0 o0.refs.length rc0, .slice wa0 o0.words.length wc0] 25)) = w3 at *
        have HH3 := Lib.hid (HH.out.fresh hb3)
        have B3 := Lib.hid hb3
        have X3 := Lib.hid hbox3
        have c := cellsH HH3.out.row
        have d := cellsH hbox3
        have c0 : w3.cell? ⟨h, 1, none⟩ = some (.map (some a)) := c 1
        clear hb3 hbox3 c
        go_region_with (go_at_call 54; refine (copied_any ok _ o _ (by exact (HO.out.fresh B3.out.drew))).mono ?_; rintro e w4 ⟨v', rfl, hov, hb4⟩; have HV4 := Lib.hid hov; have B4 := Lib.hid hb4; have c4 : w4.cell? ⟨h, 1, none⟩ = some (.map (some a)) := (hb4.cell (by simp <;> omega)).trans c0; clear hov hb4; have HH4 := Lib.hid (HH3.out.fresh (undrew B4.out)); obtain ⟨ly', hm', hk'⟩ := HH4.out.old; have HK4 := Lib.hid hk'; clear hk'; obtain ⟨w5, hrun, hm5, ht5, hs5⟩ := run_update_map (P := Try.prog) (k := 3) (e := 25) Try.underlying52 Try.underlying3 hm' k v'; have HM5 := Lib.hid hm5; have HT5 := Lib.hid ht5; have HS5 := Lib.hid hs5; clear hm' hm5 ht5 hs5)
        all_goals
          go_wp2_with fail
          go_ret
          rw [HA.out]
          have hn := HH4.out.notRow
          have hnr : ∀ q, IsRow 3 w4 q → ¬ (q = a) := fun q hk hs => hn q hk (by simp [HB, hs])
          refine ⟨rfl, ⟨rowT HT5.out HH4.out.row HH4.out.ha, HH4.out.young.turn HT5.out (fun e => HH4.out.ne e) hnr, ⟨_, HM5.out, Kin.put (HK4.out.imp fun x y r => r.turn HT5.out fun q _ => hnr q) _ ((HV4.out.base (Nat.zero_le _)).turn HT5.out fun q _ => hnr q)⟩, HH4.out.ne⟩, ?_⟩
          refine Turn.trans (Turn.trans (below_turn B3.out _) (below_turn (undrew B4.out) _)) (HT5.out.mono fun q _ hk => ?_)
          simp [HB, hk]
    · have HA := Lib.hid (show H.set k o = (0, { H with ly := put H.ly k o }) by simp [HM.set, hv, g2])
      obtain ⟨ra0, rc0, wa0, wc0, ev⟩ := hv0.open
      clear hv0 hv hmy hma hky hka g2
      subst ev
      have G1 := Lib.hid g1
      clear g1
      go_enter Try.func17, Try.ntmps17
      go_wp2_with fail
      refine (M.out _).mono ?_
      rintro e w1 ⟨rfl, rfl⟩
      go_wp2_with fail
      refine (valid_any ok _ o _ (HO.out.fresh ((Below.refl _ _).alloc (Nat.le_refl _) _))).mono ?_
      rintro e w2 ⟨rfl, hb⟩
      rw [HV.out]
      have hbox := rowB hb (new0 _ _) (by simp)
      have hb2 := below_then ((Below.refl _ _).alloc (Nat.le_refl _) _) (by simp) hb
      have hh2 := HH.out.fresh hb2
      have c := cellsH hh2.row
      have c0 : w2.cell? ⟨h, 0, none⟩ = some (.map (some y)) := c 0
      have c1 : w2.cell? ⟨h, 1, none⟩ = some (.map (some a)) := c 1
      clear c
      have c0' := cellAlloc c0
      have c1' := cellAlloc c1
      have hmy2 := HMy.out.below hb2 HMy.out.lt
      have hma2 := HMa.out.below hb2 HMa.out.lt
      have ly1 := run_lookup_map (P := Try.prog) (t := 52) (k := 3) (e := 25) Try.underlying52 Try.underlying3 (zero25 _) hmy2 k true
      have la1 := fun p => run_lookup_map (P := Try.prog) (t := 52) (k := 3) (e := 25) Try.underlying52 Try.underlying3 (zero25 _) (hma2.alloc p) k true
      simp only [G1.out, Option.getD_some, Option.isSome_some] at ly1
      go_wp2_with fail
      have hb3 : Below w.heap.size w (w2.alloc (.cells #[.int .i64 o0.op, .int .i64 o0.n, .int .i64 o0.ar, .slice ra0 o0.refs.length rc0, .slice wa0 o0.words.length wc0] 25)) := hb2.alloc hb2.size _
      have hbox3 : (w2.alloc (.cells #[.int .i64 o0.op, .int .i64 o0.n, .int .i64 o0.ar, .slice ra0 o0.refs.length rc0, .slice wa0 o0.words.length wc0] 25)).heap[w.heap.size]? = _ := old1 hbox _
      have hlt3 : w.heap.size < (w2.alloc (.cells #[.int .i64 o0.op, .int .i64 o0.n, .int .i64 o0.ar, .slice ra0 o0.refs.length rc0, .slice wa0 o0.words.length wc0] 25)).heap.size := heap_lt hbox3
      clear hbox hb2 hb hh2 hmy2 hma2 ly1 la1 c0 c1 c0' c1'
      generalize (w2.alloc (.cells #[.int .i64 o0.op, .int .i64 o0.n, .int .i64 o0.ar, .slice ra0 o0.refs.length rc0, .slice wa0 o0.words.length wc0] 25)) = w3 at *
      have HH3 := Lib.hid (HH.out.fresh hb3)
      have B3 := Lib.hid hb3
      have X3 := Lib.hid hbox3
      have c := cellsH HH3.out.row
      have d := cellsH hbox3
      have c0 : w3.cell? ⟨h, 0, none⟩ = some (.map (some y)) := c 0
      clear hb3 hbox3 c
      go_region_with (go_at_call 54; refine (copied_any ok _ o _ (by exact (HO.out.fresh B3.out.drew))).mono ?_; rintro e w4 ⟨v', rfl, hov, hb4⟩; have HV4 := Lib.hid hov; have B4 := Lib.hid hb4; have c4 : w4.cell? ⟨h, 0, none⟩ = some (.map (some y)) := (hb4.cell (by simp <;> omega)).trans c0; clear hov hb4; have HH4 := Lib.hid (HH3.out.fresh (undrew B4.out)); obtain ⟨ly', hm', hk'⟩ := HH4.out.young; have HK4 := Lib.hid hk'; clear hk'; obtain ⟨w5, hrun, hm5, ht5, hs5⟩ := run_update_map (P := Try.prog) (k := 3) (e := 25) Try.underlying52 Try.underlying3 hm' k v'; have HM5 := Lib.hid hm5; have HT5 := Lib.hid ht5; have HS5 := Lib.hid hs5; clear hm' hm5 ht5 hs5)
      all_goals
        go_wp2_with fail
        go_ret
        rw [HA.out]
        have hn := HH4.out.notRow
        have hnr : ∀ q, IsRow 3 w4 q → ¬ (q = y) := fun q hk hs => hn q hk (by simp [HB, hs])
        refine ⟨rfl, ⟨rowT HT5.out HH4.out.row HH4.out.hy, ⟨_, HM5.out, Kin.put (HK4.out.imp fun x y r => r.turn HT5.out fun q _ => hnr q) _ ((HV4.out.base (Nat.zero_le _)).turn HT5.out fun q _ => hnr q)⟩, HH4.out.old.turn HT5.out (fun e => HH4.out.ne e.symm) hnr, HH4.out.ne⟩, ?_⟩
        refine Turn.trans (Turn.trans (below_turn B3.out _) (below_turn (undrew B4.out) _)) (HT5.out.mono fun q _ hk => ?_)
        simp [HB, hk]
  · have hv' : vld o = false := by simpa using hv
    have HA := Lib.hid (show H.set k o = (1, H) by simp [HM.set, hv'])
    have HV := Lib.hid hv'
    clear hv hv' hh
    go_enter Try.func17, Try.ntmps17
    go_wp2_with fail
    refine (M.out _).mono ?_
    rintro e w1 ⟨rfl, rfl⟩
    go_wp2_with fail
    refine (valid_any ok _ o _ (HO.out.fresh ((Below.refl _ _).alloc (Nat.le_refl _) _))).mono ?_
    rintro e w2 ⟨rfl, hb⟩
    rw [HV.out]
    go_wp2_with fail
    go_ret
    rw [HA.out]
    have hb2 := below_then ((Below.refl _ _).alloc (Nat.le_refl _) _) (by simp) hb
    exact ⟨rfl, HH.out.fresh hb2, below_turn hb2 _⟩
end Go.Proofs.Ytobniolmielikaa

