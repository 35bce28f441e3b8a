/- types.Fun: it applies the arrow to its parameters, from the last to the first; no condition. -/
import Derived.Test.YtmehknlijcbphaaGreatDoorSeq
import Derived.Test.YtmehknlijcbphaaGreatDoorEv16
namespace Go.Proofs.YtmehknlijcbphaaGreatDoor
open Go Go.RowKit Go.Shelf Ev
attribute [local go_sem] Oper.semAt_some

def arrowAV : AV := .agg [.lit (.int .i64 2), .lit (.string ⟨#[45, 62]⟩), .lit (.slice none 0 0), .lit (.slice none 0 0)]
/-- One parameter more. -/
def funStep (ap : List AV → Option AV) (ps : List AV) (j : Nat) (acc : List AV) : Option (List AV) :=
  match ap [arrowAV, .sl 2 ((ps.drop (j * 4)).take 4 ++ acc) none] with
  | some (.agg cs) => if cs.length = 4 then cs.mapM (strip noBox 50) else none
  | _ => none
def funIdx (ap : List AV → Option AV) (ps : List AV) : List Nat → List AV → Option (List AV)
  | [], acc => some acc
  | j :: r, acc => match funStep ap ps j acc with
    | some acc => funIdx ap ps r acc
    | none => none
theorem funIdx_snoc (ap : List AV → Option AV) (ps : List AV) : ∀ (l : List Nat) (j : Nat) (acc : List AV), funIdx ap ps (l ++ [j]) acc = (funIdx ap ps l acc).bind (funStep ap ps j)
  | [], j, acc => by
    simp only [List.nil_append, funIdx, Option.bind_some]
    cases funStep ap ps j acc <;> rfl
  | i :: l, j, acc => by
    simp only [List.cons_append, funIdx]
    cases funStep ap ps i acc with
    | none => rfl
    | some a => exact funIdx_snoc ap ps l j a
theorem funIdx_some (ap : List AV → Option AV) (ps : List AV) : ∀ (l l' : List Nat) (acc r : List AV), funIdx ap ps (l ++ l') acc = some r → ∃ m, funIdx ap ps l acc = some m
  | [], _, acc, _, _ => ⟨acc, rfl⟩
  | j :: l, l', acc, r, h => by
    simp only [List.cons_append, funIdx] at h ⊢
    cases hs : funStep ap ps j acc with
    | none => rw [hs] at h; cases h
    | some a => rw [hs] at h; exact funIdx_some ap ps l l' a r h

/-- The parameters that k rounds have taken, in their order. -/
def seqTo (n k : Nat) : List Nat := (List.range k).map fun i => n - 1 - i
theorem seqTo_succ (n k : Nat) : seqTo n (k + 1) = seqTo n k ++ [n - 1 - k] := by simp [seqTo, List.range_succ]
theorem seqTo_split (n : Nat) {k : Nat} (h : k ≤ n) : ∃ r, seqTo n n = seqTo n k ++ r := by
  obtain ⟨m, rfl⟩ := Nat.exists_eq_add_of_le h
  refine ⟨(List.map (fun x => k + x) (List.range m)).map fun i => k + m - 1 - i, ?_⟩
  simp only [seqTo, List.range_add, List.map_append]
theorem step_at {ap : List AV → Option AV} {ps ts acc a : List AV} {n k : Nat} (hk : k < n) (h : funIdx ap ps (seqTo n n) ts = some acc) (ha : funIdx ap ps (seqTo n k) ts = some a) : ∃ b, funStep ap ps (n - 1 - k) a = some b ∧ funIdx ap ps (seqTo n (k + 1)) ts = some b := by
  obtain ⟨r, hr⟩ := seqTo_split n (show k + 1 ≤ n by omega)
  rw [hr] at h
  obtain ⟨m, hm⟩ := funIdx_some ap ps _ _ _ _ h
  have h2 := hm
  rw [seqTo_succ, funIdx_snoc, ha] at h2
  exact ⟨m, h2, hm⟩

theorem le_arg {W W' : World} {ok ok' : Nat → Nat → Prop} (h : ∀ b o, ok b o → ok' b o) (hc : ∀ b o v, ok b o → W.cell? ⟨b, o, none⟩ = some v → W'.cell? ⟨b, o, none⟩ = some v) : Le (argCx W ok) (argCx W' ok') :=
  ⟨h, hc, fun _ _ h => h, fun _ h => h, fun _ _ _ h => h.elim⟩

/-- What the loop keeps: the result so far, in its box. -/
def FunI [Syms] (ap : List AV → Option AV) (w0 : World) (ok : Nat → Nat → Prop) (ps ts : List AV) (n N k : Nat) (W : World) : Prop :=
  ∃ (ok' : Nat → Nat → Prop) (acc : List AV) (x0 x1 x2 x3 : Value), (∀ b o, ok b o → ok' b o) ∧ (∀ b o, ok' b o → (ok b o ∨ N + 3 ≤ b) ∧ b < W.heap.size) ∧ funIdx ap ps (seqTo n k) ts = some acc ∧ RealL (argCx W ok') acc [x0, x1, x2, x3] ∧
    W.heap[N]? = some (.cells #[x0, x1, x2, x3] 39 (0, 0)) ∧ (x0.oneCell' = true ∧ x1.oneCell' = true ∧ x2.oneCell' = true ∧ x3.oneCell' = true) ∧ Below N w0 W ∧ N + 3 ≤ W.heap.size

theorem funI_own [Syms] {ap : List AV → Option AV} {w0 : World} {ok : Nat → Nat → Prop} {ps ts : List AV} {n N B : Nat} (hB : N ≤ B) : OwnFrom B (FunI ap w0 ok ps ts n N) := by
  rintro k W W' row ⟨ok', acc, x0, x1, x2, x3, h1, h2, h3, h4, h5, h6, h7, h8⟩ hg hr
  have hkeep : ∀ b : Nat, (∃ cs t fr, W.heap[b]? = some (Obj.cells cs t fr)) → W'.heap[b]? = W.heap[b]? := by
    rintro b ⟨cs, t, fr, hb⟩
    refine hg.block b (Array.getElem?_eq_some_iff.1 hb).1 (fun e => ?_)
    obtain ⟨_, o, ho, hc⟩ := hr b e.symm
    rw [hb] at ho
    injection ho with ho
    subst ho
    cases hc
  have hcell : ∀ b o v, W.cell? ⟨b, o, none⟩ = some v → W'.cell? ⟨b, o, none⟩ = some v := by
    intro b o v hv
    rw [cell_eq (hkeep b ?_)]
    · exact hv
    · unfold World.cell? at hv
      split at hv
      · rename_i cs t fr hb
        exact ⟨cs, t, fr, hb⟩
      · cases hv
  refine ⟨ok', acc, x0, x1, x2, x3, h1, fun b o hb => ⟨(h2 b o hb).1, Nat.lt_of_lt_of_le (h2 b o hb).2 hg.size⟩, h3, h4.le (le_arg (fun _ _ h => h) (fun b o v _ hv => hcell b o v hv)), (hkeep N ⟨_, _, _, h5⟩).trans h5, h6, ?_, Nat.le_trans h8 hg.size⟩
  exact h7.grown hg (by omega) (fun k e => Nat.le_trans hB (hr k e).1)

theorem ownFrom_cells {β : Type} {B k : Nat} {cs : Array Value} {t : TypeId} {fr : Nat × Nat} : OwnFrom B (fun (_ : β) W => W.heap[k]? = some (Obj.cells cs t fr)) := by
  intro s W W' row hs hg hr
  refine (hg.block k (Array.getElem?_eq_some_iff.1 hs).1 (fun e => ?_)).trans hs
  obtain ⟨_, o, ho, hc⟩ := hr k e.symm
  rw [hs] at ho
  injection ho with ho
  subst ho
  cases hc
theorem cells4 {w : World} {b : Nat} {x0 x1 x2 x3 : Value} {t : TypeId} (h : w.heap[b]? = some (.cells #[x0, x1, x2, x3] t (0, 0))) :
    w.cell? ⟨b, 0, none⟩ = some x0 ∧ w.cell? ⟨b, 1, none⟩ = some x1 ∧ w.cell? ⟨b, 2, none⟩ = some x2 ∧ w.cell? ⟨b, 3, none⟩ = some x3 := by
  simp [World.cell?, h]
theorem frozen4 {w : World} {b : Nat} {cs : Array Value} {t : TypeId} (h : w.heap[b]? = some (.cells cs t (0, 0))) (o : Nat) : w.frozen? ⟨b, o, none⟩ = false := by
  simp [World.frozen?, h]

theorem setCell_at {w : World} {b off : Nat} {v : Value} {cs : Array Value} {t : TypeId} {fr : Nat × Nat} (h : w.heap[b]? = some (.cells cs t fr)) : (w.setCell ⟨b, off, none⟩ v).heap[b]? = some (.cells (cs.setIfInBounds off v) t fr) := by
  simp [World.setCell, Array.getElem?_modify, h]
theorem setCell_size (w : World) (p : Addr) (v : Value) : (w.setCell p v).heap.size = w.heap.size := by simp [World.setCell]
/-- Four cells are stored. -/
def set4 (w : World) (b : Nat) (y0 y1 y2 y3 : Value) : World := (((w.setCell ⟨b, 0, none⟩ y0).setCell ⟨b, 1, none⟩ y1).setCell ⟨b, 2, none⟩ y2).setCell ⟨b, 3, none⟩ y3
theorem set4_at {w : World} {b : Nat} {x0 x1 x2 x3 y0 y1 y2 y3 : Value} {t : TypeId} (h : w.heap[b]? = some (.cells #[x0, x1, x2, x3] t (0, 0))) : (set4 w b y0 y1 y2 y3).heap[b]? = some (.cells #[y0, y1, y2, y3] t (0, 0)) := by
  unfold set4
  have h1 := setCell_at (off := 0) (v := y0) h
  have h2 := setCell_at (off := 1) (v := y1) h1
  have h3 := setCell_at (off := 2) (v := y2) h2
  have h4 := setCell_at (off := 3) (v := y3) h3
  simpa using h4
theorem set4_other {w : World} {b k : Nat} {y0 y1 y2 y3 : Value} (h : k ≠ b) : (set4 w b y0 y1 y2 y3).heap[k]? = w.heap[k]? := by
  unfold set4
  rw [Below.heap_setCell _ _ _ _ h, Below.heap_setCell _ _ _ _ h, Below.heap_setCell _ _ _ _ h, Below.heap_setCell _ _ _ _ h]
theorem set4_size (w : World) (b : Nat) (y0 y1 y2 y3 : Value) : (set4 w b y0 y1 y2 y3).heap.size = w.heap.size := by
  unfold set4
  simp only [setCell_size]
theorem set4_keeps (w : World) (b : Nat) (y0 y1 y2 y3 : Value) : KeepsOthers w (set4 w b y0 y1 y2 y3) :=
  (((KeepsOthers.setCell _ _ _).trans (KeepsOthers.setCell _ _ _)).trans (KeepsOthers.setCell _ _ _)).trans (KeepsOthers.setCell _ _ _)
theorem set4_below {n₀ : Nat} {w0 w : World} {b : Nat} (h : Below n₀ w0 w) (hb : n₀ ≤ b) (y0 y1 y2 y3 : Value) : Below n₀ w0 (set4 w b y0 y1 y2 y3) :=
  (((h.setCell (p := ⟨b, 0, none⟩) hb _).setCell (p := ⟨b, 1, none⟩) hb _).setCell (p := ⟨b, 2, none⟩) hb _).setCell (p := ⟨b, 3, none⟩) hb _

theorem mapM_length {f : AV → Option AV} : ∀ {l r : List AV}, l.mapM f = some r → r.length = l.length
  | [], r, h => by
    simp only [List.mapM_nil, Option.pure_def] at h
    injection h with h
    rw [← h]
  | x :: l, r, h => by
    simp only [List.mapM_cons] at h
    cases hx : f x with
    | none => rw [hx] at h; cases h
    | some y =>
      cases hm : l.mapM f with
      | none => rw [hx, hm] at h; cases h
      | some z =>
        rw [hx, hm] at h
        injection h with h
        rw [← h]
        simp [mapM_length hm]

set_option maxRecDepth 100000 in
set_option maxHeartbeats 8000000 in
theorem fun_any [Syms] {Inv : World → Prop} (hI : ∀ W W' : World, Below W.heap.size W W' → Inv W → Inv W') {ap : List AV → Option AV}
    (hap : ∀ args r, ap args = some r → ∀ (W : World) (ok : Nat → Nat → Prop) (vs : List Value), (∀ b o, ok b o → b < W.heap.size) → RealL (argCx W ok) args vs → Inv W → Calls Tryz.prog 32 vs.toArray W fun e W' => ∃ u, e = .returned u ∧ ResOk W ok W' r u)
    (w : World) (ok : Nat → Nat → Prop) (hok : ∀ b o, ok b o → b < w.heap.size) (h0 : Inv w) (t0 t1 t2 t3 : Value) (ts : List AV) (hts : RealL (argCx w ok) ts [t0, t1, t2, t3]) (ht1 : t0.oneCell' = true ∧ t1.oneCell' = true ∧ t2.oneCell' = true ∧ t3.oneCell' = true)
    (A : Option Addr) (n cap : Nat) (hn : n ≤ 1000) (ps : List AV) (vps : List Value) (hps : RealL (argCx w ok) ps vps) (hvl : vps.length = n * 4)
    (hcells : 0 < n → ∃ b off, A = some ⟨b, off, none⟩ ∧ ∀ j v, vps[j]? = some v → w.cell? ⟨b, off + j, none⟩ = some v ∧ ok b (off + j) ∧ v.oneCell' = true)
    (acc : List AV) (hr : funIdx ap ps (seqTo n n) ts = some acc) :
    Calls Tryz.prog 14 #[.agg #[t0, t1, t2, t3], .slice A n cap] w fun e W' => ∃ u, e = .returned u ∧ ResOk w ok W' (.agg acc) u := by
  obtain ⟨es, hes⟩ : ∃ es : Nat → Value × Value × Value × Value, es = fun j => (vps.getD (j * 4) undef, vps.getD (j * 4 + 1) undef, vps.getD (j * 4 + 2) undef, vps.getD (j * 4 + 3) undef) := ⟨_, rfl⟩
  have hget : ∀ j, j < n * 4 → vps[j]? = some (vps.getD j undef) := fun j hj => by
    rw [List.getD_eq_getElem?_getD, List.getElem?_eq_getElem (by omega)]; rfl
  have hel : Elems w.heap.size w A n es := by
    intro h
    obtain ⟨b, off, e, hc⟩ := hcells h
    refine ⟨b, off, e, ?_, fun j hj => ?_⟩
    · exact cell_lt (hc 0 _ (hget 0 (by omega))).1
    · rw [hes]
      exact ⟨(hc (j * 4) _ (hget (j * 4) (by omega))).1, (hc (j * 4 + 1) _ (hget (j * 4 + 1) (by omega))).1, (hc (j * 4 + 2) _ (hget (j * 4 + 2) (by omega))).1, (hc (j * 4 + 3) _ (hget (j * 4 + 3) (by omega))).1⟩
  have hes1 : ∀ j, j < n → ((es j).1.oneCell' = true ∧ (es j).2.1.oneCell' = true ∧ (es j).2.2.1.oneCell' = true ∧ (es j).2.2.2.oneCell' = true) := by
    intro j hj
    obtain ⟨b, off, e, hc⟩ := hcells (by omega)
    rw [hes]
    exact ⟨(hc (j * 4) _ (hget (j * 4) (by omega))).2.2, (hc (j * 4 + 1) _ (hget (j * 4 + 1) (by omega))).2.2, (hc (j * 4 + 2) _ (hget (j * 4 + 2) (by omega))).2.2, (hc (j * 4 + 3) _ (hget (j * 4 + 3) (by omega))).2.2⟩
  have hesR : ∀ j, j < n → RealL (argCx w ok) ((ps.drop (j * 4)).take 4) [(es j).1, (es j).2.1, (es j).2.2.1, (es j).2.2.2] := by
    intro j hj
    have h1 := (hps.drop (j * 4)).take 4
    have h2 : (vps.drop (j * 4)).take 4 = [(es j).1, (es j).2.1, (es j).2.2.1, (es j).2.2.2] := by
      apply List.ext_getElem?
      intro i
      rw [hes]
      rw [List.getElem?_take]
      by_cases hi : i < 4
      · rw [if_pos hi, List.getElem?_drop, hget _ (by omega)]
        match i, hi with
        | 0, _ => rfl
        | 1, _ => rfl
        | 2, _ => rfl
        | 3, _ => rfl
      · rw [if_neg hi]
        simp
        omega
    rwa [h2] at h1
  clear hes hget
  refine (callsIn_wide (n := 4)).1 (callsIn_of_wp_marks Tryz.func14 rfl trivial ?_ rfl)
  simp only [Tryz.ntmps14, List.size_toArray, List.length_cons, List.length_nil, Nat.reduceAdd, Nat.reduceSub, Array.replicate_succ, Array.replicate_zero, List.push_toArray, List.append_toArray, List.nil_append, List.cons_append]
  gi_wp2
  refine ⟨trivial, ?_⟩
  refine (backward_in _ _ trivial rfl _ _ _ _).mono ?_
  rintro e w' ⟨rfl, rfl⟩
  obtain ⟨B0, hB0⟩ : ∃ B : Obj, Obj.cells #[t0, t1, t2, t3] 39 = B := ⟨_, rfl⟩
  obtain ⟨B1, hB1⟩ : ∃ B : Obj, Obj.cells #[Value.int IntKind.i64 0, Value.string { data := #[] }, Value.slice none 0 0, Value.slice none 0 0] 39 = B := ⟨_, rfl⟩
  obtain ⟨W0, hW0⟩ : ∃ W0, ((w.alloc B0).alloc B1).alloc (.cells #[.slice A n cap] 37) = W0 := ⟨_, rfl⟩
  have hbl : Below w.heap.size w W0 := by
    rw [← hW0]
    exact (((Below.refl _ w).alloc (Nat.le_refl _) _).alloc (by rw [World.size_alloc]; omega) _).alloc (by rw [World.size_alloc, World.size_alloc]; omega) _
  have hsz : W0.heap.size = w.heap.size + 3 := by rw [← hW0]; simp only [World.size_alloc]
  have hres : W0.heap[w.heap.size]? = some (.cells #[t0, t1, t2, t3] 39 (0, 0)) := by
    rw [← hW0, hB0, alloc_old _ _ (by simp only [World.size_alloc]; omega), alloc_old _ _ (by simp only [World.size_alloc]; omega)]
    exact alloc_new _ _
  have hret : W0.heap[w.heap.size + 1]? = some B1 := by
    rw [← hW0, alloc_old _ _ (by simp only [World.size_alloc]; omega)]
    have := alloc_new (w.alloc B0) B1
    rwa [World.size_alloc] at this
  have hbox : W0.heap[w.heap.size + 2]? = some (.cells #[.slice A n cap] 37 (0, 0)) := by
    rw [← hW0]
    have := alloc_new ((w.alloc B0).alloc B1) (.cells #[.slice A n cap] 37)
    simpa only [World.size_alloc] using this
  gi_wp2
  try rw [hB0]
  try rw [hB1]
  try rw [hW0]
  rw [← hB1] at hret
  clear hB0 hW0 hB1
  have hinit : FunI ap w ok ps ts n w.heap.size 0 W0 := by
    refine ⟨ok, ts, t0, t1, t2, t3, fun _ _ h => h, fun b o h => ⟨.inl h, by have := hok b o h; omega⟩, rfl, ?_, hres, ht1, hbl, by omega⟩
    exact hts.le (le_arg (fun _ _ h => h) (fun b o v hb hv => by rw [cell_eq (hbl.block b (hok b o hb))]; exact hv))
  refine rangeFunc_seq (F := Fence.wide) rfl (by omega) (gf := 50) (lb := #[.pointer (some ⟨w.heap.size + 1 + 1, 0, none⟩)]) rfl trivial (enters_of Tryz.func50 (by kernel_rfl) rfl)
    (backward_gives Fence.wide (4 - 1) trivial rfl (by omega) (w.heap.size + 1 + 1) w.heap.size A n cap es (by omega) W0 (by omega) (by omega) (by rw [row_cell (vs := [.slice A n cap]) hbox]; rfl) (hel.below hbl))
    KeepB.trans (fun W l o o' hl ho h1 h2 => ⟨belowK_b (w := W0) (by omega) W l o o' hl ho h1 h2, World.putObj_heap_other (by omega)⟩) (fun _ => rfl)
    (fun k W => FunI ap w ok ps ts n w.heap.size k W ∧ W.heap[w.heap.size + 1]? = some (Obj.cells #[Value.int IntKind.i64 0, Value.string { data := #[] }, Value.slice none 0 0, Value.slice none 0 0] 39 (0, 0)))
    (OwnFrom.and (funI_own (by omega)) ownFrom_cells)
    ⟨hinit, hret⟩
    (fun k a' W => ∃ Bx, w.heap.size + 3 ≤ Bx ∧ W.heap[Bx]? = some (Obj.cells #[(es (n - 1 - k)).1, (es (n - 1 - k)).2.1, (es (n - 1 - k)).2.2.1, (es (n - 1 - k)).2.2.2] 39 (0, 0)) ∧ a' = { tmps := #[.agg #[t0, t1, t2, t3], .slice A n cap, .pointer (some ⟨w.heap.size, 0, none⟩), undef, .pointer (some ⟨w.heap.size + 1, 0, none⟩), undef, .pointer (some ⟨Bx, 0, none⟩), .slice A n cap, .func (.func 50) #[] #[.pointer (some ⟨w.heap.size + 1 + 1, 0, none⟩)], .int .i64 ((n - 1 - k : Nat) : Int), .agg #[(es (n - 1 - k)).1, (es (n - 1 - k)).2.1, (es (n - 1 - k)).2.2.1, (es (n - 1 - k)).2.2.2], undef, undef, undef, undef, undef, undef], defers := [] })
    (fun k a' s X Y row hs hg hr => by obtain ⟨Bx, h1, h2, h3⟩ := hs; exact ⟨Bx, h1, ownFrom_cells (β := Unit) s X Y row h2 hg hr, h3⟩)
    ?assign ?body ?done
  case assign =>
    rintro l k W K hk ⟨hF, hR⟩ hK
    obtain ⟨o0, o1, o2, o3⟩ := hes1 (n - 1 - k) (by omega)
    dsimp only [encE]
    generalize n - 1 - k = x at *
    generalize es x = e4 at *
    obtain ⟨e0, e1, e2, e3⟩ := e4
    dsimp only at *
    have s0 := fun (w : World) (a : Addr) => run_store Tryz.prog w a e0 .plain o0
    have s1 := fun (w : World) (a : Addr) => run_store Tryz.prog w a e1 .plain o1
    have s2 := fun (w : World) (a : Addr) => run_store Tryz.prog w a e2 .plain o2
    have s3 := fun (w : World) (a : Addr) => run_store Tryz.prog w a e3 .plain o3
    gi_wp2
    obtain ⟨ok', acc', x0, x1, x2, x3, f1, f2, f3, f4, f5, f6, f7, f8⟩ := hF
    exact hK _ _ ((KeepsOthers.alloc _ _).from _) ⟨(Below.refl _ W).alloc f7.size _, alloc_old _ _ (by omega)⟩
      ⟨(funI_own (B := w.heap.size) (Nat.le_refl _)).alloc _ ⟨ok', acc', x0, x1, x2, x3, f1, f2, f3, f4, f5, f6, f7, f8⟩, (alloc_old _ _ (by omega)).trans hR⟩ ⟨W.heap.size, f8, alloc_new _ _, rfl⟩
  case body =>
    rintro l k a' W hk ⟨⟨ok', acc', x0, x1, x2, x3, f1, f2, f3, f4, f5, ⟨p0, p1, p2, p3⟩, f7, f8⟩, hR⟩ ⟨Bx, hBx, hX, rfl⟩
    obtain ⟨o0, o1, o2, o3⟩ := hes1 (n - 1 - k) (by omega)
    have hRx := hesR (n - 1 - k) (by omega)
    obtain ⟨b, hstep, hnext⟩ := step_at hk hr f3
    generalize n - 1 - k = x at *
    generalize es x = e4 at *
    obtain ⟨e0, e1, e2, e3⟩ := e4
    dsimp only at *
    obtain ⟨c0, c1, c2, c3⟩ := cells4 f5
    obtain ⟨d0, d1, d2, d3⟩ := cells4 hX
    gi_wp2
    refine ⟨trivial, ?_⟩
    -- the call of Apply
    unfold funStep at hstep
    split at hstep
    · rename_i cs hcs
      split at hstep
      · rename_i hlen
        obtain ⟨W2, hW2⟩ : ∃ W2, W.alloc (Obj.cells #[e0, e1, e2, e3, x0, x1, x2, x3] 39) = W2 := ⟨_, rfl⟩
        have hnew : W2.heap[W.heap.size]? = some (Obj.cells #[e0, e1, e2, e3, x0, x1, x2, x3] 39 (0, 0)) := by rw [← hW2]; exact alloc_new _ _
        have hb2 : Below W.heap.size W W2 := by rw [← hW2]; exact (Below.refl _ W).alloc (Nat.le_refl _) _
        have hs2 : W2.heap.size = W.heap.size + 1 := by rw [← hW2]; exact alloc_size _ _
        let ok2 : Nat → Nat → Prop := fun b o => ok' b o ∨ b = W.heap.size
        have hok2 : ∀ b o, ok2 b o → b < W2.heap.size := by
          rintro b o (h | h)
          · have := (f2 b o h).2; omega
          · omega
        have hle2 : Le (argCx W ok') (argCx W2 ok2) := le_arg (fun b o h => .inl h) (fun b o v hb hv => by rw [cell_eq (hb2.block b (f2 b o hb).2)]; exact hv)
        have hargs : RealL (argCx W2 ok2) [arrowAV, .sl 2 ((ps.drop (x * 4)).take 4 ++ acc') none] [.agg #[.int .i64 2, .string { data := #[45, 62] }, .slice none 0 0, .slice none 0 0], .slice (some ⟨W.heap.size, 0, none⟩) 2 2] := by
          refine realL_cons ?_ (realL_cons ?_ realL_nil)
          · simp only [arrowAV, Real]
            exact ⟨[.int .i64 2, .string { data := #[45, 62] }, .slice none 0 0, .slice none 0 0], rfl, realL_lits [.int .i64 2, .string { data := #[45, 62] }, .slice none 0 0, .slice none 0 0], by simp [Value.oneCell']⟩
          · simp only [Real]
            refine ⟨W.heap.size, 0, 2, [e0, e1, e2, e3] ++ [x0, x1, x2, x3], rfl, Nat.le_refl _, ?_, ?_, trivial⟩
            · refine RealL.append ?_ (f4.le hle2)
              exact (hRx.le (le_arg (fun b o h => f1 b o h) (fun b o v hb hv => by rw [cell_eq (f7.block b (hok b o hb))]; exact hv))).le hle2
            · intro j v hj
              rw [Nat.zero_add]
              refine ⟨by show W2.cell? _ = _; rw [row_cell (vs := [e0, e1, e2, e3] ++ [x0, x1, x2, x3]) hnew]; exact hj, .inr rfl, ?_⟩
              have hm := List.mem_of_getElem? hj
              simp at hm
              rcases hm with rfl | rfl | rfl | rfl | rfl | rfl | rfl | rfl <;> assumption
        rw [hW2]
        refine (CallsIn.inRound l (callsIn_wide.2 (hap _ _ hcs W2 ok2 _ hok2 hargs (hI w W2 (f7.trans (hb2.mono (by omega))) h0)))).mono ?_
        rintro e W3 ⟨u, rfl, hb3, cx1, rfl, hc1, hu, -⟩
        simp only [Real] at hu
        obtain ⟨vs, rfl, hvr, hv1⟩ := hu
        have hvl2 := hvr.length
        rw [hlen] at hvl2
        match vs, hvl2, hvr, hv1 with
        | [y0, y1, y2, y3], _, hvr, hv1 =>
        have q0 := hv1 y0 (by simp)
        have q1 := hv1 y1 (by simp)
        have q2 := hv1 y2 (by simp)
        have q3 := hv1 y3 (by simp)
        have s0 := fun (w : World) (a : Addr) => run_store Tryz.prog w a y0 .plain q0
        have s1 := fun (w : World) (a : Addr) => run_store Tryz.prog w a y1 .plain q1
        have s2 := fun (w : World) (a : Addr) => run_store Tryz.prog w a y2 .plain q2
        have s3 := fun (w : World) (a : Addr) => run_store Tryz.prog w a y3 .plain q3
        obtain ⟨W3, hW3⟩ : ∃ W3, cx1.W = W3 := ⟨_, rfl⟩
        rw [hW3] at hb3 hc1 ⊢
        have hN3 : W3.heap[w.heap.size]? = some (Obj.cells #[x0, x1, x2, x3] 39 (0, 0)) := (hb3.block _ (by omega)).trans ((hb2.block _ (by omega)).trans f5)
        obtain ⟨g0, g1, g2, g3⟩ := cells4 hN3
        have z0 := frozen4 hN3 0
        have z1 := frozen4 hN3 1
        have z2 := frozen4 hN3 2
        have z3 := frozen4 hN3 3
        clear c0 c1 c2 c3 d0 d1 d2 d3
        gi_wp2
        have hb13 : Below W.heap.size W W3 := hb2.trans (hb3.mono (by omega))
        have hs3 : W2.heap.size ≤ W3.heap.size := hb3.size
        have hcw : cx1.W = W3 := hW3
        show KeepsFrom W0.heap.size W (set4 W3 w.heap.size y0 y1 y2 y3) ∧ KeepB w.heap.size (w.heap.size + 1 + 1) W (set4 W3 w.heap.size y0 y1 y2 y3) ∧ (FunI ap w ok ps ts n w.heap.size (k + 1) (set4 W3 w.heap.size y0 y1 y2 y3) ∧ (set4 W3 w.heap.size y0 y1 y2 y3).heap[w.heap.size + 1]? = _)
        refine ⟨?_, ⟨set4_below (hb13.mono (by omega)) (Nat.le_refl _) _ _ _ _, ?_⟩, ⟨fun b o => ok' b o ∨ (cx1.ok b o ∧ W.heap.size ≤ b), b, y0, y1, y2, y3, fun b o h => .inl (f1 b o h), ?_, hnext, ?_, set4_at hN3, ⟨q0, q1, q2, q3⟩, set4_below (f7.trans (hb13.mono (by omega))) (Nat.le_refl _) _ _ _ _, by rw [set4_size]; omega⟩, ?_⟩
        · exact KeepsFrom.trans ⟨hb13.size, fun j o _ hj _ => (hb13.block j (Array.getElem?_eq_some_iff.1 hj).1).trans hj⟩ ((set4_keeps _ _ _ _ _ _).from _)
        · rw [set4_other (by omega)]
          exact hb13.block _ (by omega)
        · rintro b' o' (h | ⟨h1, h2⟩)
          · rw [set4_size]
            exact ⟨(f2 b' o' h).1, by have := (f2 b' o' h).2; omega⟩
          · rw [set4_size]
            exact ⟨.inr (by omega), (hc1 b' o' h1).2⟩
        · -- the result's cells
          have hbW : ∀ b' o' v, cx1.ok b' o' → cx1.W.cell? ⟨b', o', none⟩ = some v → (ok' b' o' ∨ (cx1.ok b' o' ∧ W.heap.size ≤ b')) ∧ (set4 W3 w.heap.size y0 y1 y2 y3).cell? ⟨b', o', none⟩ = some v := by
            intro b' o' v h1 h2
            obtain ⟨h3, h4⟩ := hc1 b' o' h1
            have hne : b' ≠ w.heap.size ∧ (ok' b' o' ∨ (cx1.ok b' o' ∧ W.heap.size ≤ b')) := by
              rcases h3 with (h3 | h3) | h3
              · refine ⟨fun e => ?_, .inl h3⟩
                rcases (f2 b' o' h3).1 with h5 | h5
                · have := hok b' o' h5; omega
                · omega
              · exact ⟨by omega, .inr ⟨h1, by omega⟩⟩
              · exact ⟨by omega, .inr ⟨h1, by omega⟩⟩
            refine ⟨hne.2, ?_⟩
            rw [cell_eq (set4_other hne.1), ← hcw]
            exact h2
          exact strip_realL (c := cx1) (c' := argCx (set4 W3 w.heap.size y0 y1 y2 y3) fun b o => ok' b o ∨ (cx1.ok b o ∧ W.heap.size ≤ b)) hbW (fun k e cs hk => by cases hk) 50 cs b _ hstep hvr
        · rw [set4_other (by omega)]
          exact (hb13.block _ (by omega)).trans hR
      · cases hstep
    · cases hstep
  case done =>
    rintro D W hD ⟨⟨ok', acc', x0, x1, x2, x3, f1, f2, f3, f4, f5, ⟨p0, p1, p2, p3⟩, f7, f8⟩, hR⟩ hK
    rw [hr] at f3
    injection f3 with f3
    subst f3
    obtain ⟨c0, c1, c2, c3⟩ := cells4 f5
    obtain ⟨g0, g1, g2, g3⟩ := cells4 hR
    have z0 := frozen4 hR 0
    have z1 := frozen4 hR 1
    have z2 := frozen4 hR 2
    have z3 := frozen4 hR 3
    have s0 := fun (w : World) (a : Addr) => run_store Tryz.prog w a x0 .plain p0
    have s1 := fun (w : World) (a : Addr) => run_store Tryz.prog w a x1 .plain p1
    have s2 := fun (w : World) (a : Addr) => run_store Tryz.prog w a x2 .plain p2
    have s3 := fun (w : World) (a : Addr) => run_store Tryz.prog w a x3 .plain p3
    gi_wp2
    obtain ⟨W5, hW5⟩ : ∃ W5, set4 W (w.heap.size + 1) x0 x1 x2 x3 = W5 := ⟨_, rfl⟩
    unfold set4 at hW5
    rw [hW5]
    have hW5' : set4 W (w.heap.size + 1) x0 x1 x2 x3 = W5 := hW5
    clear hW5
    have hD5 : D < W.heap.size := (Array.getElem?_eq_some_iff.1 hK).1
    have hK5 : W5.heap[D]? = some (.deferred (some [])) := by rw [← hW5', set4_other (by omega)]; exact hK
    have hR5 : W5.heap[w.heap.size + 1]? = some (Obj.cells #[x0, x1, x2, x3] 39 (0, 0)) := by rw [← hW5']; exact set4_at hR
    have hs5 : W5.heap.size = W.heap.size := by rw [← hW5']; exact set4_size _ _ _ _ _ _
    refine ⟨by simp, .inl ⟨_, _, rfl, run_takeDeferred hK5, ?_⟩⟩
    obtain ⟨W6, hW6⟩ : ∃ W6, W5.putObj D (.deferred none) = W6 := ⟨_, rfl⟩
    rw [hW6]
    have hR6 : W6.heap[w.heap.size + 1]? = some (Obj.cells #[x0, x1, x2, x3] 39 (0, 0)) := by rw [← hW6]; exact (World.putObj_heap_other (by omega)).trans hR5
    obtain ⟨i0, i1, i2, i3⟩ := cells4 hR6
    have hb6 : Below w.heap.size w W6 := by
      rw [← hW6]
      refine Below.trans ?_ (belowK_b (w := w) (Nat.le_refl _) W5 D _ _ (by omega) hK5 rfl rfl)
      rw [← hW5']
      exact set4_below f7 (by omega) _ _ _ _
    have hs6 : W6.heap.size = W5.heap.size := by rw [← hW6]; simp [World.putObj]
    have hcell6 : ∀ b o v, ok' b o → W.cell? ⟨b, o, none⟩ = some v → W6.cell? ⟨b, o, none⟩ = some v := by
      intro b o v h1 h2
      have hbD : b ≠ D := by
        rintro rfl
        simp [World.cell?, hK] at h2
      have hbN : b ≠ w.heap.size + 1 := by
        rcases (f2 b o h1).1 with h5 | h5
        · have := hok b o h5; omega
        · omega
      rw [cell_eq (show W6.heap[b]? = W.heap[b]? by rw [← hW6, World.putObj_heap_other hbD, ← hW5', set4_other hbN])]
      exact h2
    refine ⟨.agg #[x0, x1, x2, x3], by simp [results, Tryz.results14, go_sem, i0, i1, i2, i3], _, rfl, hb6, argCx W6 ok', rfl, fun b o h => ?_, ?_, fun n cs t e sz h => by cases h⟩
    · refine ⟨?_, by have := (f2 b o h).2; omega⟩
      rcases (f2 b o h).1 with h5 | h5
      · exact .inl h5
      · exact .inr (by omega)
    · simp only [Real]
      refine ⟨[x0, x1, x2, x3], rfl, f4.le (le_arg (fun _ _ h => h) hcell6), ?_⟩
      intro v hv
      simp at hv
      rcases hv with rfl | rfl | rfl | rfl <;> assumption
end Go.Proofs.YtmehknlijcbphaaGreatDoor
