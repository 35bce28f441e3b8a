/- Texts of the collector's proof, joined: Upto, Open3. -/
import Derived.Test.YtobniolmielikaaZas
import Derived.Deep.CondSized
/- The frame that every law of the second form shares: what a walk that answers true and turns nothing old gives the row; no condition. -/
namespace Go.Proofs.Ytobniolmielikaa
open Go.ChangeShapes Go.WideShapes Go.ChangeAt Go.RowKit

set_option maxRecDepth 100000 in
/-- A law: from its walk to what its second row asks of it. -/
theorem law_upto {f : FuncId} {fn : Func} {s : ChangeSpec} {rt : TypeId} (os : Os) (started : os.Started) {H : Type} (enc : TypeId × Value → H) (F : Stop.Interp)
    (hni : Try.checked.prog.inits.idxOf? f = none) (hfn : Try.checked.prog.funcs[f]? = some fn)
    (hrt : fn.resultTypes = #[rt]) (hbool : Try.prog.underlying rt = some .bool)
    (hpar : fn.params.toList.all (fun t => Try.prog.readableRec t && decide (t < Try.prog.types.size)) = true)
    (hvars : s.vars = []) (hspec : ∀ ds : List (DataW H), ds.length = fn.params.toList.length → s.fn H (ds ++ []) = { results := [.lit (.bool true)], args := ds })
    (witness : ∃ (w : World) (tape : Tape) (i : Input), w.os = os ∧ (w.forCall tape i).Shaped Try.checked.prog ∧ i.vars = [] ∧ Input.okWide Try.checked.prog (w.forCall tape i) .any w.heap.size f i ∧
      (Rows.OpenSpec.upto s).pre6 enc Try.checked.prog fn [] false (w.forCall tape i).memory i.args ∧ ({} : Assume).holds Try.checked.prog (lone (Frame.enter Try.checked.prog f i.args .normal) [] (w.forCall tape i)))
    (walk : ∀ (W : World) (base : Nat) (args : Array Value) (ds : List (DataW H)) (p : List MemPlace),
      (∀ (j : Nat) t v, fn.params[j]? = some t → args[j]? = some v → Value.okWide Try.prog W .any base t v) →
      DataW.TrodAll enc Try.prog W 0 (fun _ => true) true fn.params.toList args.toList ds p →
      (DataW.weightsEach Try.prog fn.params.toList ds).all (· ≤ reachBytes) = true →
      Rows.uptoBulkAll ds ≤ 1048576 →
      Calls Try.prog f args W fun e W' => e = .returned (.bool true) ∧ Below W.heap.size W W') :
    ReturnsInHanded {} Try.checked os f .any ((Rows.OpenSpec.upto s).pre6 enc Try.prog fn [] false) (((Rows.OpenSpec.upto s).at F).post enc Try.prog fn false true false false) := by
  refine returnsInHanded_of_cond_sized (C := Try.checked) (s := Rows.OpenSpec.upto s) (k := Rows.uptoSmall) rfl own started hni hfn witness ?_
  intro W base args ds gs before hval0 hW hcnd hk hsz0 _
  have hval : ∀ (j : Nat) t v, fn.params[j]? = some t → args[j]? = some v → Value.okWide Try.prog W .any base t v := hval0
  have hW0 : DataW.Whole enc Try.prog fn.params.toList s.vars false W args.toList ds gs before := hW
  have hW' := hW0
  obtain ⟨p, q, hA0, hV, rfl, hfz, hnd⟩ := hW0
  have hA : DataW.TrodAll enc Try.prog W 0 (fun _ => true) true fn.params.toList args.toList ds p := hA0
  rw [hvars] at hV
  obtain ⟨rfl, rfl⟩ := trodVars_none hV
  have hvt : (Rows.OpenSpec.upto s).bare.plain.varTypes Try.prog = [] := by
    have h0 : (Rows.OpenSpec.upto s).bare.plain.vars = [] := hvars
    simp [DataSpec.varTypes, h0]
  have hsz : (DataW.weightsEach Try.prog fn.params.toList ds).all (· ≤ reachBytes) = true := by
    have h1 : (DataW.weightsEach Try.prog (fn.params.toList ++ (Rows.OpenSpec.upto s).bare.plain.varTypes Try.prog) (ds ++ [])).all (· ≤ reachBytes) = true := hsz0
    rw [hvt, List.append_nil, List.append_nil] at h1
    exact h1
  have hbk : Rows.uptoBulkAll ds ≤ 1048576 := by
    rw [List.append_nil] at hk
    exact of_decide_eq_true hk
  refine (walk W base args ds p hval hA hsz hbk).mono fun e W' ⟨he, bel⟩ => ?_
  subst he
  have hlen := trodAll_length _ _ _ _ hA
  have hsp := hspec ds hlen
  have goal : s.post enc Try.prog fn false true false false W args (.bool true) W' := by
    refine ⟨ds, [], p ++ [], [], p, [], hW', ?_, ?_, ?_, bel.frame _, fun h => by cases h⟩
    · rw [hsp, hrt]
      exact trodAll_mk1 (shut_bool hbool _)
    · rw [hsp]
      exact trodAll_below laidOut bel _ _ _ _ hpar hA
    · rw [hsp, hvars]
      exact rfl
  exact ⟨_, rfl, goal⟩

/-! ### how much there is -/
theorem bulk_one {H : Type} (d : DataW H) : 1 ≤ Rows.uptoBulk d := by
  cases d with
  | lit l => cases l <;> simp [Rows.uptoBulk]
  | nil => simp [Rows.uptoBulk]
  | ptr d => simp [Rows.uptoBulk]
  | slice elems spare => simp [Rows.uptoBulk]
  | agg parts => simp [Rows.uptoBulk]
  | iface t d => simp [Rows.uptoBulk]
  | map entries => simp [Rows.uptoBulk]
  | held h => simp [Rows.uptoBulk]
theorem bulk_length {H : Type} (l : List (DataW H)) : l.length ≤ Rows.uptoBulkAll l := by
  induction l with
  | nil => simp [Rows.uptoBulkAll]
  | cons x r ih => have := bulk_one x; simp only [Rows.uptoBulkAll, List.length_cons]; omega
theorem bulk_slice {H : Type} (elems spare : List (DataW H)) : elems.length + 1 ≤ Rows.uptoBulk (.slice elems spare) := by
  have h1 := bulk_length elems
  simp only [Rows.uptoBulk]
  omega
end Go.Proofs.Ytobniolmielikaa

/- How a heap's contents read, in this seat's words; no condition. -/
namespace Go.Proofs.Ytobniolmielikaa
open Go.RowKit Go.ChangeShapes Go.WideShapes Go.ChangeAt Go.Deep

section
variable {H : Type} {enc : TypeId × Value → H} {w : World} {fuel : Nat} {cs : List Value} {x : DataW H × List MemPlace}

theorem cells59 : Try.prog.cellsOf 59 = 2 := by kernel_rfl
theorem cells62 : Try.prog.cellsOf 62 = 4 := by kernel_rfl
theorem list1 {α : Type} : ∀ {l : List α}, l.length = 1 → ∃ a, l = [a]
  | [a], _ => ⟨a, rfl⟩
theorem list4 {α : Type} : ∀ {l : List α}, l.length = 4 → ∃ a b c d, l = [a, b, c, d]
  | [a, b, c, d], _ => ⟨a, b, c, d, rfl⟩

theorem its_of_trod2 (h : DataW.trod enc Try.prog w 0 (fun _ => true) true fuel 60 cs = some x) (hf : Fits Try.prog 60 x.1) : ∃ v l, cs = [v] ∧ Raw (· < w.heap.size) w v l ∧ (∀ y ∈ l, ObAt (· < w.heap.size) w y.val y.o) ∧ l.length ≤ Rows.uptoBulk x.1 := by
  rcases open_slice Try.underlying60 h with ⟨rfl, rfl⟩ | ⟨a, len, cap, m, n, D, Pl, rfl, _, hl, hm, hmm, rfl, hi⟩
  · exact ⟨_, [], rfl, ⟨none, 0, rfl, by simp, by simp [maxLen], fun _ => rfl, fun h => by simp at h, by simp⟩, fun y hy => (by cases hy), by simp⟩
  · simp at hmm
    subst hmm
    have hb : m * 80 ≤ reachBytes := by
      have := hf (len * 80 + (m - len) * 80) (by
        simp only [DataW.weights, Try.underlying60, bytes97, Nat.add_mul, List.length_map, List.length_range]
        exact List.mem_cons_self)
      omega
    have hr : reachBytes ≤ 140737488355328 := by decide
    have hfit : ∀ i, i < len → Fits Try.prog 97 (D i) := by
      intro i hil k hk
      refine hf k ?_
      rw [DataW.weights, Try.underlying60]
      exact List.mem_cons_of_mem _ (List.mem_append_left _ (weights_mem_all (List.mem_map_of_mem (List.mem_range.2 hil)) k hk))
    rw [cells97] at hi
    have each : ∀ i : Nat, ∃ y : It, i < len → (∀ j, j < 6 → w.cell? (a.add (i * 6 + j)) = y.cells[j]?) ∧ ObAt (· < w.heap.size) w y.val y.o := by
      intro i
      by_cases him : i < len
      · obtain ⟨cs', hc, ht⟩ := hi i (by omega)
        obtain ⟨y, rfl, hy⟩ := it_of_trod ht (hfit i him)
        obtain ⟨_, _, hat⟩ := World.cells?_some hc
        refine ⟨y, fun _ => ⟨fun j hj => ?_, hy⟩⟩
        have := hat j hj
        rw [Go.Deep.add_add] at this
        exact this
      · exact ⟨⟨0, ob0, none, 0, none, 0⟩, fun h => absurd h him⟩
    obtain ⟨E, hE⟩ := Classical.axiomOfChoice each
    have hlen : ((List.range len).map E).length = len := by simp
    refine ⟨_, (List.range len).map E, rfl, ⟨some a, m, by rw [hlen], by rw [hlen]; exact hl, hm, (fun h => by cases h), fun h0 => ?_, by rw [hlen]; omega⟩, ?_, ?_⟩
    · rw [hlen] at h0
      have hc0 : w.cell? (a.add 0) = some (.int .i64 (E 0).a) := (hE 0 h0).1 0 (by omega)
      have hs := spot_none hc0
      have hlt := World.block_lt_of_cell? _ _ hc0
      rw [addr_block] at hlt
      obtain ⟨b, o, s⟩ := a
      simp at hs
      subst hs
      refine ⟨b, o, rfl, hlt, hlt, fun k y hk => ?_⟩
      simp only [List.getElem?_map, Option.map_eq_some_iff] at hk
      obtain ⟨j, hj, rfl⟩ := hk
      obtain ⟨hj1, hj2⟩ := List.getElem?_eq_some_iff.1 hj
      simp at hj1 hj2
      subst hj2
      have hh := (hE k (by omega)).1
      simp only [Addr.add_lit, ← Nat.add_assoc] at hh
      exact ⟨hh 0 (by omega), hh 1 (by omega), hh 2 (by omega), hh 3 (by omega), hh 4 (by omega), hh 5 (by omega)⟩
    · intro y hy
      simp only [List.mem_map, List.mem_range] at hy
      obtain ⟨i, hi', rfl⟩ := hy
      exact (hE i hi').2
    · rw [hlen]
      have h2 := bulk_slice ((List.range len).map D) ((List.range (m - len)).map fun i => D (len + i))
      simp only [List.length_map, List.length_range] at h2
      exact Nat.le_of_succ_le h2

set_option maxRecDepth 100000 in
theorem sizes_of_trod (h : DataW.trod enc Try.prog w 0 (fun _ => true) true fuel 59 cs = some x) : ∃ n o : Int, cs = [.int .i64 n, .int .i64 o] := by
  obtain ⟨ys, m, rfl, rfl, hlen, hyl, hat⟩ := DataW.trod_array Try.underlying59 h
  rw [cells59] at hlen
  obtain ⟨c0, c1, rfl⟩ := list2 hlen
  have a0 : DataW.trod enc Try.prog w 0 (fun _ => true) true m 3 [c0] = ys[0]? := by
    have : DataW.trod enc Try.prog w 0 (fun _ => true) true m 3 (([c0, c1].drop (0 * Try.prog.cellsOf 3)).take (Try.prog.cellsOf 3)) = ys[0]? := hat 0 Nat.zero_lt_two
    rw [cells3] at this
    exact this
  have a1 : DataW.trod enc Try.prog w 0 (fun _ => true) true m 3 [c1] = ys[1]? := by
    have : DataW.trod enc Try.prog w 0 (fun _ => true) true m 3 (([c0, c1].drop (1 * Try.prog.cellsOf 3)).take (Try.prog.cellsOf 3)) = ys[1]? := hat 1 Nat.one_lt_two
    rw [cells3] at this
    exact this
  obtain ⟨y0, y1, rfl⟩ := list2 (l := ys) hyl
  obtain ⟨n, e0, _, _⟩ := DataW.trod_int Try.underlying3 a0
  obtain ⟨o, e1, _, _⟩ := DataW.trod_int Try.underlying3 a1
  simp only [List.cons.injEq, and_true] at e0 e1
  subst e0 e1
  exact ⟨n, o, rfl⟩

/-- A heap's contents as the laws are handed them. -/
structure HeapIn (w : World) (v1 v2 : Value) (l1 l2 : List It) : Prop where
  r1 : Raw (· < w.heap.size) w v1 l1
  r2 : Raw (· < w.heap.size) w v2 l2
  o1 : ∀ y ∈ l1, ObAt (· < w.heap.size) w y.val y.o
  o2 : ∀ y ∈ l2, ObAt (· < w.heap.size) w y.val y.o
  len : l1.length + l2.length ≤ 1048576
theorem HeapIn.room {w : World} {v1 v2 : Value} {l1 l2 : List It} (h : HeapIn w v1 v2 l1 l2) : (l1.length + l2.length + 1) * 80 ≤ 140737488355328 := by
  have := h.len
  have h2 : (l1.length + l2.length + 1) * 80 ≤ 1048577 * 80 := Nat.mul_le_mul_right 80 (by omega)
  omega
theorem heap_of_trod (h : DataW.trod enc Try.prog w 0 (fun _ => true) true fuel 62 cs = some x) (hf : Fits Try.prog 62 x.1) (hb : Rows.uptoBulk x.1 ≤ 1048576) : ∃ (n o : Int) (v1 v2 : Value) (l1 l2 : List It), cs = [.int .i64 n, .int .i64 o, v1, v2] ∧ HeapIn w v1 v2 l1 l2 := by
  obtain ⟨ys, n, rfl, rfl, hlen, hyl, hat⟩ := DataW.trod_struct Try.underlying62 h
  rw [cells62] at hlen
  obtain ⟨c0, c1, c2, c3, rfl⟩ := list4 hlen
  have hfs : ∀ n ∈ DataW.weightsEach Try.prog [59, 60, 60] (ys.map (·.1)), n ≤ reachBytes := by
    intro n hn
    refine hf n ?_
    rw [DataW.weights, Try.underlying62]
    exact hn
  have a0 : DataW.trod enc Try.prog w 0 (fun _ => true) true n 59 [c0, c1] = ys[0]? := by
    have : DataW.trod enc Try.prog w 0 (fun _ => true) true n 59 (([c0, c1, c2, c3].drop 0).take (Try.prog.cellsOf 59)) = ys[0]? := hat 0 _ rfl
    rw [cells59] at this
    exact this
  have a1 : DataW.trod enc Try.prog w 0 (fun _ => true) true n 60 [c2] = ys[1]? := by
    have : DataW.trod enc Try.prog w 0 (fun _ => true) true n 60 (([c0, c1, c2, c3].drop 2).take (Try.prog.cellsOf 60)) = ys[1]? := hat 1 _ rfl
    rw [cells60] at this
    exact this
  have a2 : DataW.trod enc Try.prog w 0 (fun _ => true) true n 60 [c3] = ys[2]? := by
    have : DataW.trod enc Try.prog w 0 (fun _ => true) true n 60 (([c0, c1, c2, c3].drop 3).take (Try.prog.cellsOf 60)) = ys[2]? := hat 2 _ rfl
    rw [cells60] at this
    exact this
  obtain ⟨y0, y1, y2, rfl⟩ := list3 (l := ys) hyl
  obtain ⟨s0, s1, e0⟩ := sizes_of_trod a0
  obtain ⟨v1, l1, e1, r1, i1, k1⟩ := its_of_trod2 a1 (fits_each hfs (j := 1) rfl rfl)
  obtain ⟨v2, l2, e2, r2, i2, k2⟩ := its_of_trod2 a2 (fits_each hfs (j := 2) rfl rfl)
  simp only [List.cons.injEq, and_true] at e0 e1 e2
  obtain ⟨rfl, rfl⟩ := e0
  subst e1 e2
  refine ⟨s0, s1, _, _, l1, l2, rfl, r1, r2, i1, i2, ?_⟩
  simp only [List.map_cons, List.map_nil, Rows.uptoBulk, Rows.uptoBulkAll] at hb
  omega
theorem roots_of_trod (h : DataW.trod enc Try.prog w 0 (fun _ => true) true fuel 23 cs = some x) (hf : Fits Try.prog 23 x.1) : ∃ v xs, cs = [v] ∧ Ints (· < w.heap.size) w v xs := by
  obtain ⟨v, xs, e, h⟩ := ints_of_trod h hf
  exact ⟨v, xs, e, h.mono fun _ hb _ => hb⟩
end
end Go.Proofs.Ytobniolmielikaa

