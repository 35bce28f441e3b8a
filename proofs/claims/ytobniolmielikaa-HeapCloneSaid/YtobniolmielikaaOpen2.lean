/- How a script reads, said in this seat's words; no condition. -/
import Derived.Test.YtobniolmielikaaOpen
import Derived.Test.YtobniolmielikaaScr3
namespace Go.Proofs.Ytobniolmielikaa
open Go.RowKit Go.ChangeShapes Go.WideShapes Go.ChangeAt Go.Deep

section
variable {H : Type} {enc : TypeId × Value → H} {w : World} {fuel : Nat} {cs : List Value} {x : DataW H × List MemPlace}

theorem cells60 : Try.prog.cellsOf 60 = 1 := by kernel_rfl
theorem cells39 : Try.prog.cellsOf 39 = 1 := by kernel_rfl
theorem cells97 : Try.prog.cellsOf 97 = 6 := by kernel_rfl
theorem cells85 : Try.prog.cellsOf 85 = 9 := by kernel_rfl
theorem cells41 : Try.prog.cellsOf 41 = 3 := by kernel_rfl
theorem bytes97 : Try.prog.bytesOf 97 = 80 := by kernel_rfl
theorem bytes85 : Try.prog.bytesOf 85 = 136 := by kernel_rfl

theorem spot_none {w : World} {a : Addr} {v : Value} (h : w.cell? (a.add 0) = some v) : a.spot = none := by
  have : a.add 0 = a := by unfold Addr.add; simp
  rw [this] at h
  unfold World.cell? at h
  split at h
  · split at h
    · cases h
    · rename_i hs
      simpa using hs
  · cases h
theorem weights_mem_all {P : Program} {e : TypeId} : ∀ {ds : List (DataW H)} {d : DataW H}, d ∈ ds → ∀ n ∈ d.weights P e, n ∈ DataW.weightsAll P e ds
  | d0 :: ds, d, hd, n, hn => by
    simp only [DataW.weightsAll, List.mem_append]
    rcases List.mem_cons.1 hd with rfl | hd
    · exact .inl hn
    · exact .inr (weights_mem_all hd n hn)
theorem list2 {α : Type} : ∀ {l : List α}, l.length = 2 → ∃ a b, l = [a, b]
  | [a, b], _ => ⟨a, b, rfl⟩
theorem list3 {α : Type} : ∀ {l : List α}, l.length = 3 → ∃ a b c, l = [a, b, c]
  | [a, b, c], _ => ⟨a, b, c, rfl⟩
theorem list9 {α : Type} : ∀ {l : List α}, l.length = 9 → ∃ a b c d e f g h i, l = [a, b, c, d, e, f, g, h, i]
  | [a, b, c, d, e, f, g, h, i], _ => ⟨a, b, c, d, e, f, g, h, i, rfl⟩
theorem ob_below {o : Ob} {v : Value} (h : ObAt (fun _ => True) w v o) : ObAt (· < w.heap.size) w v o := h.mono fun _ hb _ => hb

theorem it_of_trod (h : DataW.trod enc Try.prog w 0 (fun _ => true) true fuel 97 cs = some x) (hf : Fits Try.prog 97 x.1) : ∃ y : It, cs = y.cells ∧ ObAt (· < w.heap.size) w y.val y.o := by
  obtain ⟨ys, n, rfl, rfl, hlen, hyl, hat⟩ := DataW.trod_struct Try.underlying97 h
  rw [cells97] at hlen
  obtain ⟨c0, c1, c2, c3, c4, c5, rfl⟩ := list6 hlen
  have hfs : ∀ n ∈ DataW.weightsEach Try.prog [3, 25] (ys.map (·.1)), n ≤ reachBytes := by
    intro n hn
    refine hf n ?_
    rw [DataW.weights, Try.underlying97]
    exact hn
  have a0 : DataW.trod enc Try.prog w 0 (fun _ => true) true n 3 [c0] = ys[0]? := by
    have : DataW.trod enc Try.prog w 0 (fun _ => true) true n 3 (([c0, c1, c2, c3, c4, c5].drop 0).take (Try.prog.cellsOf 3)) = ys[0]? := hat 0 _ rfl
    rw [cells3] at this
    exact this
  have a1 : DataW.trod enc Try.prog w 0 (fun _ => true) true n 25 [c1, c2, c3, c4, c5] = ys[1]? := by
    have : DataW.trod enc Try.prog w 0 (fun _ => true) true n 25 (([c0, c1, c2, c3, c4, c5].drop 1).take (Try.prog.cellsOf 25)) = ys[1]? := hat 1 _ rfl
    rw [cells25] at this
    exact this
  obtain ⟨y0, y1, rfl⟩ := list2 (l := ys) hyl
  obtain ⟨ad, e0, _, _⟩ := DataW.trod_int Try.underlying3 a0
  obtain ⟨o, ho⟩ := ob_of_trod a1 (fits_each hfs (j := 1) rfl rfl)
  obtain ⟨rv, wv, ev, h1, h2⟩ := ho
  obtain ⟨ra, rc, rfl⟩ := h1.shape
  obtain ⟨wa, wc, rfl⟩ := h2.shape
  simp only [List.cons.injEq, and_true] at e0
  subst e0
  have e5 : [c1, c2, c3, c4, c5] = [.int .i64 o.op, .int .i64 o.n, .int .i64 o.ar, .slice ra o.refs.length rc, .slice wa o.words.length wc] := by simpa using ev
  simp only [List.cons.injEq, and_true] at e5
  obtain ⟨rfl, rfl, rfl, rfl, rfl⟩ := e5
  exact ⟨⟨ad, o, ra, rc, wa, wc⟩, rfl, ob_below ⟨_, _, rfl, h1, h2⟩⟩

theorem its_of_trod (h : DataW.trod enc Try.prog w 0 (fun _ => true) true fuel 60 cs = some x) (hf : Fits Try.prog 60 x.1) : ∃ v l, cs = [v] ∧ Raw (· < w.heap.size) w v l ∧ ∀ y ∈ l, ObAt (· < w.heap.size) w y.val y.o := by
  rcases open_slice Try.underlying60 h with ⟨rfl, rfl⟩ | ⟨a, len, cap, m, n, D, Pl, rfl, _, hl, hm, hmm, rfl, hi⟩
  · exact ⟨_, [], rfl, ⟨none, 0, rfl, by simp, by simp [maxLen], fun _ => rfl, fun h => by simp at h, by simp⟩, fun y hy => by cases hy⟩
  · simp at hmm
    subst hmm
    have hb : m * 80 ≤ reachBytes := by
      have := hf (len * 80 + (m - len) * 80) (by
        simp only [DataW.weights, Try.underlying60, bytes97, Nat.add_mul, List.length_map, List.length_range]
        exact List.mem_cons_self)
      omega
    have hr : reachBytes ≤ 140737488355328 := by decide
    have hfit : ∀ i, i < len → Fits Try.prog 97 (D i) := by
      intro i hil k hk
      refine hf k ?_
      rw [DataW.weights, Try.underlying60]
      exact List.mem_cons_of_mem _ (List.mem_append_left _ (weights_mem_all (List.mem_map_of_mem (List.mem_range.2 hil)) k hk))
    rw [cells97] at hi
    have each : ∀ i : Nat, ∃ y : It, i < len → (∀ j, j < 6 → w.cell? (a.add (i * 6 + j)) = y.cells[j]?) ∧ ObAt (· < w.heap.size) w y.val y.o := by
      intro i
      by_cases him : i < len
      · obtain ⟨cs', hc, ht⟩ := hi i (by omega)
        obtain ⟨y, rfl, hy⟩ := it_of_trod ht (hfit i him)
        obtain ⟨_, _, hat⟩ := World.cells?_some hc
        refine ⟨y, fun _ => ⟨fun j hj => ?_, hy⟩⟩
        have := hat j hj
        rw [Go.Deep.add_add] at this
        exact this
      · exact ⟨⟨0, ob0, none, 0, none, 0⟩, fun h => absurd h him⟩
    obtain ⟨E, hE⟩ := Classical.axiomOfChoice each
    have hlen : ((List.range len).map E).length = len := by simp
    refine ⟨_, (List.range len).map E, rfl, ⟨some a, m, by rw [hlen], by rw [hlen]; exact hl, hm, (fun h => by cases h), fun h0 => ?_, by rw [hlen]; omega⟩, ?_⟩
    · rw [hlen] at h0
      have hc0 : w.cell? (a.add 0) = some (.int .i64 (E 0).a) := (hE 0 h0).1 0 (by omega)
      have hs := spot_none hc0
      have hlt := World.block_lt_of_cell? _ _ hc0
      rw [addr_block] at hlt
      obtain ⟨b, o, s⟩ := a
      simp at hs
      subst hs
      refine ⟨b, o, rfl, hlt, hlt, fun k y hk => ?_⟩
      simp only [List.getElem?_map, Option.map_eq_some_iff] at hk
      obtain ⟨j, hj, rfl⟩ := hk
      obtain ⟨hj1, hj2⟩ := List.getElem?_eq_some_iff.1 hj
      simp at hj1 hj2
      subst hj2
      have hh := (hE k (by omega)).1
      simp only [Addr.add_lit, ← Nat.add_assoc] at hh
      exact ⟨hh 0 (by omega), hh 1 (by omega), hh 2 (by omega), hh 3 (by omega), hh 4 (by omega), hh 5 (by omega)⟩
    · intro y hy
      simp only [List.mem_map, List.mem_range] at hy
      obtain ⟨i, hi', rfl⟩ := hy
      exact (hE i hi').2

theorem opn_of_trod (h : DataW.trod enc Try.prog w 0 (fun _ => true) true fuel 85 cs = some x) (hf : Fits Try.prog 85 x.1) : ∃ p : Opn, cs = p.arr.toList ∧ OpOk w.heap.size w p := by
  obtain ⟨ys, n, rfl, rfl, hlen, hyl, hat⟩ := DataW.trod_struct Try.underlying85 h
  rw [cells85] at hlen
  obtain ⟨c0, c1, c2, c3, c4, c5, c6, c7, c8, rfl⟩ := list9 hlen
  have hfs : ∀ n ∈ DataW.weightsEach Try.prog [3, 3, 25, 60, 60] (ys.map (·.1)), n ≤ reachBytes := by
    intro n hn
    refine hf n ?_
    rw [DataW.weights, Try.underlying85]
    exact hn
  have a0 : DataW.trod enc Try.prog w 0 (fun _ => true) true n 3 [c0] = ys[0]? := by
    have : DataW.trod enc Try.prog w 0 (fun _ => true) true n 3 (([c0, c1, c2, c3, c4, c5, c6, c7, c8].drop 0).take (Try.prog.cellsOf 3)) = ys[0]? := hat 0 _ rfl
    rw [cells3] at this
    exact this
  have a1 : DataW.trod enc Try.prog w 0 (fun _ => true) true n 3 [c1] = ys[1]? := by
    have : DataW.trod enc Try.prog w 0 (fun _ => true) true n 3 (([c0, c1, c2, c3, c4, c5, c6, c7, c8].drop 1).take (Try.prog.cellsOf 3)) = ys[1]? := hat 1 _ rfl
    rw [cells3] at this
    exact this
  have a2 : DataW.trod enc Try.prog w 0 (fun _ => true) true n 25 [c2, c3, c4, c5, c6] = ys[2]? := by
    have : DataW.trod enc Try.prog w 0 (fun _ => true) true n 25 (([c0, c1, c2, c3, c4, c5, c6, c7, c8].drop 2).take (Try.prog.cellsOf 25)) = ys[2]? := hat 2 _ rfl
    rw [cells25] at this
    exact this
  have a3 : DataW.trod enc Try.prog w 0 (fun _ => true) true n 60 [c7] = ys[3]? := by
    have : DataW.trod enc Try.prog w 0 (fun _ => true) true n 60 (([c0, c1, c2, c3, c4, c5, c6, c7, c8].drop 7).take (Try.prog.cellsOf 60)) = ys[3]? := hat 3 _ rfl
    rw [cells60] at this
    exact this
  have a4 : DataW.trod enc Try.prog w 0 (fun _ => true) true n 60 [c8] = ys[4]? := by
    have : DataW.trod enc Try.prog w 0 (fun _ => true) true n 60 (([c0, c1, c2, c3, c4, c5, c6, c7, c8].drop 8).take (Try.prog.cellsOf 60)) = ys[4]? := hat 4 _ rfl
    rw [cells60] at this
    exact this
  obtain ⟨y0, y1, y2, y3, y4, rfl⟩ := list5 (l := ys) hyl
  obtain ⟨kd, e0, _, _⟩ := DataW.trod_int Try.underlying3 a0
  obtain ⟨ad, e1, _, _⟩ := DataW.trod_int Try.underlying3 a1
  obtain ⟨o, ho⟩ := ob_of_trod a2 (fits_each hfs (j := 2) rfl rfl)
  obtain ⟨v1, l1, e7, r1, i1⟩ := its_of_trod a3 (fits_each hfs (j := 3) rfl rfl)
  obtain ⟨v2, l2, e8, r2, i2⟩ := its_of_trod a4 (fits_each hfs (j := 4) rfl rfl)
  obtain ⟨rv, wv, ev, h1, h2⟩ := ho
  obtain ⟨ra, rc, rfl⟩ := h1.shape
  obtain ⟨wa, wc, rfl⟩ := h2.shape
  obtain ⟨na, nc, rfl⟩ := r1.shape
  obtain ⟨oa, oc, rfl⟩ := r2.shape
  simp only [List.cons.injEq, and_true] at e0 e1 e7 e8
  subst e0 e1 e7 e8
  have e5 : [c2, c3, c4, c5, c6] = [.int .i64 o.op, .int .i64 o.n, .int .i64 o.ar, .slice ra o.refs.length rc, .slice wa o.words.length wc] := by simpa using ev
  simp only [List.cons.injEq, and_true] at e5
  obtain ⟨rfl, rfl, rfl, rfl, rfl⟩ := e5
  refine ⟨⟨kd, ad, o, ra, rc, wa, wc, l1, na, nc, l2, oa, oc⟩, rfl, ⟨ob_below ⟨_, _, rfl, h1, h2⟩, r1, r2, fun y hy => ?_⟩⟩
  rcases List.mem_append.1 hy with hy | hy
  · exact i1 y hy
  · exact i2 y hy

theorem ops_of_trod (h : DataW.trod enc Try.prog w 0 (fun _ => true) true fuel 39 cs = some x) (hf : Fits Try.prog 39 x.1) : ∃ v l, cs = [v] ∧ Ops w.heap.size w v l := by
  rcases open_slice Try.underlying39 h with ⟨rfl, rfl⟩ | ⟨a, len, cap, m, n, D, Pl, rfl, _, hl, hm, hmm, rfl, hi⟩
  · exact ⟨_, [], rfl, ⟨none, 0, rfl, by simp, by simp [maxLen], fun h => by simp at h, (fun p hp => by cases hp), by simp⟩⟩
  · simp at hmm
    subst hmm
    have hb : m * 136 ≤ reachBytes := by
      have := hf (len * 136 + (m - len) * 136) (by
        simp only [DataW.weights, Try.underlying39, bytes85, Nat.add_mul, List.length_map, List.length_range]
        exact List.mem_cons_self)
      omega
    have hr : reachBytes ≤ 140737488355328 := by decide
    have hfit : ∀ i, i < len → Fits Try.prog 85 (D i) := by
      intro i hil k hk
      refine hf k ?_
      rw [DataW.weights, Try.underlying39]
      exact List.mem_cons_of_mem _ (List.mem_append_left _ (weights_mem_all (List.mem_map_of_mem (List.mem_range.2 hil)) k hk))
    rw [cells85] at hi
    have each : ∀ i : Nat, ∃ p : Opn, i < len → (∀ j, j < 9 → w.cell? (a.add (i * 9 + j)) = p.arr.toList[j]?) ∧ OpOk w.heap.size w p := by
      intro i
      by_cases him : i < len
      · obtain ⟨cs', hc, ht⟩ := hi i (by omega)
        obtain ⟨p, rfl, hp⟩ := opn_of_trod ht (hfit i him)
        obtain ⟨_, _, hat⟩ := World.cells?_some hc
        refine ⟨p, fun _ => ⟨fun j hj => ?_, hp⟩⟩
        have := hat j hj
        rw [Go.Deep.add_add] at this
        exact this
      · exact ⟨⟨0, 0, ob0, none, 0, none, 0, [], none, 0, [], none, 0⟩, fun h => absurd h him⟩
    obtain ⟨E, hE⟩ := Classical.axiomOfChoice each
    have hlen : ((List.range len).map E).length = len := by simp
    refine ⟨_, (List.range len).map E, rfl, ⟨some a, m, by rw [hlen], by rw [hlen]; exact hl, hm, fun h0 => ?_, ?_, by rw [hlen]; omega⟩⟩
    · rw [hlen] at h0
      have hc0 : w.cell? (a.add 0) = some (.int .i64 (E 0).kind) := (hE 0 h0).1 0 (by omega)
      have hs := spot_none hc0
      have hlt := World.block_lt_of_cell? _ _ hc0
      rw [addr_block] at hlt
      obtain ⟨b, o, s⟩ := a
      simp at hs
      subst hs
      refine ⟨b, o, rfl, hlt, fun k p hk => ?_⟩
      simp only [List.getElem?_map, Option.map_eq_some_iff] at hk
      obtain ⟨j, hj, rfl⟩ := hk
      obtain ⟨hj1, hj2⟩ := List.getElem?_eq_some_iff.1 hj
      simp at hj1 hj2
      subst hj2
      have hh := (hE k (by omega)).1
      simp only [Addr.add_lit, ← Nat.add_assoc] at hh
      exact ⟨hh 0 (by omega), hh 1 (by omega), hh 2 (by omega), hh 3 (by omega), hh 4 (by omega), hh 5 (by omega), hh 6 (by omega), hh 7 (by omega), hh 8 (by omega)⟩
    · intro p hp
      simp only [List.mem_map, List.mem_range] at hp
      obtain ⟨i, hi', rfl⟩ := hp
      exact (hE i hi').2

/-- A script. -/
theorem script_of_trod (h : DataW.trod enc Try.prog w 0 (fun _ => true) true fuel 41 cs = some x) (hf : Fits Try.prog 41 x.1) : ∃ (n m : Int) (v : Value) (l : List Opn), cs = [.int .i64 n, .int .i64 m, v] ∧ Ops w.heap.size w v l := by
  obtain ⟨ys, n, rfl, rfl, hlen, hyl, hat⟩ := DataW.trod_struct Try.underlying41 h
  rw [cells41] at hlen
  obtain ⟨c0, c1, c2, rfl⟩ := list3 hlen
  have hfs : ∀ n ∈ DataW.weightsEach Try.prog [3, 3, 39] (ys.map (·.1)), n ≤ reachBytes := by
    intro n hn
    refine hf n ?_
    rw [DataW.weights, Try.underlying41]
    exact hn
  have a0 : DataW.trod enc Try.prog w 0 (fun _ => true) true n 3 [c0] = ys[0]? := by
    have : DataW.trod enc Try.prog w 0 (fun _ => true) true n 3 (([c0, c1, c2].drop 0).take (Try.prog.cellsOf 3)) = ys[0]? := hat 0 _ rfl
    rw [cells3] at this
    exact this
  have a1 : DataW.trod enc Try.prog w 0 (fun _ => true) true n 3 [c1] = ys[1]? := by
    have : DataW.trod enc Try.prog w 0 (fun _ => true) true n 3 (([c0, c1, c2].drop 1).take (Try.prog.cellsOf 3)) = ys[1]? := hat 1 _ rfl
    rw [cells3] at this
    exact this
  have a2 : DataW.trod enc Try.prog w 0 (fun _ => true) true n 39 [c2] = ys[2]? := by
    have : DataW.trod enc Try.prog w 0 (fun _ => true) true n 39 (([c0, c1, c2].drop 2).take (Try.prog.cellsOf 39)) = ys[2]? := hat 2 _ rfl
    rw [cells39] at this
    exact this
  obtain ⟨y0, y1, y2, rfl⟩ := list3 (l := ys) hyl
  obtain ⟨n1, e0, _, _⟩ := DataW.trod_int Try.underlying3 a0
  obtain ⟨n2, e1, _, _⟩ := DataW.trod_int Try.underlying3 a1
  obtain ⟨v, l, e2, hl⟩ := ops_of_trod a2 (fits_each hfs (j := 2) rfl rfl)
  simp only [List.cons.injEq, and_true] at e0 e1 e2
  subst e0 e1 e2
  exact ⟨n1, n2, _, l, rfl, hl⟩
end
end Go.Proofs.Ytobniolmielikaa
