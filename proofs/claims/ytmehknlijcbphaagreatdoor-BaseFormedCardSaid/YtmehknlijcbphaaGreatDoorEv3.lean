/- The evaluator's operations on memory, each beside the model's; no condition. -/
import Derived.Test.YtmehknlijcbphaaGreatDoorEv2
namespace Go.Proofs.YtmehknlijcbphaaGreatDoor.Ev
open Go

theorem add_at (b off j : Nat) : (⟨b, off, none⟩ : Addr).add j = ⟨b, off + j, none⟩ := by unfold Addr.add; split <;> simp_all

def putB (w : World) (b : Nat) (o : Obj) : World := { w with heap := w.heap.setIfInBounds b o }
theorem putB_size (w : World) (b : Nat) (o : Obj) : (putB w b o).heap.size = w.heap.size := by simp [putB]
theorem putB_same {w : World} {b : Nat} {o o' : Obj} (h : w.heap[b]? = some o) : (putB w b o').heap[b]? = some o' := by
  have := (Array.getElem?_eq_some_iff.1 h).1
  simp [putB, this]
theorem putB_other {w : World} {b k : Nat} {o : Obj} (h : k ≠ b) : (putB w b o).heap[k]? = w.heap[k]? := by
  simp only [putB]
  rw [Array.getElem?_setIfInBounds_ne (by omega)]
theorem putB_putB (w : World) (b : Nat) (o o' : Obj) : putB (putB w b o) b o' = putB w b o' := by simp [putB]
theorem putB_id {w : World} {b : Nat} {o : Obj} (h : w.heap[b]? = some o) : putB w b o = w := by
  obtain ⟨h1, h2⟩ := Array.getElem?_eq_some_iff.1 h
  have : w.heap.setIfInBounds b o = w.heap := by
    apply Array.ext (by simp)
    intro i h3 h4
    rw [Array.getElem_setIfInBounds]
    split
    · rename_i he; subst he; exact h2.symm
    · rfl
  cases w
  simp_all [putB]

section
variable {P : Program} {w : World}

theorem run_alloc' {e : TypeId} {i : TypeInfo} {z : Value} (hi : P.info? e = some i) (hz : i.zero = some z) :
    (Instr.alloc e true (.tuple #[])).run P w = .ok (.pointer (some ⟨w.heap.size, 0, none⟩)) (w.alloc (.cells z.cells e)) := by
  simp [Instr.alloc, zeroValue, run_typeInfo _ hi, hz, newVar, newRow]
theorem run_box' (e : TypeId) (v : Value) : (Instr.box e v).run P w = .ok (.pointer (some ⟨w.heap.size, 0, none⟩)) (w.alloc (.cells v.cells e)) := by
  simp [Instr.box, newVar, newRow]

theorem run_loadVar' [Syms] {t : TypeId} {d : TypeDesc} {i : TypeInfo} (hu : P.underlying t = some d) (hi : P.info? t = some i) {b off : Nat} {vs : List Value}
    (hc : ∀ j v, vs[j]? = some v → w.cell? ⟨b, off + j, none⟩ = some v) :
    (isAggD d = true → i.size ≤ vs.length → (loadVar t ⟨b, off, none⟩).run P w = .ok (.agg (vs.take i.size).toArray) w) ∧
    (isAggD d = false → ∀ v, vs.head? = some v → (loadVar t ⟨b, off, none⟩).run P w = .ok v w) := by
  constructor
  · intro ha hl
    have hl' : (loadCells ⟨b, off, none⟩ (vs.take i.size).length).run P w = .ok (vs.take i.size).toArray w :=
      run_loadCells_list (P := P) w ⟨b, off, none⟩ (vs.take i.size) (fun j v hv => by
        rw [add_at]
        rw [List.getElem?_take] at hv
        split at hv
        · exact hc j v hv
        · cases hv)
    rw [List.length_take, Nat.min_eq_left hl] at hl'
    cases d <;> simp [isAggD] at ha <;> simp [loadVar, isAgg, run_underlying hu, sizeOf, run_typeInfo _ hi, hl']
  · intro ha v hv
    have h0 := hc 0 v (by cases vs <;> simp_all)
    rw [Nat.add_zero] at h0
    cases d <;> simp [isAggD] at ha <;> simp [loadVar, isAgg, run_underlying hu, load, Sem.run, h0]

theorem putV_set [Syms] : ∀ (l : List Value) (i : Nat) (v : Value) (vs : List Value), putV (l.set i v) (i + 1) vs = putV l i (v :: vs)
  | [], i, v, vs => by cases vs <;> cases i <;> rfl
  | x :: l, 0, v, vs => by
    cases vs with
    | nil => simp [putV]
    | cons y ys => simp [putV]
  | x :: l, i + 1, v, vs => by
    have := putV_set l i v vs
    cases vs with
    | nil => rw [putV_nil] at this; simp [putV, this]
    | cons y ys => simp [putV, this]

theorem run_storeCells' [Syms] {b off : Nat} {e : TypeId} : ∀ (vs : List Value) (i : Nat) (cur : List Value) (w : World), w.heap[b]? = some (.cells cur.toArray e (0, 0)) → off + i + vs.length ≤ cur.length →
    (∀ v ∈ vs, v.oneCell' = true) → (storeCells ⟨b, off, none⟩ vs i).run P w = .ok () (putB w b (.cells (putV cur (off + i) vs).toArray e (0, 0)))
  | [], i, cur, w, hb, _, _ => by
    rw [putV_nil, putB_id hb]
    rfl
  | v :: vs, i, cur, w, hb, hl, h1 => by
    simp only [List.length_cons] at hl
    have hlt : b < w.heap.size := (Array.getElem?_eq_some_iff.1 hb).1
    have hcell : w.cell? ⟨b, off + i, none⟩ = some cur[off + i] := by
      simp only [World.cell?, hb, Option.isSome_none, Bool.false_eq_true, if_false]
      simp
    have hfr : w.frozen? ⟨b, off + i, none⟩ = false := by simp [World.frozen?, hb]
    have hset : w.setCell ⟨b, off + i, none⟩ v = putB w b (.cells (cur.set (off + i) v).toArray e (0, 0)) := by
      simp only [World.setCell, putB]
      congr 1
      apply Array.ext_getElem?
      intro k
      rw [Array.getElem?_modify, Array.getElem?_setIfInBounds]
      by_cases hk : b = k
      · subst hk
        simp [hlt, (Array.getElem?_eq_some_iff.1 hb).2]
      · simp [hk]
    have hb2 : (putB w b (.cells (cur.set (off + i) v).toArray e (0, 0))).heap[b]? = some (.cells (cur.set (off + i) v).toArray e (0, 0)) := putB_same hb
    have ih := run_storeCells' (b := b) (off := off) (e := e) vs (i + 1) (cur.set (off + i) v) _ hb2 (by simp; omega) (fun u hu => h1 u (by simp [hu]))
    have h1v := h1 v (by simp)
    rw [show off + (i + 1) = off + i + 1 by omega, putV_set, putB_putB] at ih
    simp only [storeCells, add_at, Sem.run_bind, run_store P w _ v _ h1v, hcell, hfr]
    simp only [Bool.false_eq_true, if_false, Result.andThen_ok, hset, ih]

theorem run_storeVar' [Syms] {t : TypeId} {i : TypeInfo} (hi : P.info? t = some i) {b off : Nat} {e : TypeId} {cur : List Value} {u : Value} (hb : w.heap[b]? = some (.cells cur.toArray e (0, 0)))
    (hs : u.cells.size = i.size) (hl : off + u.cells.size ≤ cur.length) (h1 : ∀ v ∈ u.cells.toList, v.oneCell' = true) :
    (storeVar t ⟨b, off, none⟩ u).run P w = .ok () (putB w b (.cells (putV cur off u.cells.toList).toArray e (0, 0))) := by
  have := run_storeCells' (P := P) u.cells.toList 0 cur w hb (by simpa using hl) h1
  simp only [Nat.add_zero] at this
  simp [storeVar, sizeOf, run_typeInfo _ hi, hs, this]

theorem foldl_put [Syms] : ∀ (vs : List Value) (k off : Nat) (cs : Array Value), ((vs.zipIdx k).foldl (fun (cs : Array Value) (p : Value × Nat) => cs.setIfInBounds (off + p.2) p.1) cs).toList = putV cs.toList (off + k) vs
  | [], k, off, cs => by simp [putV_nil]
  | v :: vs, k, off, cs => by
    simp only [List.zipIdx_cons, List.foldl_cons]
    rw [foldl_put vs (k + 1) off, Array.toList_setIfInBounds, show off + (k + 1) = off + k + 1 by omega, putV_set]

theorem fill_real [Syms] {c : Cx} (place : Nat → Option (Nat × Nat)) (tm : Nat → AV) (ev : Operand → Value) (hev : ∀ x, Real c (evX tm x) (ev x)) :
    ∀ (ps : List (Nat × Operand)) (zs cs : List AV) (cells : Array Value), fillAV place zs (ps.map fun p => (p.1, evX tm p.2)) = some cs → RealL c zs cells.toList → (∀ v ∈ cells.toList, v.oneCell' = true) →
      ∃ cells' : Array Value, Instr.fill place cells (ps.map fun p => (p.1, ev p.2)) = some cells' ∧ RealL c cs cells'.toList ∧ ∀ v ∈ cells'.toList, v.oneCell' = true
  | [], zs, cs, cells, h, hz, h1 => by
    simp only [List.map_nil, fillAV] at h
    injection h with h
    subst h
    exact ⟨cells, rfl, hz, h1⟩
  | (i, x) :: ps, zs, cs, cells, h, hz, h1 => by
    simp only [List.map_cons, fillAV] at h
    split at h
    · rename_i off size ys hp hc
      split at h
      · rename_i hs
        split at h
        · rename_i hl
          obtain ⟨hy, hy1⟩ := cellsOf_real hc (hev x)
          have hyl := hy.length
          have hzl := hz.length
          have hput : ((ev x).cells.zipIdx.foldl (fun cs p => cs.setIfInBounds (off + p.2) p.1) cells).toList = putV cells.toList off (ev x).cells.toList := by
            rw [← Array.foldl_toList, Array.toList_zipIdx]
            exact foldl_put _ 0 off cells
          obtain ⟨cells', e1, e2, e3⟩ := fill_real place tm ev hev ps (put zs off ys) cs ((ev x).cells.zipIdx.foldl (fun cs p => cs.setIfInBounds (off + p.2) p.1) cells) h
            (by rw [hput]; exact RealL.put off hz hy) (fun v hv => by
              rw [hput] at hv
              rcases putV_mem hv with hv | hv
              · exact h1 v hv
              · exact hy1 v hv)
          refine ⟨cells', ?_, e2, e3⟩
          simp only [List.map_cons, Instr.fill, hp]
          have hyl' : (ev x).cells.size = size := by rw [← Array.length_toList, hyl, hs]
          have hzl' : cells.size = zs.length := by rw [← Array.length_toList, hzl]
          rw [if_neg (by simp only [Bool.or_eq_true, decide_eq_true_eq, not_or]; refine ⟨by simpa using hyl', by omega⟩)]
          exact e1
        · cases h
      · cases h
    · cases h
end
end Go.Proofs.YtmehknlijcbphaaGreatDoor.Ev
