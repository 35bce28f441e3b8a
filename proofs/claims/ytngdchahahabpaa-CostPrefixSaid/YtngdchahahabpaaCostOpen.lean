/- How the arguments of the cost laws read, said in this seat's words: a slice of events; no condition. -/
import Derived.Test.YtngdchahahabpaaCost8
import Derived.ProofKit
import Derived.SizedLaws
import Derived.Deep.Slices
import Derived.Deep.Fields
import Derived.ChangeSame
namespace Go.Proofs.Ytngdchahahabpaa
open Go.RowKit Go.ChangeShapes Go.WideShapes Go.ChangeAt Go.Deep

theorem cells51 : Try.prog.cellsOf 51 = 3 := by kernel_rfl
theorem bytes51 : Try.prog.bytesOf 51 = 24 := by kernel_rfl
/-- All weights are within the form's reach. -/
def Fits {H : Type} (P : Program) (t : TypeId) (d : DataW H) : Prop := ∀ n ∈ d.weights P t, n ≤ reachBytes
theorem fits_each {H : Type} {P : Program} : ∀ {ts : List TypeId} {ds : List (DataW H)} {j : Nat} {t : TypeId} {d : DataW H}, (∀ n ∈ DataW.weightsEach P ts ds, n ≤ reachBytes) → ts[j]? = some t → ds[j]? = some d → Fits P t d :=
  fun h ht hd n hn => h n (DataW.weights_mem_each ht hd n hn)

theorem list3 {α : Type} : ∀ {l : List α}, l.length = 3 → ∃ a b c, l = [a, b, c]
  | [a, b, c], _ => ⟨a, b, c, rfl⟩

section
variable {H : Type} {enc : TypeId × Value → H} {w : World} {fuel : Nat} {cs : List Value} {x : DataW H × List MemPlace}
/-- One event. -/
theorem ev_of_trod (h : DataW.trod enc Try.prog w 0 (fun _ => true) true fuel 51 cs = some x) :
    ∃ e : Ev, cs = [.int .i64 e.op, .int .i64 e.id, .int .i64 e.step] ∧ (Lit.int .i64 e.op).wf = true ∧ (Lit.int .i64 e.id).wf = true ∧ (Lit.int .i64 e.step).wf = true := by
  obtain ⟨ys, n, rfl, rfl, hlen, hyl, hat⟩ := DataW.trod_struct Try.underlying51 h
  rw [cells51] at hlen
  obtain ⟨c0, c1, c2, rfl⟩ := list3 hlen
  have k49 : Try.prog.cellsOf 49 = 1 := by kernel_rfl
  have k3 : Try.prog.cellsOf 3 = 1 := by kernel_rfl
  have a0 : DataW.trod enc Try.prog w 0 (fun _ => true) true n 49 [c0] = ys[0]? := by
    have : DataW.trod enc Try.prog w 0 (fun _ => true) true n 49 (([c0, c1, c2].drop 0).take (Try.prog.cellsOf 49)) = ys[0]? := hat 0 _ rfl
    rw [k49] at this
    exact this
  have a1 : DataW.trod enc Try.prog w 0 (fun _ => true) true n 3 [c1] = ys[1]? := by
    have : DataW.trod enc Try.prog w 0 (fun _ => true) true n 3 (([c0, c1, c2].drop 1).take (Try.prog.cellsOf 3)) = ys[1]? := hat 1 _ rfl
    rw [k3] at this
    exact this
  have a2 : DataW.trod enc Try.prog w 0 (fun _ => true) true n 3 [c2] = ys[2]? := by
    have : DataW.trod enc Try.prog w 0 (fun _ => true) true n 3 (([c0, c1, c2].drop 2).take (Try.prog.cellsOf 3)) = ys[2]? := hat 2 _ rfl
    rw [k3] at this
    exact this
  obtain ⟨y0, y1, y2, rfl⟩ := list3 (l := ys) hyl
  obtain ⟨op, e0, _, w0⟩ := DataW.trod_int Try.underlying49 a0
  obtain ⟨id, e1, _, w1⟩ := DataW.trod_int Try.underlying3 a1
  obtain ⟨st, e2, _, w2⟩ := DataW.trod_int Try.underlying3 a2
  simp only [List.cons.injEq, and_true] at e0 e1 e2
  subst e0 e1 e2
  exact ⟨⟨op, id, st⟩, rfl, w0, w1, w2⟩

theorem evs_of_trod (h : DataW.trod enc Try.prog w 0 (fun _ => true) true fuel 31 cs = some x) (hf : Fits Try.prog 31 x.1) : ∃ v l, cs = [v] ∧ Evs w v l := by
  rcases open_slice Try.underlying31 h with ⟨rfl, rfl⟩ | ⟨a, len, cap, m, n, D, Pl, rfl, _, hl, hm, hmm, rfl, hi⟩
  · exact ⟨_, [], rfl, none, 0, rfl, by simp, by simp [maxLen], fun h => by simp at h, by simp, by simp⟩
  · simp at hmm
    subst hmm
    have hb : m * 24 ≤ reachBytes := by
      have := hf (len * 24 + (m - len) * 24) (by
        simp only [DataW.weights, Try.underlying31, bytes51, Nat.add_mul, List.length_map, List.length_range]
        exact List.mem_cons_self)
      omega
    have hr : reachBytes ≤ 140737488355328 := by decide
    rw [cells51] at hi
    have each : ∀ i : Nat, ∃ e : Ev, i < m → w.cell? (a.add (i * 3)) = some (.int .i64 e.op) ∧ w.cell? (a.add (i * 3 + 1)) = some (.int .i64 e.id) ∧ w.cell? (a.add (i * 3 + 2)) = some (.int .i64 e.step) ∧
        (Lit.int .i64 e.op).wf = true ∧ (Lit.int .i64 e.id).wf = true ∧ (Lit.int .i64 e.step).wf = true := by
      intro i
      by_cases him : i < m
      · obtain ⟨cs', hc, ht⟩ := hi i him
        obtain ⟨e, rfl, w0, w1, w2⟩ := ev_of_trod ht
        obtain ⟨_, _, hat⟩ := World.cells?_some hc
        have h0 := hat 0 (by omega)
        have h1 := hat 1 (by omega)
        have h2 := hat 2 (by omega)
        rw [Go.Deep.add_add] at h0 h1 h2
        exact ⟨e, fun _ => ⟨h0, h1, h2, w0, w1, w2⟩⟩
      · exact ⟨⟨0, 0, 0⟩, fun h => absurd h him⟩
    obtain ⟨E, hE⟩ := Classical.axiomOfChoice each
    have hlen : ((List.range len).map E).length = len := by simp
    refine ⟨_, (List.range len).map E, rfl, some a, m, by rw [hlen], by rw [hlen]; exact hl, hm, fun h0 => ⟨a, rfl, ?_, ?_⟩, by rw [hlen]; omega, ?_⟩
    · rw [hlen] at h0
      have := World.block_lt_of_cell? _ _ (hE 0 (by omega)).1
      rwa [addr_block] at this
    · intro i e he
      simp only [List.getElem?_map, Option.map_eq_some_iff] at he
      obtain ⟨j, hj, rfl⟩ := he
      obtain ⟨hj1, hj2⟩ := List.getElem?_eq_some_iff.1 hj
      simp at hj1 hj2
      subst hj2
      obtain ⟨h0, h1, h2, _⟩ := hE i (by omega)
      exact ⟨h0, h1, h2⟩
    · intro e he
      simp only [List.mem_map, List.mem_range] at he
      obtain ⟨i, hi', rfl⟩ := he
      exact (hE i (by omega)).2.2.2
end
end Go.Proofs.Ytngdchahahabpaa
