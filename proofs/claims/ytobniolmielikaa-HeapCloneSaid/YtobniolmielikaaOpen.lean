/- How the arguments of this seat's laws read, said in this seat's words: slices of ints, heap objects; no condition. -/
import Derived.Test.YtobniolmielikaaHeap5
import Derived.ProofKit
import Derived.SizedLaws
import Derived.Deep.Slices
namespace Go.Proofs.Ytobniolmielikaa
open Go.RowKit Go.ChangeShapes Go.WideShapes Go.ChangeAt

section
variable {H : Type} {enc : TypeId × Value → H} {w : World} {fuel : Nat} {cs : List Value} {x : DataW H × List MemPlace}

theorem cells3 : Try.prog.cellsOf 3 = 1 := by kernel_rfl
theorem cells22 : Try.prog.cellsOf 22 = 1 := by kernel_rfl
theorem cells23 : Try.prog.cellsOf 23 = 1 := by kernel_rfl
theorem cells25 : Try.prog.cellsOf 25 = 5 := by kernel_rfl
theorem bytes3 : Try.prog.bytesOf 3 = 8 := by kernel_rfl

/-- All weights are within the form's reach. -/
def Fits (P : Program) (t : TypeId) (d : DataW H) : Prop := ∀ n ∈ d.weights P t, n ≤ reachBytes

theorem ints_of_trod (h : DataW.trod enc Try.prog w 0 (fun _ => true) true fuel 23 cs = some x) (hf : Fits Try.prog 23 x.1) : ∃ v xs, cs = [v] ∧ Ints (fun _ => True) w v xs := by
  rcases open_ints Try.underlying23 Try.underlying3 cells3 h with ⟨rfl, rfl⟩ | ⟨a, len, cap, zs, rfl, _, hl, hm, hz, rfl, hc, hw⟩
  · exact ⟨_, [], rfl, Ints.nil _ _⟩
  · have hz' : zs.length = cap := by simpa using hz
    have hb : zs.length * 8 ≤ reachBytes := by
      have := hf ((lits IntKind.i64 (zs.take len)).length * 8 + (lits (H := H) IntKind.i64 (zs.drop len)).length * 8) (by
        simp only [DataW.weights, Try.underlying23, bytes3, Nat.add_mul]
        exact List.mem_cons_self)
      simp [lits] at this
      omega
    have hr : reachBytes ≤ 140737488355328 := by decide
    have hlen : (zs.take len).length = len := by simp; omega
    refine ⟨_, zs.take len, rfl, ⟨some a, cap, by rw [hlen], by omega, hm, (fun h => by cases h), fun h0 => ⟨a, rfl, trivial, ?_, ?_⟩, by omega, fun z hz => hw z (List.mem_of_mem_take hz)⟩⟩
    · have h1 := hc 0 (by omega)
      have := World.block_lt_of_cell? _ _ h1
      rwa [addr_block] at this
    · intro i y hy
      rw [List.getElem?_take] at hy
      split at hy
      · rename_i hi
        have hi' : i < zs.length := (List.getElem?_eq_some_iff.1 hy).1
        rw [hc i hi']
        simp [List.getD_eq_getElem?_getD, hy]
      · cases hy

theorem list5 {α : Type} : ∀ {l : List α}, l.length = 5 → ∃ a b c d e, l = [a, b, c, d, e]
  | [a, b, c, d, e], _ => ⟨a, b, c, d, e, rfl⟩
theorem list6 {α : Type} : ∀ {l : List α}, l.length = 6 → ∃ a b c d e f, l = [a, b, c, d, e, f]
  | [a, b, c, d, e, f], _ => ⟨a, b, c, d, e, f, rfl⟩
theorem fits_each {P : Program} : ∀ {ts : List TypeId} {ds : List (DataW H)} {j : Nat} {t : TypeId} {d : DataW H}, (∀ n ∈ DataW.weightsEach P ts ds, n ≤ reachBytes) → ts[j]? = some t → ds[j]? = some d → Fits P t d :=
  fun h ht hd n hn => h n (DataW.weights_mem_each ht hd n hn)

theorem ob_of_trod (h : DataW.trod enc Try.prog w 0 (fun _ => true) true fuel 25 cs = some x) (hf : Fits Try.prog 25 x.1) : ∃ o, ObAt (fun _ => True) w (.agg cs.toArray) o := by
  obtain ⟨ys, n, rfl, rfl, hlen, hyl, hat⟩ := DataW.trod_struct Try.underlying25 h
  rw [cells25] at hlen
  obtain ⟨c0, c1, c2, c3, c4, rfl⟩ := list5 hlen
  have hfs : ∀ n ∈ DataW.weightsEach Try.prog [22, 3, 3, 23, 23] (ys.map (·.1)), n ≤ reachBytes := by
    intro n hn
    refine hf n ?_
    rw [DataW.weights, Try.underlying25]
    exact hn
  have a0 : DataW.trod enc Try.prog w 0 (fun _ => true) true n 22 [c0] = ys[0]? := by
    have : DataW.trod enc Try.prog w 0 (fun _ => true) true n 22 (([c0, c1, c2, c3, c4].drop 0).take (Try.prog.cellsOf 22)) = ys[0]? := hat 0 _ rfl
    rw [cells22] at this
    exact this
  have a1 : DataW.trod enc Try.prog w 0 (fun _ => true) true n 3 [c1] = ys[1]? := by
    have : DataW.trod enc Try.prog w 0 (fun _ => true) true n 3 (([c0, c1, c2, c3, c4].drop 1).take (Try.prog.cellsOf 3)) = ys[1]? := hat 1 _ rfl
    rw [cells3] at this
    exact this
  have a2 : DataW.trod enc Try.prog w 0 (fun _ => true) true n 3 [c2] = ys[2]? := by
    have : DataW.trod enc Try.prog w 0 (fun _ => true) true n 3 (([c0, c1, c2, c3, c4].drop 2).take (Try.prog.cellsOf 3)) = ys[2]? := hat 2 _ rfl
    rw [cells3] at this
    exact this
  have a3 : DataW.trod enc Try.prog w 0 (fun _ => true) true n 23 [c3] = ys[3]? := by
    have : DataW.trod enc Try.prog w 0 (fun _ => true) true n 23 (([c0, c1, c2, c3, c4].drop 3).take (Try.prog.cellsOf 23)) = ys[3]? := hat 3 _ rfl
    rw [cells23] at this
    exact this
  have a4 : DataW.trod enc Try.prog w 0 (fun _ => true) true n 23 [c4] = ys[4]? := by
    have : DataW.trod enc Try.prog w 0 (fun _ => true) true n 23 (([c0, c1, c2, c3, c4].drop 4).take (Try.prog.cellsOf 23)) = ys[4]? := hat 4 _ rfl
    rw [cells23] at this
    exact this
  obtain ⟨y0, y1, y2, y3, y4, rfl⟩ := list5 (l := ys) hyl
  obtain ⟨op, e0, _, _⟩ := DataW.trod_int Try.underlying22 a0
  obtain ⟨nn, e1, _, _⟩ := DataW.trod_int Try.underlying3 a1
  obtain ⟨ar, e2, _, _⟩ := DataW.trod_int Try.underlying3 a2
  obtain ⟨v3, rs, e3, h3⟩ := ints_of_trod a3 (fits_each hfs (j := 3) rfl rfl)
  obtain ⟨v4, ws, e4, h4⟩ := ints_of_trod a4 (fits_each hfs (j := 4) rfl rfl)
  simp only [List.cons.injEq, and_true] at e0 e1 e2 e3 e4
  subst e0 e1 e2 e3 e4
  exact ⟨⟨op, nn, ar, rs, ws⟩, _, _, rfl, h3, h4⟩
end
end Go.Proofs.Ytobniolmielikaa
