/- What the heap's Replace answers; no condition. -/
import Derived.Test.YtobniolmielikaaHeap10
namespace Go.Proofs.Ytobniolmielikaa
open Go.RowKit

/-- Whether two lists have a key in common. -/
def meets (m1 m2 : List (Int × Ob)) : Bool := m1.any fun p => (Go.Proofs.Ytobniolmielikaa.get m2 p.1).isSome
/-- What Replace answers. -/
def HM.repl (H : HM) (m1 m2 : List (Int × Ob)) : Int :=
  if fitB m1 = true ∧ fitB m2 = true ∧ meets m1 m2 = false then (if H.nur < m1.length ∨ H.eld < m2.length then 33 else 0) else 1
theorem meets_perm {l m m2 : List (Int × Ob)} (h : l.Perm m) : meets l m2 = meets m m2 := by
  unfold meets
  rw [Bool.eq_iff_iff, List.any_eq_true, List.any_eq_true]
  exact ⟨fun ⟨x, hx, a⟩ => ⟨x, h.mem_iff.1 hx, a⟩, fun ⟨x, hx, a⟩ => ⟨x, h.mem_iff.2 hx, a⟩⟩
theorem fitB_keys {m : List (Int × Ob)} (h : fitB m = true) : KeysIn m := by
  intro p hp
  have := List.all_eq_true.1 h p hp
  simp [fit1] at this
  omega

theorem HeapAt.setNext {w : World} {h y a : Nat} {H : HM} (hh : HeapAt w h y a H) (x : Int) : HeapAt (w.setCell ⟨h, 4, none⟩ (.int .i64 x)) h y a { H with next := x } := by
  have ht : Turn (· = h) w (w.setCell ⟨h, 4, none⟩ (.int .i64 x)) := (Turn.refl (· = h) w).setCell (p := ⟨h, 4, none⟩) rfl _
  have hn : ∀ k, IsRow 3 w k → ¬ k = h := fun k hk e => hh.notRow k hk (.inl e)
  exact ⟨rowSet hh.row 4 _, hh.young.turn ht (fun e => hh.hy e.symm) hn, hh.old.turn ht (fun e => hh.ha e.symm) hn, hh.ne⟩

/-- What is known behind Replace. -/
structure Repl (H : HM) (m1 m2 : List (Int × Ob)) (H' : HM) : Prop where
  no : H.repl m1 m2 ≠ 0 → H' = H
  yes : H.repl m1 m2 = 0 → H'.nur = H.nur ∧ H'.eld = H.eld ∧ H'.ly.Perm m1 ∧ H'.la.Perm m2 ∧ H'.next = max (max H.next (nxt m1)) (nxt m2)

end Go.Proofs.Ytobniolmielikaa
