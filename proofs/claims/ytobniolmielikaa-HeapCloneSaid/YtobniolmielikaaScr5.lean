/- The two heaps side by side in memory; no condition. -/
import Derived.Test.YtobniolmielikaaScr3
import Derived.Test.YtobniolmielikaaScr4
import Derived.Test.YtobniolmielikaaHeap13
namespace Go.Proofs.Ytobniolmielikaa
open Go.RowKit

/-- Both heaps, in blocks from B on. -/
structure Two (B : Nat) (w : World) (h y a r : Nat) (NV AV : Value) (H : HM) (R : RM) : Prop where
  p : HeapAt w h y a H
  q : RHeapAt B w r NV AV R
  bh : B ≤ h
  bY : B ≤ y
  ba : B ≤ a
  br : B ≤ r
theorem Two.rows {B : Nat} {w : World} {h y a r : Nat} {NV AV : Value} {H : HM} {R : RM} (t : Two B w h y a r NV AV H R) : (¬ HB h y a r) ∧ (∀ g, B ≤ g → IsRow 97 w g → ¬ HB h y a g) ∧ (¬ RB r NV AV h) ∧ (¬ RB r NV AV y) ∧ (¬ RB r NV AV a) := by
  have hrow : IsRow 54 w h := ⟨_, _, t.p.row⟩
  have rrow : IsRow 92 w r := ⟨_, _, t.q.row⟩
  have ny : ∀ T, ¬ IsRow T w y := by
    rintro T ⟨cs, f, h2⟩
    obtain ⟨l, ⟨es, c, h1, _⟩, _⟩ := t.p.young
    rw [h1] at h2
    simp at h2
  have na : ∀ T, ¬ IsRow T w a := by
    rintro T ⟨cs, f, h2⟩
    obtain ⟨l, ⟨es, c, h1, _⟩, _⟩ := t.p.old
    rw [h1] at h2
    simp at h2
  refine ⟨?_, ?_, ?_, ?_, ?_⟩
  · rintro (e | e | e)
    · rw [e] at rrow; cases rrow.two hrow
    · rw [e] at rrow; exact ny _ rrow
    · rw [e] at rrow; exact na _ rrow
  · rintro g _ hg (e | e | e)
    · rw [e] at hg; cases hg.two hrow
    · rw [e] at hg; exact ny _ hg
    · rw [e] at hg; exact na _ hg
  · rintro (e | e | e)
    · rw [← e] at rrow; cases rrow.two hrow
    · cases (t.q.nown.row e).2.two hrow
    · cases (t.q.aown.row e).2.two hrow
  · rintro (e | e | e)
    · rw [← e] at rrow; exact ny _ rrow
    · exact ny _ (t.q.nown.row e).2
    · exact ny _ (t.q.aown.row e).2
  · rintro (e | e | e)
    · rw [← e] at rrow; exact na _ rrow
    · exact na _ (t.q.nown.row e).2
    · exact na _ (t.q.aown.row e).2
theorem Two.prog {B : Nat} {w w' : World} {h y a r : Nat} {NV AV : Value} {H H' : HM} {R : RM} (t : Two B w h y a r NV AV H R) (ht : Turn (HB h y a) w w') (hp : HeapAt w' h y a H') : Two B w' h y a r NV AV H' R :=
  ⟨hp, t.q.turn ht t.rows.1 t.rows.2.1 t.p.notRow, t.bh, t.bY, t.ba, t.br⟩
theorem Two.ref {B : Nat} {w w' : World} {h y a r : Nat} {NV AV NV' AV' : Value} {H : HM} {R R' : RM} (t : Two B w h y a r NV AV H R) (ht : Turn (RB r NV AV) w w') (hq : RHeapAt B w' r NV' AV' R') : Two B w' h y a r NV' AV' H R' :=
  ⟨t.p.turn ht t.rows.2.2.1 t.rows.2.2.2.1 t.rows.2.2.2.2 t.q.notRB3, hq, t.bh, t.bY, t.ba, t.br⟩
theorem Two.fresh {B : Nat} {w w' : World} {h y a r : Nat} {NV AV : Value} {H : HM} {R : RM} (t : Two B w h y a r NV AV H R) (hb : Below w.heap.size w w') : Two B w' h y a r NV AV H R :=
  ⟨t.p.fresh hb, t.q.fresh hb, t.bh, t.bY, t.ba, t.br⟩
theorem Two.lt {B : Nat} {w : World} {h y a r : Nat} {NV AV : Value} {H : HM} {R : RM} (t : Two B w h y a r NV AV H R) : h < w.heap.size ∧ y < w.heap.size ∧ a < w.heap.size ∧ r < w.heap.size := ⟨t.p.lt.1, t.p.lt.2.1, t.p.lt.2.2, t.q.lt⟩
theorem Two.pb {B : Nat} {w w' : World} {h y a r : Nat} {NV AV : Value} {H : HM} {R : RM} (t : Two B w h y a r NV AV H R) (ht : Turn (HB h y a) w w') (hB : B ≤ w.heap.size) : Below B w w' :=
  ht.below hB (by
    rintro k (rfl | rfl | rfl)
    · exact t.bh
    · exact t.bY
    · exact t.ba)
theorem Two.rb {B : Nat} {w w' : World} {h y a r : Nat} {NV AV : Value} {H : HM} {R : RM} (t : Two B w h y a r NV AV H R) (ht : Turn (RB r NV AV) w w') (hB : B ≤ w.heap.size) : Below B w w' :=
  ht.below hB (by
    rintro k (rfl | e | e)
    · exact t.br
    · exact (t.q.nown.lt k e).1
    · exact (t.q.aown.lt k e).1)
/-- A block that is none of the heaps' own, of another type. -/
theorem Two.keepP {B : Nat} {w w' : World} {h y a r g : Nat} {NV AV : Value} {H : HM} {R : RM} (t : Two B w h y a r NV AV H R) (ht : Turn (HB h y a) w w') {cs : Array Value} {T : TypeId} (hg : w.heap[g]? = some (.cells cs T)) (hT : T ≠ 54) : w'.heap[g]? = some (.cells cs T) := by
  refine rowT ht hg ?_
  rintro (e | e | e)
  · subst e
    have := IsRow.two (show IsRow T w g from ⟨_, _, hg⟩) ⟨_, _, t.p.row⟩
    exact hT this
  · subst e
    obtain ⟨l, ⟨es, c, h1, _⟩, _⟩ := t.p.young
    rw [h1] at hg
    simp at hg
  · subst e
    obtain ⟨l, ⟨es, c, h1, _⟩, _⟩ := t.p.old
    rw [h1] at hg
    simp at hg
theorem Two.keepR {B : Nat} {w w' : World} {h y a r g : Nat} {NV AV : Value} {H : HM} {R : RM} (t : Two B w h y a r NV AV H R) (ht : Turn (RB r NV AV) w w') {cs : Array Value} {T : TypeId} (hg : w.heap[g]? = some (.cells cs T)) (hT : T ≠ 92) (hT2 : T ≠ 97) : w'.heap[g]? = some (.cells cs T) := by
  refine rowT ht hg ?_
  rintro (e | e | e)
  · subst e
    exact hT (IsRow.two (show IsRow T w g from ⟨_, _, hg⟩) ⟨_, _, t.q.row⟩)
  · exact hT2 (IsRow.two (show IsRow T w g from ⟨_, _, hg⟩) (t.q.nown.row e).2)
  · exact hT2 (IsRow.two (show IsRow T w g from ⟨_, _, hg⟩) (t.q.aown.row e).2)
theorem rget_abs (R : RM) (k : Int) : R.get k = R.abs.get k := by
  unfold RM.get HM.get RM.abs
  dsimp only
  rw [get_abs, get_abs]
  cases Go.Proofs.Ytobniolmielikaa.get (keyed R.n) k with
  | some x => rfl
  | none =>
    cases Go.Proofs.Ytobniolmielikaa.get (keyed R.a) k with
    | some x => rfl
    | none => rfl
end Go.Proofs.Ytobniolmielikaa
