/- slices.Backward over a slice of types: what it hands back gives the elements from the last to the first; no condition. -/
import Derived.Test.YtmehknlijcbphaaGreatDoorProg
import Derived.RangeFuncNested
import Derived.RangeFuncBound
import Derived.RangeFuncCalls
import Derived.RangeFuncLeaves
import Derived.RangeFuncBox
import Derived.Shelf.Abstract
import Derived.Shelf.RegionOpen
import Derived.WalkKit
import Derived.OwnWalkIn
import Derived.TacticsInMore
import Derived.LoopNIn
import Derived.LoopIn
namespace Go.Proofs.YtmehknlijcbphaaGreatDoor
open Go Go.RowKit Go.Shelf
attribute [local go_sem] Oper.semAt_some

/-- The slice's elements: four cells each. -/
def Elems (n₀ : Nat) (W : World) (A : Option Addr) (n : Nat) (es : Nat → Value × Value × Value × Value) : Prop :=
  0 < n → ∃ b off, A = some ⟨b, off, none⟩ ∧ b < n₀ ∧ ∀ j, j < n → W.cell? ⟨b, off + j * 4, none⟩ = some (es j).1 ∧ W.cell? ⟨b, off + j * 4 + 1, none⟩ = some (es j).2.1 ∧ W.cell? ⟨b, off + j * 4 + 2, none⟩ = some (es j).2.2.1 ∧ W.cell? ⟨b, off + j * 4 + 3, none⟩ = some (es j).2.2.2
theorem Elems.below {n₀ : Nat} {W W' : World} {A : Option Addr} {n : Nat} {es : Nat → Value × Value × Value × Value} (h : Elems n₀ W A n es) (hb : Below n₀ W W') : Elems n₀ W' A n es := fun hn => by
  obtain ⟨b, off, e, hlt, hc⟩ := h hn
  refine ⟨b, off, e, hlt, fun j hj => ?_⟩
  obtain ⟨h1, h2, h3, h4⟩ := hc j hj
  exact ⟨(hb.cell (p := ⟨b, _, none⟩) hlt).trans h1, (hb.cell (p := ⟨b, _, none⟩) hlt).trans h2, (hb.cell (p := ⟨b, _, none⟩) hlt).trans h3, (hb.cell (p := ⟨b, _, none⟩) hlt).trans h4⟩

/-- What lay below n₀ is as it was, and so is block Bs. -/
def KeepB (n₀ Bs : Nat) (W W' : World) : Prop := Below n₀ W W' ∧ W'.heap[Bs]? = W.heap[Bs]?
theorem KeepB.refl (n₀ Bs : Nat) (W : World) : KeepB n₀ Bs W W := ⟨Below.refl _ _, rfl⟩
theorem KeepB.trans {n₀ Bs : Nat} {A B C : World} (h : KeepB n₀ Bs A B) (h' : KeepB n₀ Bs B C) : KeepB n₀ Bs A C := ⟨h.1.trans h'.1, h'.2.trans h.2⟩

/-- The k-th value that is given: the index and the element, from the last on. -/
def encE (es : Nat → Value × Value × Value × Value) (n k : Nat) : Array Value := #[.int .i64 ((n - 1 - k : Nat) : Int), .agg #[(es (n - 1 - k)).1, (es (n - 1 - k)).2.1, (es (n - 1 - k)).2.2.1, (es (n - 1 - k)).2.2.2]]

set_option maxRecDepth 100000 in
set_option maxHeartbeats 4000000 in
theorem backward1_in (F : Fence) (m : Nat) (h50 : F.fn 50) (hro : F.round = none) (hn : 1 ≤ m) (l Bs n₀ : Nat) (A : Option Addr) (n cap : Nat) (es : Nat → Value × Value × Value × Value) (hreach : n ≤ 1000000) (J : Nat → World → Prop)
    (hY : ∀ k W, k < n → J k W → YieldAt F (m - 1) Tryz.prog l (encE es n k) W fun e W' => e = .returned (.bool true) ∧ J (k + 1) W' ∧ KeepB n₀ Bs W W')
    (W : World) (hBs : W.cell? ⟨Bs, 0, none⟩ = some (.slice A n cap)) (hc : Elems n₀ W A n es) (h0 : J 0 W) :
    CallsIn F m Tryz.prog 50 #[.func (.yield l) #[] #[], .pointer (some ⟨Bs, 0, none⟩)] W fun e W' => (∃ v, e = .returned v) ∧ J n W' := by
  refine callsIn_of_wp Tryz.func50 rfl h50 ?_ hro
  simp only [Tryz.ntmps50, List.size_toArray, List.length_cons, List.length_nil, Nat.reduceAdd, Nat.reduceSub, Array.replicate_succ, Array.replicate_zero, List.push_toArray, List.append_toArray, List.nil_append, List.cons_append]
  gi_wp2
  gi_loopw [3] (fun i wr => ∃ k : Nat, k ≤ n ∧ i = .int .i64 ((k : Int) - 1) ∧ J (n - k) wr ∧ KeepB n₀ Bs W wr)
    (fun i _ => (intOf i + 1).toNat)
  case atStart => exact ⟨n, Nat.le_refl _, by simp, by rw [Nat.sub_self]; exact h0, KeepB.refl _ _ _⟩
  case round =>
    obtain ⟨k, hk, rfl, hJs, hnx⟩ := hrel
    have hcb : wr.cell? ⟨Bs, 0, none⟩ = some (.slice A n cap) := (World.cell?_of_block (a := ⟨Bs, 0, none⟩) hnx.2).trans hBs
    cases k with
    | zero =>
      gi_wp2
      go_end0
      exact ⟨⟨_, rfl⟩, hJs⟩
    | succ k =>
      have hel := hc.below hnx.1
      obtain ⟨b, off, rfl, hlt, hcs⟩ := hel (by omega)
      obtain ⟨c0, c1, c2, c3⟩ := hcs k (by omega)
      obtain ⟨fn, tmps, assign, body, hy, hR⟩ := hY (n - (k + 1)) wr (by omega) hJs
      dsimp only [encE] at hy
      have hidx : n - 1 - (n - (k + 1)) = k := by omega
      rw [hidx] at hy
      have hki : ((k + 1 : Nat) : Int) - 1 = (k : Int) := by omega
      rw [hki]
      gi_wp2
      refine hR.mono ?_
      rintro e W3 ⟨rfl, hJ3, hk3⟩
      gi_wp2
      go_roundw
      case rel => exact ⟨k, by omega, by simp, by rw [show n - k = n - (k + 1) + 1 by omega]; exact hJ3, hnx.trans hk3⟩
      case measure => simp [intOf]

set_option maxHeartbeats 1000000 in
theorem backward_in (F : Fence) (m : Nat) (h31 : F.fn 31) (hro : F.round = none) (A : Option Addr) (n cap : Nat) (w : World) :
    CallsIn F m Tryz.prog 31 #[.slice A n cap] w fun e w' => e = .returned (.func (.func 50) #[] #[.pointer (some ⟨w.heap.size, 0, none⟩)]) ∧ w' = w.alloc (.cells #[.slice A n cap] 37) := by
  refine callsIn_of_wp Tryz.func31 rfl h31 ?_ hro
  simp only [Tryz.ntmps31, List.size_toArray, List.length_cons, List.length_nil, Nat.reduceAdd, Nat.reduceSub, Array.replicate_succ, Array.replicate_zero, List.push_toArray, List.append_toArray, List.nil_append, List.cons_append]
  gi_wp2
  go_ret
  exact ⟨rfl, rfl⟩

end Go.Proofs.YtmehknlijcbphaaGreatDoor
