/- The reference heap: New, Old, Count, Room, Get; no condition. -/
import Derived.Test.YtobniolmielikaaRef2
namespace Go.Proofs.Ytobniolmielikaa
open Go.RowKit

/-- The contents of a reference heap. -/
structure RM where
  s0 : Int
  s1 : Int
  next : Int
  n : List It
  a : List It

/-- r: the block of a reference heap, NV and AV: its slices. -/
structure RHeapAt (base : Nat) (w : World) (r : Nat) (NV AV : Value) (R : RM) : Prop where
  row : w.heap[r]? = some (.cells #[.int .i64 R.s0, .int .i64 R.s1, NV, AV, .int .i64 R.next] 92)
  nown : Own base w NV R.n
  aown : Own base w AV R.a
  apart : ∀ g, NV.ownBlock = some g → AV.ownBlock ≠ some g
  nok : ∀ x ∈ R.n, ObR 0 w x.val x.o
  aok : ∀ x ∈ R.a, ObR 0 w x.val x.o
  nsmall : R.n.length ≤ 65536
  asmall : R.a.length ≤ 65536
/-- The blocks of a reference heap. -/
def RB (r : Nat) (NV AV : Value) (k : Nat) : Prop := k = r ∨ NV.ownBlock = some k ∨ AV.ownBlock = some k

theorem Own.row {base : Nat} {w : World} {v : Value} {l : List It} (h : Own base w v l) {g : Nat} (hg : v.ownBlock = some g) : base ≤ g ∧ IsRow 97 w g := by
  rcases h.2 with ⟨rfl, _⟩ | ⟨g', cap, cur, rfl, hb, hh, _⟩
  · simp [Value.ownBlock] at hg
  · simp [Value.ownBlock] at hg
    subst hg
    exact ⟨hb, _, _, hh⟩
theorem IsRow.two {w : World} {k : Nat} {s t : TypeId} (h : IsRow s w k) (h' : IsRow t w k) : s = t := by
  obtain ⟨c, f, h⟩ := h
  obtain ⟨c', f', h'⟩ := h'
  rw [h] at h'
  simp at h'
  exact h'.2.1
theorem Own.shape {base : Nat} {w : World} {v : Value} {l : List It} (h : Own base w v l) : ∃ A c, v = .slice A l.length c := by
  rcases h.2 with ⟨rfl, h0⟩ | ⟨g, cap, cur, rfl, _⟩
  · exact ⟨none, 0, by rw [h0]⟩
  · exact ⟨_, _, rfl⟩
theorem RHeapAt.turn {base : Nat} {S : Nat → Prop} {w w' : World} {r : Nat} {NV AV : Value} {R : RM} (h : RHeapAt base w r NV AV R) (ht : Turn S w w') (h1 : ¬ S r) (h2 : ∀ g, base ≤ g → IsRow 97 w g → ¬ S g) (h3 : ∀ k, IsRow 3 w k → ¬ S k) : RHeapAt base w' r NV AV R :=
  ⟨rowT ht h.row h1, h.nown.kept fun g hg => ht.block g (h.nown.lt g hg).2 (h2 g (h.nown.row hg).1 (h.nown.row hg).2), h.aown.kept fun g hg => ht.block g (h.aown.lt g hg).2 (h2 g (h.aown.row hg).1 (h.aown.row hg).2), h.apart,
    fun x hx => (h.nok x hx).turn ht (fun k _ hk => h3 k hk), fun x hx => (h.aok x hx).turn ht (fun k _ hk => h3 k hk), h.nsmall, h.asmall⟩
theorem RHeapAt.fresh {base : Nat} {w w' : World} {r : Nat} {NV AV : Value} {R : RM} (h : RHeapAt base w r NV AV R) (hb : Below w.heap.size w w') : RHeapAt base w' r NV AV R :=
  h.turn (below_turn hb fun _ => False) (fun x => x) (fun _ _ _ x => x) (fun _ _ x => x)
theorem RHeapAt.lt {base : Nat} {w : World} {r : Nat} {NV AV : Value} {R : RM} (h : RHeapAt base w r NV AV R) : r < w.heap.size := heap_lt h.row
theorem RHeapAt.cells {base : Nat} {w : World} {r : Nat} {NV AV : Value} {R : RM} (h : RHeapAt base w r NV AV R) : w.cell? ⟨r, 0, none⟩ = some (.int .i64 R.s0) ∧ w.cell? ⟨r, 1, none⟩ = some (.int .i64 R.s1) ∧ w.cell? ⟨r, 2, none⟩ = some NV ∧ w.cell? ⟨r, 3, none⟩ = some AV ∧ w.cell? ⟨r, 4, none⟩ = some (.int .i64 R.next) := by
  have c := cellsH h.row
  exact ⟨c 0, c 1, c 2, c 3, c 4⟩
theorem RHeapAt.rawN {base : Nat} {w : World} {r : Nat} {NV AV : Value} {R : RM} (h : RHeapAt base w r NV AV R) : Raw (fun b => base ≤ b ∧ IsRow 97 w b) w NV R.n := h.nown.raw (by have := h.nsmall; omega)
theorem RHeapAt.rawA {base : Nat} {w : World} {r : Nat} {NV AV : Value} {R : RM} (h : RHeapAt base w r NV AV R) : Raw (fun b => base ≤ b ∧ IsRow 97 w b) w AV R.a := h.aown.raw (by have := h.asmall; omega)

theorem fnd_cases (l : List It) (k : Int) : (∃ (i : Nat) (x : It), fnd l k = i ∧ l[i]? = some x ∧ get (keyed l) k = some x ∧ x.a = k) ∨ (fnd l k = -1 ∧ get (keyed l) k = none) := by
  cases h : ix (keyed l) k with
  | none => exact .inr ⟨by simp [fnd, h], by simp [Go.Proofs.Ytobniolmielikaa.get, h]⟩
  | some q =>
    obtain ⟨i, x⟩ := q
    have h1 := ix_get h
    simp only [keyed, List.getElem?_map, Option.map_eq_some_iff, Prod.mk.injEq] at h1
    obtain ⟨y, h2, h3, rfl⟩ := h1
    exact .inl ⟨i, y, by simp [fnd, h], h2, by simp [Go.Proofs.Ytobniolmielikaa.get, h], h3⟩

set_option maxHeartbeats 400000 in
theorem rnew_no (n o : Int) (w : World) (h : newOk n o = false) : Calls Try.prog 56 #[.int .i64 n, .int .i64 o] w fun e w' => e = .returned (.tuple #[.pointer none, .int .i64 39]) ∧ w' = w := by
  have hg : n < 1 ∨ (1 ≤ n ∧ 65536 < n) ∨ (1 ≤ n ∧ n ≤ 65536 ∧ o < 1) ∨ (1 ≤ n ∧ n ≤ 65536 ∧ 1 ≤ o ∧ 65536 < o) := by simp [newOk] at h; omega
  clear h
  rcases hg with g | ⟨g, g'⟩ | ⟨g1, g2, g3⟩ | ⟨g1, g2, g3, g4⟩ <;> (go_enter Try.func56, Try.ntmps56; go_wp2; go_ret2; exact ⟨rfl, rfl⟩)

set_option maxHeartbeats 400000 in
theorem rnew_yes (base : Nat) (n o : Int) (w : World) (h : newOk n o = true) : Calls Try.prog 56 #[.int .i64 n, .int .i64 o] w fun e w' => ∃ r NV AV, e = .returned (.tuple #[.pointer (some ⟨r, 0, none⟩), .int .i64 0]) ∧
    RHeapAt base w' r NV AV ⟨n, o, 0, [], []⟩ ∧ w.heap.size ≤ r ∧ Below w.heap.size w w' := by
  have hg : 1 ≤ n ∧ n ≤ 65536 ∧ 1 ≤ o ∧ o ≤ 65536 := by simp [newOk] at h; omega
  clear h
  obtain ⟨g1, g2, g3, g4⟩ := hg
  go_enter Try.func56, Try.ntmps56
  go_wp2
  go_ret2
  exact ⟨w.heap.size, .slice none 0 0, .slice none 0 0, rfl, ⟨new0 _ _, World.ownsRow_nil _ _ _ _, World.ownsRow_nil _ _ _ _, fun g hg => by simp [Value.ownBlock] at hg, fun x hx => by simp at hx, fun x hx => by simp at hx, by simp, by simp⟩, Nat.le_refl _, (Below.refl _ _).alloc (Nat.le_refl _) _⟩

set_option maxHeartbeats 400000 in
theorem rold_any (base : Nat) (w : World) (r : Nat) (NV AV : Value) (R : RM) (k : Int) (hh : RHeapAt base w r NV AV R) :
    Calls Try.prog 64 #[.pointer (some ⟨r, 0, none⟩), .int .i64 k] w fun e w' => e = .returned (.bool (get (keyed R.a) k).isSome) ∧ w' = w := by
  obtain ⟨-, -, -, c3, -⟩ := hh.cells
  have HA := Lib.hid hh.rawA
  clear hh
  go_enter Try.func64, Try.ntmps64
  go_wp2_with fail
  refine (find_any _ w AV R.a k HA.out).mono ?_
  rintro e w1 ⟨rfl, rfl⟩
  rcases fnd_cases R.a k with ⟨i, x, h1, -, h2, -⟩ | ⟨h1, h2⟩
  · rw [h1]
    have H2 := Lib.hid h2
    clear h1 h2
    go_wp2_with fail
    go_ret
    exact ⟨by rw [H2.out]; simp, by first | rfl | trivial⟩
  · rw [h1]
    have H2 := Lib.hid h2
    clear h1 h2
    go_wp2_with fail
    go_ret
    exact ⟨by rw [H2.out]; rfl, by first | rfl | trivial⟩

set_option maxHeartbeats 400000 in
theorem rcount_any (base : Nat) (w : World) (r : Nat) (NV AV : Value) (R : RM) (hh : RHeapAt base w r NV AV R) :
    Calls Try.prog 59 #[.pointer (some ⟨r, 0, none⟩)] w fun e w' => e = .returned (.tuple #[.int .i64 R.n.length, .int .i64 R.a.length]) ∧ ∃ n, w' = w.drewN n := by
  obtain ⟨-, -, c2, c3, -⟩ := hh.cells
  obtain ⟨A1, k1, rfl⟩ := hh.nown.shape
  obtain ⟨A2, k2, rfl⟩ := hh.aown.shape
  clear hh
  go_enter Try.func59, Try.ntmps59
  go_wp2_with fail
  go_quiet (fail)
  go_wp2_with fail
  go_ret2
  exact ⟨rfl, nq, rfl⟩

set_option maxHeartbeats 400000 in
theorem rroom_any (base : Nat) (w : World) (r : Nat) (NV AV : Value) (R : RM) (hh : RHeapAt base w r NV AV R) :
    Calls Try.prog 60 #[.pointer (some ⟨r, 0, none⟩)] w fun e w' => e = .returned (.int .i64 (wrap64 (R.s0 - R.n.length))) ∧ ∃ n, w' = w.drewN n := by
  obtain ⟨c0, -, c2, -, -⟩ := hh.cells
  obtain ⟨A1, k1, rfl⟩ := hh.nown.shape
  clear hh
  go_enter Try.func60, Try.ntmps60
  go_wp2_with fail
  go_quiet (fail)
  go_wp2_with fail
  go_ret
  exact ⟨rfl, nq, rfl⟩

/-- What Get answers. -/
def RM.get (R : RM) (k : Int) : Ob × Int :=
  match Go.Proofs.Ytobniolmielikaa.get (keyed R.n) k with
  | some x => (x.o, 0)
  | none => match Go.Proofs.Ytobniolmielikaa.get (keyed R.a) k with
    | some x => (x.o, 0)
    | none => (ob0, 35)
end Go.Proofs.Ytobniolmielikaa
