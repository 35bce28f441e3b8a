/- The methods of a heap that New has not made; no condition. -/
import Derived.Test.YtobniolmielikaaHeap5
namespace Go.Proofs.Ytobniolmielikaa
open Go.RowKit

/-- No heap, or one that New has not made. -/
def NilAt (p : Value) (w : World) : Prop :=
  p = .pointer none ∨ ∃ g, p = .pointer (some ⟨g, 0, none⟩) ∧ w.heap[g]? = some (.cells #[.map none, .map none, .int .i64 0, .int .i64 0, .int .i64 0] 54)
theorem NilAt.fresh {p : Value} {w w' : World} (h : NilAt p w) (hb : Below w.heap.size w w') : NilAt p w' := by
  rcases h with h | ⟨g, h1, h2⟩
  · exact .inl h
  · exact .inr ⟨g, h1, rowB hb h2 (heap_lt h2)⟩
theorem NilAt.alloc {p : Value} {w : World} (h : NilAt p w) (o : Obj) : NilAt p (w.alloc o) := h.fresh ((Below.refl _ _).alloc (Nat.le_refl _) o)

set_option maxHeartbeats 400000 in
theorem made_nil (p : Value) (w : World) (h : NilAt p w) : Calls Try.prog 52 #[p] w fun e w' => e = .returned (.bool false) ∧ w' = w := by
  rcases h with rfl | ⟨g, rfl, hr⟩
  · go_enter Try.func52, Try.ntmps52
    go_wp2
    go_ret
    exact ⟨rfl, rfl⟩
  · have hn := fun w => run_neq_map_nil (P := Try.prog) w 52 3 25 none Try.underlying52
    have hc := cellsH hr
    have hc0 : w.cell? ⟨g, 0, none⟩ = some (.map none) := hc 0
    clear hc hr
    go_enter Try.func52, Try.ntmps52
    go_wp2
    go_ret
    exact ⟨rfl, rfl⟩

theorem count_nil (p : Value) (w : World) (h : NilAt p w) : Calls Try.prog 32 #[p] w fun e w' => e = .returned (.tuple #[.int .i64 0, .int .i64 0]) ∧ w' = w := by
  have M := Lib.hid (made_nil p w h)
  clear h
  go_enter Try.func32, Try.ntmps32
  go_wp2_with fail
  refine M.out.mono ?_
  rintro e w' ⟨rfl, rfl⟩
  go_wp2_with fail
  go_ret2
  exact ⟨rfl, rfl⟩
theorem limits_nil (p : Value) (w : World) (h : NilAt p w) : Calls Try.prog 33 #[p] w fun e w' => e = .returned (.tuple #[.int .i64 0, .int .i64 0]) ∧ w' = w := by
  have M := Lib.hid (made_nil p w h)
  clear h
  go_enter Try.func33, Try.ntmps33
  go_wp2_with fail
  refine M.out.mono ?_
  rintro e w' ⟨rfl, rfl⟩
  go_wp2_with fail
  go_ret2
  exact ⟨rfl, rfl⟩
theorem room_nil (p : Value) (w : World) (h : NilAt p w) : Calls Try.prog 20 #[p] w fun e w' => e = .returned (.int .i64 0) ∧ w' = w := by
  have M := Lib.hid (made_nil p w h)
  clear h
  go_enter Try.func20, Try.ntmps20
  go_wp2_with fail
  refine M.out.mono ?_
  rintro e w' ⟨rfl, rfl⟩
  go_wp2_with fail
  go_ret
  exact ⟨rfl, rfl⟩
theorem addrs_nil (p : Value) (w : World) (h : NilAt p w) : Calls Try.prog 25 #[p] w fun e w' => e = .returned (.slice none 0 0) ∧ w' = w := by
  have M := Lib.hid (made_nil p w h)
  clear h
  go_enter Try.func25, Try.ntmps25
  go_wp2_with fail
  refine M.out.mono ?_
  rintro e w' ⟨rfl, rfl⟩
  go_wp2_with fail
  go_ret
  exact ⟨rfl, rfl⟩
theorem remembered_nil (p : Value) (w : World) (h : NilAt p w) : Calls Try.prog 28 #[p] w fun e w' => e = .returned (.slice none 0 0) ∧ w' = w := by
  have M := Lib.hid (made_nil p w h)
  clear h
  go_enter Try.func28, Try.ntmps28
  go_wp2_with fail
  refine M.out.mono ?_
  rintro e w' ⟨rfl, rfl⟩
  go_wp2_with fail
  go_ret
  exact ⟨rfl, rfl⟩
theorem old_nil (p : Value) (x : Int) (w : World) (h : NilAt p w) : Calls Try.prog 27 #[p, .int .i64 x] w fun e w' => e = .returned (.bool false) ∧ w' = w := by
  have M := Lib.hid (made_nil p w h)
  clear h
  go_enter Try.func27, Try.ntmps27
  go_wp2_with fail
  refine M.out.mono ?_
  rintro e w' ⟨rfl, rfl⟩
  go_wp2_with fail
  go_ret
  exact ⟨rfl, rfl⟩
theorem clone_nil (p : Value) (w : World) (h : NilAt p w) : Calls Try.prog 30 #[p] w fun e w' => e = .returned (.pointer none) ∧ w' = w := by
  have M := Lib.hid (made_nil p w h)
  clear h
  go_enter Try.func30, Try.ntmps30
  go_wp2_with fail
  refine M.out.mono ?_
  rintro e w' ⟨rfl, rfl⟩
  go_wp2_with fail
  go_ret
  exact ⟨rfl, rfl⟩
theorem replace_nil (p u v : Value) (w : World) (h : NilAt p w) : Calls Try.prog 31 #[p, u, v] w fun e w' => e = .returned (.int .i64 2) ∧ w' = w := by
  have M := Lib.hid (made_nil p w h)
  clear h
  go_enter Try.func31, Try.ntmps31
  go_wp2_with fail
  refine M.out.mono ?_
  rintro e w' ⟨rfl, rfl⟩
  go_wp2_with fail
  go_ret
  exact ⟨rfl, rfl⟩
theorem alloc_nil (p a b c d e' : Value) (w : World) (h : NilAt p w) : Calls Try.prog 16 #[p, .agg #[a, b, c, d, e']] w fun e w' => e = .returned (.tuple #[.int .i64 0, .int .i64 2]) ∧ Below w.heap.size w w' := by
  have M := Lib.hid (fun o => made_nil p _ (h.alloc o))
  have B := Lib.hid (fun o => (Below.refl w.heap.size w).alloc (Nat.le_refl _) o)
  clear h
  go_enter Try.func16, Try.ntmps16
  go_wp2_with fail
  refine (M.out _).mono ?_
  rintro e w' ⟨rfl, rfl⟩
  go_wp2_with fail
  go_ret2
  exact ⟨rfl, B.out _⟩
theorem set_nil (p a b c d e' : Value) (x : Int) (w : World) (h : NilAt p w) : Calls Try.prog 17 #[p, .int .i64 x, .agg #[a, b, c, d, e']] w fun e w' => e = .returned (.int .i64 2) ∧ Below w.heap.size w w' := by
  have M := Lib.hid (fun o => made_nil p _ (h.alloc o))
  have B := Lib.hid (fun o => (Below.refl w.heap.size w).alloc (Nat.le_refl _) o)
  clear h
  go_enter Try.func17, Try.ntmps17
  go_wp2_with fail
  refine (M.out _).mono ?_
  rintro e w' ⟨rfl, rfl⟩
  go_wp2_with fail
  go_ret
  exact ⟨rfl, B.out _⟩
theorem get_nil' (p : Value) (x : Int) (w : World) (h : NilAt p w) : Calls Try.prog 18 #[p, .int .i64 x] w fun e w' => e = .returned (.tuple #[.agg #[.int .i64 0, .int .i64 0, .int .i64 0, .slice none 0 0, .slice none 0 0], .int .i64 2]) ∧ Below w.heap.size w w' := by
  have M := Lib.hid (fun o => made_nil p _ (h.alloc o))
  have B := Lib.hid (fun o => (Below.refl w.heap.size w).alloc (Nat.le_refl _) o)
  clear h
  go_enter Try.func18, Try.ntmps18
  go_wp2_with fail
  refine (M.out _).mono ?_
  rintro e w' ⟨rfl, rfl⟩
  go_wp2_with fail
  first
    | (refine bodyPost_ret (v := .tuple #[.agg #[.int .i64 0, .int .i64 0, .int .i64 0, .slice none 0 0, .slice none 0 0], .int .i64 2]) (by simp [results, Try.results18, go_sem]) rfl ⟨rfl, ?_⟩; exact B.out _)
    | (refine bodyPost_ret (v := .tuple #[.agg #[.int .i64 0, .int .i64 0, .int .i64 0, .slice none 0 0, .slice none 0 0], .int .i64 2]) (by simp [results, Try.results18, go_sem]) rfl ⟨rfl, ?_⟩; exact (B.out _).alloc (by simp) _)
    | (refine bodyPost_ret (v := .tuple #[.agg #[.int .i64 0, .int .i64 0, .int .i64 0, .slice none 0 0, .slice none 0 0], .int .i64 2]) (by simp [results, Try.results18, go_sem]) rfl ⟨rfl, ?_⟩; exact ((B.out _).alloc (by simp) _).alloc (by simp <;> omega) _)
end Go.Proofs.Ytobniolmielikaa
