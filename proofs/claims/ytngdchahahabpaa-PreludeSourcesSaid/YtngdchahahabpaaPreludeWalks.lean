/- Plain walks of the two Prelude statements: the texts in the program's table are those of the reference; no condition. -/
import Derived.Test.YtngdchahahabpaaRows
import Derived.WalkKit
import Derived.WalkSpells
import Derived.WalkLawsBesides
import Derived.Lib.Hide
namespace Go.Proofs.Ytngdchahahabpaa
open Go.RowKit
/-- The operations of the k-th region of a straight body. -/
def opsAt : Code → Nat → List Oper
  | .seq (.region _ ops _) _, 0 => ops.toList
  | .region _ ops _, 0 => ops.toList
  | .seq _ c, k + 1 => opsAt c k
  | _, _ => []
def strAt (l : List Oper) (i : Nat) : ByteArray :=
  match (l.getD i default).op with
  | .binOp _ _ _ (.const (.string s)) _ => s
  | _ => .empty
def partAt (l : List Oper) (i : Nat) : ByteArray :=
  match (l.getD i default).op with
  | .build _ ps => match (ps.getD 1 default).2 with
    | .const (.string s) => s
    | _ => .empty
  | _ => .empty
noncomputable def sA : ByteArray := strAt (opsAt (Try.f12.body.getD .skip) 1) 15
noncomputable def sB : ByteArray := strAt (opsAt (Try.f12.body.getD .skip) 1) 29
noncomputable def tA : ByteArray := partAt (opsAt (Try.f28.body.getD .skip) 1) 0
noncomputable def tB : ByteArray := partAt (opsAt (Try.f28.body.getD .skip) 1) 1
theorem tA_eq : tA = sA := by kernel_rfl
theorem tB_eq : tB = sB := by kernel_rfl

def pN : List UInt8 := [80, 114, 101, 108, 117, 100, 101]
def cN : List UInt8 := [67, 111, 110, 116, 114, 111, 108]

set_option maxRecDepth 100000 in
set_option maxHeartbeats 400000 in
theorem same_any (w : World) (g : Nat) (a b c d : ByteArray) (h0 : w.cell? ⟨g, 0, none⟩ = some (.string a)) (h1 : w.cell? ⟨g, 1, none⟩ = some (.string b)) (h2 : w.cell? ⟨g, 2, none⟩ = some (.string c))
   (h3 : w.cell? ⟨g, 3, none⟩ = some (.string d)) (ha : a.toList = [80, 114, 101, 108, 117, 100, 101]) (hb : b = sA) (hc : c.toList = [67, 111, 110, 116, 114, 111, 108]) (hd : d = sB) :
    Calls Try.prog 12 #[.slice (some ⟨g, 0, none⟩) 2 2] w fun e w' => e = .returned (.bool true) ∧ w' = w := by
  subst hb hd
  have e1 : sA = sA := rfl
  conv at e1 => rhs; whnf
  have e2 : sB = sB := rfl
  conv at e2 => rhs; whnf
  go_enter Try.func12, Try.ntmps12
  rw [← e1, ← e2]
  clear e1 e2
  generalize sA = A at *
  generalize sB = B at *
  go_wp2
  go_ret
  exact ⟨rfl, rfl⟩

set_option maxRecDepth 100000 in
set_option maxHeartbeats 400000 in
theorem table_any (w : World) :
    Calls Try.prog 28 #[] w fun e w' => ∃ a c, e = .returned (.agg #[.string a, .string sA, .string c, .string sB]) ∧ a.toList = [80, 114, 101, 108, 117, 100, 101] ∧ c.toList = [67, 111, 110, 116, 114, 111, 108] ∧ Below w.heap.size w w' := by
  rw [← tA_eq, ← tB_eq]
  have e1 : tA = tA := rfl
  conv at e1 => rhs; whnf
  have e2 : tB = tB := rfl
  conv at e2 => rhs; whnf
  go_enter Try.func28, Try.ntmps28
  rw [← e1, ← e2]
  clear e1 e2
  generalize tA = A at *
  generalize tB = B at *
  go_wp2
  exact bodyPost_ret (v := .agg #[.string ⟨#[80, 114, 101, 108, 117, 100, 101]⟩, .string A, .string ⟨#[67, 111, 110, 116, 114, 111, 108]⟩, .string B]) (by simp [results, Try.results28, go_sem]) rfl ⟨_, _, rfl, by decide +kernel, by decide +kernel, (Below.refl _ _).alloc (Nat.le_refl _) _⟩

set_option maxRecDepth 100000 in
set_option maxHeartbeats 400000 in
theorem sources_any (w : World) :
    Calls Try.prog 11 #[] w fun e w' => ∃ g a c, e = .returned (.slice (some ⟨g, 0, none⟩) 2 2) ∧ w.heap.size ≤ g ∧ w'.heap[g]? = some (.cells #[.string a, .string sA, .string c, .string sB] 52) ∧
      a.toList = [80, 114, 101, 108, 117, 100, 101] ∧ c.toList = [67, 111, 110, 116, 114, 111, 108] ∧ Below w.heap.size w w' := by
  generalize hA : sA = A
  generalize hB : sB = B
  have T := table_any
  rw [hA, hB] at T
  have HT := Lib.hid T
  clear T hA hB
  go_enter Try.func11, Try.ntmps11
  go_wp2_with (go_at_call 28; refine (HT.out _).mono ?_; rintro e w1 ⟨a, c, rfl, ha, hc, hb⟩)
  go_ret
  exact ⟨_, _, _, rfl, hb.size, heap_alloc_new w1 _, ha, hc, hb.alloc hb.size _⟩

theorem row_cells {w : World} {g : Nat} {cs : Array Value} {T : TypeId} (h : w.heap[g]? = some (.cells cs T)) (i : Nat) (v : Value) (hv : cs[i]? = some v) : w.cell? ⟨g, i, none⟩ = some v := by
  simp [World.cell?, h, hv]
theorem below_cell {B : Nat} {W w1 : World} (hb : Below B W w1) {a : Addr} {v : Value} (h : W.cell? a = some v) (hlt : a.block < B) : w1.cell? a = some v := (hb.cell hlt).trans h
theorem below_then {B : Nat} {w w1 w2 : World} (h : Below B w w1) (hB : B ≤ w1.heap.size) (k : Below w1.heap.size w1 w2) : Below B w w2 :=
  h.trans ⟨k.os, k.tape, k.output, k.size, fun i hi => k.block i (Nat.lt_of_lt_of_le hi hB)⟩
theorem row_free {w : World} {g : Nat} {cs : Array Value} {T : TypeId} (h : w.heap[g]? = some (.cells cs T)) (i : Nat) : w.frozen? ⟨g, i, none⟩ = false := by
  simp [World.frozen?, h]

set_option maxRecDepth 100000 in
set_option maxHeartbeats 400000 in
theorem same_row (w : World) (g : Nat) (a c : ByteArray) (h : w.heap[g]? = some (.cells #[.string a, .string sA, .string c, .string sB] 52)) (ha : a.toList = [80, 114, 101, 108, 117, 100, 101])
   (hc : c.toList = [67, 111, 110, 116, 114, 111, 108]) :
    Calls Try.prog 12 #[.slice (some ⟨g, 0, none⟩) 2 2] w fun e w' => e = .returned (.bool true) ∧ w' = w :=
  same_any w g a sA c sB (row_cells h 0 _ rfl) (row_cells h 1 _ rfl) (row_cells h 2 _ rfl) (row_cells h 3 _ rfl) ha rfl hc rfl

set_option maxRecDepth 100000 in
set_option maxHeartbeats 400000 in
theorem sources_law (i : Int) (x y : ByteArray) (w : World) (hw : (Lit.int .i64 i).wf = true) :
    Calls Try.prog 3 #[.int .i64 i, .agg #[.string x, .string y]] w fun e w' => e = .returned (.bool true) ∧ Below w.heap.size w w' := by
  generalize hA : sA = A
  generalize hB : sB = B
  have T := sources_any
  have S := same_row
  rw [hA, hB] at T S
  have HT := Lib.hid T
  have HS := Lib.hid S
  clear T S hA hB
  by_cases h0 : i = 0 ∨ i = 1
  · rcases h0 with rfl | rfl
    all_goals
      go_enter Try.func3, Try.ntmps3
      go_wp2_with fail
      refine (HT.out _).mono ?_
      rintro e w1 ⟨g, a, c, rfl, hg, hr, ha, hc, hb⟩
      go_wp2_with fail
      refine (HS.out _ _ _ _ hr ha hc).mono ?_
      rintro e w2 ⟨rfl, rfl⟩
      have b0 : w2.cell? ⟨w.heap.size, 0, none⟩ = some (.string x) := below_cell hb (by simp) (by simp)
      have b1 : w2.cell? ⟨w.heap.size, 1, none⟩ = some (.string y) := below_cell hb (by simp) (by simp)
      have c0 : w2.cell? ⟨g, 0, none⟩ = some (.string a) := row_cells hr 0 _ rfl
      have c1 : w2.cell? ⟨g, 1, none⟩ = some (.string A) := row_cells hr 1 _ rfl
      have c2 : w2.cell? ⟨g, 2, none⟩ = some (.string c) := row_cells hr 2 _ rfl
      have c3 : w2.cell? ⟨g, 3, none⟩ = some (.string B) := row_cells hr 3 _ rfl
      have f0 := fun i => row_free hr i
      clear hr
      go_wp2_with fail
      refine (HT.out _).mono ?_
      rintro e w3 ⟨g', a', c', rfl, hg', hr', ha', hc', hb'⟩
      go_wp2_with fail
      refine (HS.out _ _ _ _ hr' ha' hc').mono ?_
      rintro e w4 ⟨rfl, rfl⟩
      go_wp2_with fail
      go_ret
      have z1 : w.heap.size ≤ g := by simp at hg; omega
      have z2 : w.heap.size ≤ w2.heap.size := by have := hb.size; simp at this; omega
      exact ⟨rfl, below_then ((below_then ((Below.refl _ _).alloc (Nat.le_refl _) _) (by simp) hb).setCell z1 _ |>.setCell z1 _) (by simpa using z2) hb'⟩
  · go_enter Try.func3, Try.ntmps3
    go_wp2_with fail
    refine (HT.out _).mono ?_
    rintro e w1 ⟨g, a, c, rfl, hg, hr, ha, hc, hb⟩
    go_wp2_with fail
    refine (HS.out _ _ _ _ hr ha hc).mono ?_
    rintro e w2 ⟨rfl, rfl⟩
    go_wp2_with fail
    all_goals
      refine (HT.out _).mono ?_
      rintro e w3 ⟨g', a', c', rfl, hg', hr', ha', hc', hb'⟩
      go_wp2_with fail
      refine (HS.out _ _ _ _ hr' ha' hc').mono ?_
      rintro e w4 ⟨rfl, rfl⟩
      go_wp2_with fail
      go_ret
      have z2 : w.heap.size ≤ w2.heap.size := by have := hb.size; simp at this; omega
      exact ⟨rfl, below_then (below_then ((Below.refl _ _).alloc (Nat.le_refl _) _) (by simp) hb) z2 hb'⟩
/-- What the table answers at a name. -/
def SrcOk (A B s t : ByteArray) (b : Bool) : Prop :=
  (s.toList = [80, 114, 101, 108, 117, 100, 101] → t = A ∧ b = true) ∧ (s.toList = [67, 111, 110, 116, 114, 111, 108] → t = B ∧ b = true) ∧
    (s.toList ≠ [80, 114, 101, 108, 117, 100, 101] → s.toList ≠ [67, 111, 110, 116, 114, 111, 108] → t.toList = [] ∧ b = false)

set_option maxRecDepth 100000 in
set_option maxHeartbeats 400000 in
theorem source_any (s : ByteArray) (w : World) :
    Calls Try.prog 13 #[.string s] w fun e w' => ∃ t b, e = .returned (.tuple #[.string t, .bool b]) ∧ SrcOk sA sB s t b ∧ Below w.heap.size w w' := by
  generalize hA : sA = A
  generalize hB : sB = B
  have T := table_any
  rw [hA, hB] at T
  have HT := Lib.hid T
  clear T hA hB
  go_enter Try.func13, Try.ntmps13
  go_wp2_with (go_at_call 28; refine (HT.out _).mono ?_; rintro e w1 ⟨a, c, rfl, ha, hc, hb⟩)
  refine wp_loop_rounds 3 ?_
  rw [rounds_succ]
  go_wp2
  · have e1 : ([80, 114, 101, 108, 117, 100, 101] == s.toList) = true := by assumption
    go_ret2
    exact ⟨_, _, rfl, ⟨fun _ => ⟨rfl, rfl⟩, fun h => by rw [h] at e1; exact absurd e1 (by decide), fun h => absurd (by simpa using e1 : [80, 114, 101, 108, 117, 100, 101] = s.toList).symm h⟩, hb.alloc hb.size _⟩
  · have e1 : ([80, 114, 101, 108, 117, 100, 101] == s.toList) = false := by assumption
    rw [rounds_succ]
    go_wp2
    · have e2 : ([67, 111, 110, 116, 114, 111, 108] == s.toList) = true := by assumption
      go_ret2
      exact ⟨_, _, rfl, ⟨fun h => by rw [h] at e1; exact absurd e1 (by decide), fun _ => ⟨rfl, rfl⟩, fun _ h => absurd (by simpa using e2 : [67, 111, 110, 116, 114, 111, 108] = s.toList).symm h⟩, hb.alloc hb.size _⟩
    · have e2 : ([67, 111, 110, 116, 114, 111, 108] == s.toList) = false := by assumption
      rw [rounds_succ]
      go_wp2
      go_ret2
      exact ⟨_, _, rfl, ⟨fun h => by rw [h] at e1; exact absurd e1 (by decide), fun h => by rw [h] at e2; exact absurd e2 (by decide), fun _ _ => ⟨by decide +kernel, rfl⟩⟩, hb.alloc hb.size _⟩

set_option maxRecDepth 100000 in
set_option maxHeartbeats 400000 in
theorem source_law (s : ByteArray) (w : World) :
    Calls Try.prog 4 #[.string s] w fun e w' => e = .returned (.bool true) ∧ Below w.heap.size w w' := by
  have e1 : sA = sA := rfl
  conv at e1 => rhs; whnf
  have e2 : sB = sB := rfl
  conv at e2 => rhs; whnf
  have T := source_any
  have HT := Lib.hid T
  clear T
  go_enter Try.func4, Try.ntmps4
  rw [← e1, ← e2]
  clear e1 e2
  generalize sA = A at *
  generalize sB = B at *
  go_wp2_with fail
  refine (HT.out _ _).mono ?_
  rintro e w1 ⟨t, b, rfl, hs, hb⟩
  go_wp2_with fail
  refine (HT.out _ _).mono ?_
  rintro e w2 ⟨t2, b2, rfl, hs2, hb2⟩
  obtain ⟨rfl, rfl⟩ := hs2.1 (by decide +kernel)
  clear hs2
  have hbel := below_then hb hb.size hb2
  by_cases n1 : s.toList = [80, 114, 101, 108, 117, 100, 101]
  · obtain ⟨rfl, rfl⟩ := hs.1 n1
    clear hs
    go_wp2
    go_ret
    exact ⟨rfl, hbel⟩
  · by_cases n2 : s.toList = [67, 111, 110, 116, 114, 111, 108]
    · obtain ⟨rfl, rfl⟩ := hs.2.1 n2
      clear hs
      go_wp2
      go_ret
      exact ⟨rfl, hbel⟩
    · obtain ⟨ht, rfl⟩ := hs.2.2 n1 n2
      clear hs
      have m1 : (s.toList == [80, 114, 101, 108, 117, 100, 101]) = false := by simpa using n1
      have m2 : (s.toList == [67, 111, 110, 116, 114, 111, 108]) = false := by simpa using n2
      clear n1 n2
      go_wp2
      go_ret
      exact ⟨rfl, hbel⟩

end Go.Proofs.Ytngdchahahabpaa
