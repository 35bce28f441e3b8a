/- The base's arithmetic: integer, truth, bad; no condition. -/
import Derived.Test.YtmehknlijcbphaaDoorRows
import Derived.Test.YtmehknlijcbphaaDoorWords
namespace Go.Proofs.YtmehknlijcbphaaDoor
open Go.RowKit

/-- A value of the language: its form, name, number, and its one exception. -/
structure Val where
  op : Int
  name : ByteArray
  n : Int
  exc : Option (ByteArray × Int)
def val0 : Val := ⟨0, .empty, 0, none⟩
/-- The exceptions in memory. -/
def ExcAt (ok : Nat → Prop) (w : World) (l : Value) : Option (ByteArray × Int) → Prop
  | none => l = .slice none 0 0
  | some (s, k) => ∃ g, l = .slice (some ⟨g, 0, none⟩) 1 1 ∧ ok g ∧ g < w.heap.size ∧ w.heap[g]? = some (.cells #[.string s, .int .i64 k] 90)
def ValAt (ok : Nat → Prop) (w : World) (v : Value) (x : Val) : Prop := ∃ l, v = .agg #[.int .i64 x.op, .string x.name, .int .i64 x.n, .slice none 0 0, .bool false, l] ∧ ExcAt ok w l x.exc
theorem ExcAt.fresh {ok : Nat → Prop} {w w' : World} {l : Value} {o : Option (ByteArray × Int)} (h : ExcAt ok w l o) (hb : Below w.heap.size w w') : ExcAt ok w' l o := by
  cases o with
  | none => exact h
  | some p =>
    obtain ⟨g, e, h1, h2, h3⟩ := h
    exact ⟨g, e, h1, Nat.lt_of_lt_of_le h2 hb.size, rowB hb h3 h2⟩
theorem ValAt.fresh {ok : Nat → Prop} {w w' : World} {v : Value} {x : Val} (h : ValAt ok w v x) (hb : Below w.heap.size w w') : ValAt ok w' v x := by
  obtain ⟨l, e, h⟩ := h
  exact ⟨l, e, h.fresh hb⟩
def set6 (w : World) (g : Nat) (a b c d e f : Value) : World := (((((w.setCell ⟨g, 0, none⟩ a).setCell ⟨g, 1, none⟩ b).setCell ⟨g, 2, none⟩ c).setCell ⟨g, 3, none⟩ d).setCell ⟨g, 4, none⟩ e).setCell ⟨g, 5, none⟩ f
theorem set6_row {w : World} {g : Nat} {x0 x1 x2 x3 x4 x5 : Value} {T : TypeId} {t : Nat × Nat} (h : w.heap[g]? = some (.cells #[x0, x1, x2, x3, x4, x5] T t)) (a b c d e f : Value) : (set6 w g a b c d e f).heap[g]? = some (.cells #[a, b, c, d, e, f] T t) := by
  unfold set6
  simp [World.setCell, Array.getElem?_modify, h]
theorem set6_below {B : Nat} {w0 w : World} {g : Nat} (ht : Below B w0 w) (hg : B ≤ g) (a b c d e f : Value) : Below B w0 (set6 w g a b c d e f) :=
  (((((ht.setCell (p := ⟨g, 0, none⟩) hg a).setCell (p := ⟨g, 1, none⟩) hg b).setCell (p := ⟨g, 2, none⟩) hg c).setCell (p := ⟨g, 3, none⟩) hg d).setCell (p := ⟨g, 4, none⟩) hg e).setCell (p := ⟨g, 5, none⟩) hg f
abbrev valC (op : Int) (s : ByteArray) (n : Int) (l : Value) : Array Value := #[.int .i64 op, .string s, .int .i64 n, .slice none 0 0, .bool false, l]

def sTrue : ByteArray := ⟨#[84, 114, 117, 101]⟩
def sFalse : ByteArray := ⟨#[70, 97, 108, 115, 101]⟩
set_option maxRecDepth 10000 in
set_option maxHeartbeats 1000000 in
theorem integer_any (n : Int) (w : World) : Calls Tryd.prog 36 #[.int .i64 n] w fun e w' => e = .returned (.tuple #[.agg (valC 1 .empty n (.slice none 0 0)), .bool true]) ∧ Below w.heap.size w w' := by
  go_enter Tryd.func36, Tryd.ntmps36
  go_wp2_with fail
  have c := cellsH (new0 w (.cells #[.int .i64 1, .string ⟨#[]⟩, .int .i64 n, .slice none 0 0, .bool false, .slice none 0 0] 35))
  refine bodyPost_ret (v := .tuple #[.agg (valC 1 .empty n (.slice none 0 0)), .bool true]) (by simp [results, Tryd.results36, go_sem, c]; rfl) rfl ?_
  exact ⟨rfl, (Below.refl _ _).alloc (Nat.le_refl _) _⟩
set_option maxRecDepth 10000 in
set_option maxHeartbeats 1000000 in
theorem truth_any (b : Bool) (w : World) : Calls Tryd.prog 37 #[.bool b] w fun e w' => e = .returned (.tuple #[.agg (valC 3 (if b then sTrue else sFalse) 0 (.slice none 0 0)), .bool true]) ∧ Below w.heap.size w w' := by
  cases b
  · go_enter Tryd.func37, Tryd.ntmps37
    go_wp2_with fail
    have c := cellsH (new0 w (.cells #[.int .i64 3, .string ⟨#[70, 97, 108, 115, 101]⟩, .int .i64 0, .slice none 0 0, .bool false, .slice none 0 0] 35))
    refine bodyPost_ret (v := .tuple #[.agg (valC 3 sFalse 0 (.slice none 0 0)), .bool true]) (by simp [results, Tryd.results37, go_sem, c]; rfl) rfl ?_
    exact ⟨rfl, (Below.refl _ _).alloc (Nat.le_refl _) _⟩
  · go_enter Tryd.func37, Tryd.ntmps37
    go_wp2_with fail
    have c := cellsH (new0 w (.cells #[.int .i64 3, .string ⟨#[84, 114, 117, 101]⟩, .int .i64 0, .slice none 0 0, .bool false, .slice none 0 0] 35))
    refine bodyPost_ret (v := .tuple #[.agg (valC 3 sTrue 0 (.slice none 0 0)), .bool true]) (by simp [results, Tryd.results37, go_sem, c]; rfl) rfl ?_
    exact ⟨rfl, (Below.refl _ _).alloc (Nat.le_refl _) _⟩
set_option maxRecDepth 10000 in
set_option maxHeartbeats 1000000 in
theorem rtruth_any (b : Bool) (w : World) : Calls Tryd.prog 42 #[.bool b] w fun e w' => e = .returned (.agg (valC 3 (if b then sTrue else sFalse) 0 (.slice none 0 0))) ∧ Below w.heap.size w w' := by
  cases b
  · go_enter Tryd.func42, Tryd.ntmps42
    go_wp2_with fail
    have c := cellsH (new0 w (.cells #[.int .i64 3, .string ⟨#[70, 97, 108, 115, 101]⟩, .int .i64 0, .slice none 0 0, .bool false, .slice none 0 0] 35))
    refine bodyPost_ret (v := .agg (valC 3 sFalse 0 (.slice none 0 0))) (by simp [results, Tryd.results42, go_sem, c]; rfl) rfl ?_
    exact ⟨rfl, (Below.refl _ _).alloc (Nat.le_refl _) _⟩
  · go_enter Tryd.func42, Tryd.ntmps42
    go_wp2_with fail
    have c := cellsH (new0 w (.cells #[.int .i64 3, .string ⟨#[84, 114, 117, 101]⟩, .int .i64 0, .slice none 0 0, .bool false, .slice none 0 0] 35))
    refine bodyPost_ret (v := .agg (valC 3 sTrue 0 (.slice none 0 0))) (by simp [results, Tryd.results42, go_sem, c]; rfl) rfl ?_
    exact ⟨rfl, (Below.refl _ _).alloc (Nat.le_refl _) _⟩
theorem exc_new (w : World) (s : ByteArray) (n : Int) (o : Obj) : ExcAt (w.heap.size ≤ ·) ((w.alloc o).alloc (.cells #[.string s, .int .i64 n] 90)) (.slice (some ⟨w.heap.size + 1, 0, none⟩) 1 1) (some (s, n)) :=
  ⟨_, rfl, by show w.heap.size ≤ w.heap.size + 1; omega, by simp, new21 _ _ _⟩
set_option maxRecDepth 10000 in
set_option maxHeartbeats 1000000 in
theorem bad_any (s : ByteArray) (n : Int) (w : World) : Calls Tryd.prog 38 #[.string s, .int .i64 n] w fun e w' => ∃ v, e = .returned (.tuple #[v, .bool true]) ∧ ValAt (w.heap.size ≤ ·) w' v ⟨5, .empty, 0, some (s, n)⟩ ∧ Below w.heap.size w w' := by
  go_enter Tryd.func38, Tryd.ntmps38
  go_wp2_with fail
  have c := cellsH (new20 w (.cells #[.int .i64 5, .string ⟨#[]⟩, .int .i64 0, .slice none 0 0, .bool false, .slice (some ⟨w.heap.size + 1, 0, none⟩) 1 1] 35) (.cells #[.string s, .int .i64 n] 90))
  refine bodyPost_ret (v := .tuple #[.agg (valC 5 .empty 0 (.slice (some ⟨w.heap.size + 1, 0, none⟩) 1 1)), .bool true]) (by simp [results, Tryd.results38, go_sem, c]; rfl) rfl ?_
  exact ⟨_, rfl, ⟨_, rfl, exc_new _ _ _ _⟩, ((Below.refl _ _).alloc (Nat.le_refl _) _).alloc (by simp) _⟩
set_option maxRecDepth 10000 in
set_option maxHeartbeats 1000000 in
theorem raised_any (s : ByteArray) (n : Int) (w : World) : Calls Tryd.prog 39 #[.string s, .int .i64 n] w fun e w' => ∃ v, e = .returned v ∧ ValAt (w.heap.size ≤ ·) w' v ⟨5, .empty, 0, some (s, n)⟩ ∧ Below w.heap.size w w' := by
  go_enter Tryd.func39, Tryd.ntmps39
  go_wp2_with fail
  have c := cellsH (new20 w (.cells #[.int .i64 5, .string ⟨#[]⟩, .int .i64 0, .slice none 0 0, .bool false, .slice (some ⟨w.heap.size + 1, 0, none⟩) 1 1] 35) (.cells #[.string s, .int .i64 n] 90))
  refine bodyPost_ret (v := .agg (valC 5 .empty 0 (.slice (some ⟨w.heap.size + 1, 0, none⟩) 1 1))) (by simp [results, Tryd.results39, go_sem, c]; rfl) rfl ?_
  exact ⟨_, rfl, ⟨_, rfl, exc_new _ _ _ _⟩, ((Below.refl _ _).alloc (Nat.le_refl _) _).alloc (by simp) _⟩
theorem quot_any (a b : Int) (hb : b ≠ 0) (w : World) : Calls Tryd.prog 40 #[.int .i64 a, .int .i64 b] w fun e w' => e = .returned (.int .i64 (wrap64 (a.tdiv b))) ∧ w' = w := by
  by_cases h : b = -1
  · subst h
    go_enter Tryd.func40, Tryd.ntmps40
    go_wp2_with fail
    go_ret
    exact ⟨by simp, rfl⟩
  · have h1 : (b == -1) = false := by simpa using h
    go_enter Tryd.func40, Tryd.ntmps40
    go_wp2_with fail
    go_ret
    exact ⟨rfl, rfl⟩
theorem rem_any (a b : Int) (hb : b ≠ 0) (w : World) : Calls Tryd.prog 41 #[.int .i64 a, .int .i64 b] w fun e w' => e = .returned (.int .i64 (wrap64 (a - wrap64 (b * wrap64 (a.tdiv b))))) ∧ w' = w := by
  have hb' := Lib.hid hb
  clear hb
  go_enter Tryd.func41, Tryd.ntmps41
  go_wp2_with fail
  refine (quot_any a b hb'.out w).mono ?_
  rintro e w1 ⟨rfl, rfl⟩
  go_wp2_with fail
  go_ret
  exact ⟨rfl, rfl⟩
end Go.Proofs.YtmehknlijcbphaaDoor
