/- Events, and what both checks compute of them; no condition. -/
import Derived.Test.YtngdchahahabpaaRows
import Derived.Test.YtngdchahahabpaaSort
import Derived.Deep.QuietTactic
import Derived.BigQuiet
import Derived.Deep.RegionWith
namespace Go.Proofs.Ytngdchahahabpaa
open Go.RowKit

/-- An event. -/
structure Ev where
  op : Int
  id : Int
  step : Int

/-- v is a slice of the events l. -/
def Evs (w : World) (v : Value) (l : List Ev) : Prop :=
  ∃ (A : Option Addr) (cap : Nat), v = .slice A l.length cap ∧ l.length ≤ cap ∧ cap ≤ maxLen ∧
    (0 < l.length → ∃ ad, A = some ad ∧ ad.block < w.heap.size ∧ ∀ i e, l[i]? = some e →
      w.cell? (ad.add (i * 3)) = some (.int .i64 e.op) ∧ w.cell? (ad.add (i * 3 + 1)) = some (.int .i64 e.id) ∧ w.cell? (ad.add (i * 3 + 2)) = some (.int .i64 e.step)) ∧
    l.length * 24 ≤ 140737488355328 ∧ ∀ e ∈ l, (Lit.int .i64 e.op).wf = true ∧ (Lit.int .i64 e.id).wf = true ∧ (Lit.int .i64 e.step).wf = true

theorem Evs.fresh {w w' : World} {v : Value} {l : List Ev} (h : Evs w v l) (hb : Below w.heap.size w w') : Evs w' v l := by
  obtain ⟨A, cap, rfl, h1, h2, h3, h4⟩ := h
  refine ⟨A, cap, rfl, h1, h2, fun h0 => ?_, h4⟩
  obtain ⟨ad, rfl, hl, hc⟩ := h3 h0
  refine ⟨ad, rfl, Nat.lt_of_lt_of_le hl hb.size, fun i e he => ?_⟩
  obtain ⟨c1, c2, c3⟩ := hc i e he
  exact ⟨cellBelow c1 hb (by rw [addr_block]; exact hl), cellBelow c2 hb (by rw [addr_block]; exact hl), cellBelow c3 hb (by rw [addr_block]; exact hl)⟩
theorem Evs.shape {w : World} {v : Value} {l : List Ev} (h : Evs w v l) : ∃ A c, v = .slice A l.length c := by
  obtain ⟨A, cap, rfl, _⟩ := h
  exact ⟨A, cap, rfl⟩
theorem Evs.len {w : World} {v : Value} {l : List Ev} (h : Evs w v l) : l.length * 24 ≤ 140737488355328 := by
  obtain ⟨A, cap, rfl, _, _, _, h4, _⟩ := h
  exact h4
theorem Evs.wf {w : World} {v : Value} {l : List Ev} (h : Evs w v l) : ∀ e ∈ l, (Lit.int .i64 e.op).wf = true ∧ (Lit.int .i64 e.id).wf = true ∧ (Lit.int .i64 e.step).wf = true := by
  obtain ⟨A, cap, rfl, _, _, _, _, h5⟩ := h
  exact h5
theorem spot_none {w : World} {a : Addr} {n : Nat} {v : Value} (h : w.cell? (a.add n) = some v) (h0 : n = 0) : a.spot = none := by
  subst h0
  have : a.add 0 = a := by unfold Addr.add; simp
  rw [this] at h
  unfold World.cell? at h
  split at h
  · split at h
    · cases h
    · rename_i hs
      simpa using hs
  · cases h
theorem Evs.cell {w : World} {A : Option Addr} {n c : Nat} {l : List Ev} (h : Evs w (.slice A n c) l) {k : Nat} (hk : k < l.length) :
    ∃ b o, A = some ⟨b, o, none⟩ ∧ w.cell? ⟨b, o + k * 3, none⟩ = some (.int .i64 l[k].op) ∧ w.cell? ⟨b, o + k * 3 + 1, none⟩ = some (.int .i64 l[k].id) ∧ w.cell? ⟨b, o + k * 3 + 2, none⟩ = some (.int .i64 l[k].step) := by
  obtain ⟨A', cap, e, _, _, h3, _⟩ := h
  cases e
  obtain ⟨ad, rfl, _, hc⟩ := h3 (by omega)
  have hs := spot_none (hc 0 _ (List.getElem?_eq_getElem (by omega))).1 (by omega)
  obtain ⟨b, o, s⟩ := ad
  simp at hs
  subst hs
  have := hc k _ (List.getElem?_eq_getElem hk)
  simp only [Addr.add_lit] at this
  exact ⟨b, o, rfl, this⟩

/-- The state of a thunk after an event, and whether the event is possible. -/
def mv (s op : Int) : Int × Bool :=
  if op = 2 then (1, s == 0) else if op = 5 then (2, s == 1) else if op = 6 then (1, s == 2) else if op = 3 then (3, s == 1) else if op = 4 then (3, s == 1) else if op = 7 then (1, s == 1) else (s, false)

set_option maxHeartbeats 400000 in
theorem moved_any (s op : Int) (w : World) : Calls Try.prog 29 #[.int .i64 s, .int .i64 op] w fun e w' => e = .returned (.tuple #[.int .i64 (mv s op).1, .bool (mv s op).2]) ∧ w' = w := by
  by_cases h2 : op = 2
  · subst h2; have HM := Lib.hid (show mv s 2 = (1, s == 0) from rfl); go_enter Try.func29, Try.ntmps29; go_wp2; go_ret2; rw [HM.out]; exact ⟨rfl, rfl⟩
  by_cases h5 : op = 5
  · subst h5; have HM := Lib.hid (show mv s 5 = (2, s == 1) from rfl); go_enter Try.func29, Try.ntmps29; go_wp2; go_ret2; rw [HM.out]; exact ⟨rfl, rfl⟩
  by_cases h6 : op = 6
  · subst h6; have HM := Lib.hid (show mv s 6 = (1, s == 2) from rfl); go_enter Try.func29, Try.ntmps29; go_wp2; go_ret2; rw [HM.out]; exact ⟨rfl, rfl⟩
  by_cases h3 : op = 3
  · subst h3; have HM := Lib.hid (show mv s 3 = (3, s == 1) from rfl); go_enter Try.func29, Try.ntmps29; go_wp2; go_ret2; rw [HM.out]; exact ⟨rfl, rfl⟩
  by_cases h4 : op = 4
  · subst h4; have HM := Lib.hid (show mv s 4 = (3, s == 1) from rfl); go_enter Try.func29, Try.ntmps29; go_wp2; go_ret2; rw [HM.out]; exact ⟨rfl, rfl⟩
  by_cases h7 : op = 7
  · subst h7; have HM := Lib.hid (show mv s 7 = (1, s == 1) from rfl); go_enter Try.func29, Try.ntmps29; go_wp2; go_ret2; rw [HM.out]; exact ⟨rfl, rfl⟩
  have HM := Lib.hid (show mv s op = (s, false) by simp [mv, h2, h5, h6, h3, h4, h7])
  have e2 : (op == 2) = false := by simpa using h2
  have e3 : (op == 3) = false := by simpa using h3
  have e4 : (op == 4) = false := by simpa using h4
  have e5 : (op == 5) = false := by simpa using h5
  have e6 : (op == 6) = false := by simpa using h6
  have e7 : (op == 7) = false := by simpa using h7
  clear h2 h3 h4 h5 h6 h7
  go_enter Try.func29, Try.ntmps29
  go_wp2
  go_ret2
  rw [HM.out]
  exact ⟨rfl, rfl⟩

/-- Whether an operation is one of the seven. -/
def knw (op : Int) : Bool := decide (1 ≤ op) && decide (op ≤ 7)

set_option maxHeartbeats 400000 in
theorem known_any (op : Int) (w : World) : Calls Try.prog 30 #[.int .i64 op] w fun e w' => e = .returned (.bool (knw op)) ∧ w' = w := by
  by_cases h1 : 1 ≤ op
  · have HM := Lib.hid (show knw op = decide (op ≤ 7) by simp [knw, h1])
    go_enter Try.func30, Try.ntmps30; go_wp2; go_ret; rw [HM.out]; exact ⟨rfl, rfl⟩
  · have HM := Lib.hid (show knw op = false by simp [knw, h1])
    have h1' : op < 1 := by omega
    clear h1
    go_enter Try.func30, Try.ntmps30; go_wp2; go_ret; rw [HM.out]; exact ⟨rfl, rfl⟩

set_option maxHeartbeats 400000 in
theorem step_any (s op : Int) (w : World) (hk : knw op = true) (h1 : op ≠ 1) (r : Int) (b : Bool) (hs : mv s op = (r, b)) :
    Calls Try.prog 31 #[.int .i64 s, .int .i64 op] w fun e w' => ∃ r', e = .returned (.tuple #[.int .i64 r', .bool b]) ∧ (b = true → r' = r) ∧ w' = w := by
  have hop : op = 2 ∨ op = 3 ∨ op = 4 ∨ op = 5 ∨ op = 6 ∨ op = 7 := by simp [knw] at hk; omega
  clear hk h1
  have HS := Lib.hid hs
  clear hs
  have HQ := Lib.hid (show ∀ x y : Int × Bool, x = y → x.1 = y.1 ∧ x.2 = y.2 from fun x y h => by subst h; exact ⟨rfl, rfl⟩)
  rcases hop with rfl | rfl | rfl | rfl | rfl | rfl
  all_goals
    have hb := (HQ.out _ _ HS.out).2
    have hr := (HQ.out _ _ HS.out).1
    have HB := Lib.hid hb
    have HR := Lib.hid hr
    clear hb hr
    go_enter Try.func31, Try.ntmps31
    go_wp2
    go_ret2
    refine ⟨_, by rw [← HB.out]; rfl, ?_, rfl⟩
    intro hb
    rw [← HR.out]
    first | rfl | (rw [← HB.out] at hb; simp [mv] at hb; rw [hb]; rfl)
end Go.Proofs.Ytngdchahahabpaa
