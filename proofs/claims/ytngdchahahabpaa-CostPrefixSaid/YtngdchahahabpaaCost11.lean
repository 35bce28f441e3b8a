/- The reference's first and Once; no condition. -/
import Derived.Test.YtngdchahahabpaaCost10
namespace Go.Proofs.Ytngdchahahabpaa
open Go.RowKit

/-- The index of the first event of a form with an id, counted from i, or -1. -/
def fstL (op id : Int) : List Ev → Nat → Int
  | [], _ => -1
  | e :: r, i => if e.op = op ∧ e.id = id then i else fstL op id r (i + 1)

set_option maxHeartbeats 1000000 in
theorem first_any (w : World) (v : Value) (l : List Ev) (op id : Int) (n : Nat) (hn : n ≤ l.length) (h : Evs w v l) :
    Calls Try.prog 32 #[v, .int .i64 op, .int .i64 id, .int .i64 n] w fun e w' => e = .returned (.int .i64 (fstL op id (l.drop n) n)) ∧ w' = w := by
  obtain ⟨A, c, rfl⟩ := h.shape
  have hl := h.len
  have H := Lib.hid h
  clear h
  go_enter Try.func32, Try.ntmps32
  go_wp2_with fail
  go_loopw [9] (fun i wr => ∃ k : Nat, k ≤ l.length ∧ i = .int .i64 k ∧ fstL op id (l.drop n) n = fstL op id (l.drop k) k ∧ wr = w) (fun i _ => l.length - (intOf i).toNat)
  case atStart => exact ⟨n, hn, rfl, rfl, rfl⟩
  case round =>
    obtain ⟨k, hk, rfl, hf, rfl⟩ := hrel
    by_cases hlt : k < l.length
    · obtain ⟨b, o, rfl, c1, c2, c3⟩ := H.out.cell hlt
      rw [drop_at l hlt] at hf
      generalize l[k] = ev at c1 c2 c3 hf
      obtain ⟨op', id', step⟩ := ev
      dsimp only at c1 c2 c3
      have HF := Lib.hid hf
      clear hf
      by_cases h1 : op' = op
      · subst h1
        have t1 : (op' == op') = true := by simp
        by_cases h2 : id' = id
        · subst h2
          have t2 : (id' == id') = true := by simp
          have HN := Lib.hid (HF.out.trans (by simp [fstL]) : fstL op' id' (l.drop n) n = (k : Int))
          go_wp2_with fail
          go_ret
          exact ⟨by rw [HN.out]; rfl, rfl⟩
        · have t2 : (id' == id) = false := by simpa using h2
          have HN := Lib.hid (HF.out.trans (by simp [fstL, h2]) : fstL op' id (l.drop n) n = fstL op' id (l.drop (k + 1)) (k + 1))
          clear h2
          go_wp2_with fail
          go_roundw
          case rel => exact ⟨k + 1, by omega, by go_num, HN.out, trivial⟩
          case measure => simp [intOf]; omega
      · have t1 : (op' == op) = false := by simpa using h1
        have HN := Lib.hid (HF.out.trans (by simp [fstL, h1]) : fstL op id (l.drop n) n = fstL op id (l.drop (k + 1)) (k + 1))
        clear h1
        go_wp2_with fail
        go_roundw
        case rel => exact ⟨k + 1, by omega, by go_num, HN.out, trivial⟩
        case measure => simp [intOf]; omega
    · have he : k = l.length := by omega
      have HN := Lib.hid (show fstL op id (l.drop n) n = -1 by rw [hf, he, List.drop_length]; rfl)
      clear he hf
      go_wp2_with fail
      go_ret
      exact ⟨by rw [HN.out]; rfl, rfl⟩

/-- Whether such an event is met. -/
def has (op id : Int) (l : List Ev) : Bool := l.any fun e => e.op == op && e.id == id
theorem fstL_has (op id : Int) : ∀ (l : List Ev) (i : Nat), decide (0 ≤ fstL op id l i) = has op id l
  | [], i => by simp [fstL, has]
  | e :: r, i => by
    unfold fstL
    by_cases h : e.op = op ∧ e.id = id
    · rw [if_pos h]
      simp [has, h.1, h.2]
    · rw [if_neg h, fstL_has op id r (i + 1)]
      simp only [has, List.any_cons]
      have : (e.op == op && e.id == id) = false := by
        by_cases h1 : e.op = op
        · have : e.id ≠ id := fun h2 => h ⟨h1, h2⟩
          simp [this]
        · simp [h1]
      rw [this, Bool.false_or]

/-- No begin before another of the same id. -/
def ronL : List Ev → Bool
  | [] => true
  | e :: r => !(e.op == 2 && has 2 e.id r) && ronL r
theorem oncL_ronL : ∀ (l : List Ev) (M : List (Int × Bool)), oncL M l = (!(l.any fun e => e.op == 2 && (get M e.id).getD false) && ronL l)
  | [], M => by simp [oncL, ronL]
  | e :: r, M => by
    unfold oncL ronL
    by_cases h : e.op = 2
    · rw [if_pos h]
      by_cases hg : (get M e.id).getD false = true
      · rw [if_pos hg]
        simp [h, hg]
      · rw [if_neg hg, oncL_ronL r _]
        have hg' : (get M e.id).getD false = false := by simpa using hg
        have hany : (r.any fun x => x.op == 2 && (get (put M e.id true) x.id).getD false) = (has 2 e.id r || r.any fun x => x.op == 2 && (get M x.id).getD false) := by
          rw [Bool.eq_iff_iff]
          simp only [has, List.any_eq_true, Bool.or_eq_true, Bool.and_eq_true, beq_iff_eq, get_put]
          constructor
          · rintro ⟨x, hx, h1, h2⟩
            by_cases hxe : x.id = e.id
            · exact .inl ⟨x, hx, h1, hxe⟩
            · rw [if_neg hxe] at h2
              exact .inr ⟨x, hx, h1, h2⟩
          · rintro (⟨x, hx, h1, h2⟩ | ⟨x, hx, h1, h2⟩)
            · exact ⟨x, hx, h1, by rw [if_pos h2]; rfl⟩
            · refine ⟨x, hx, h1, ?_⟩
              split
              · rfl
              · exact h2
        rw [hany, List.any_cons, hg']
        simp [h, Bool.not_or, Bool.and_comm, Bool.and_left_comm, Bool.and_assoc]
    · rw [if_neg h, oncL_ronL r M]
      have : (e.op == 2) = false := by simpa using h
      simp [this]
theorem oncL_eq (l : List Ev) : oncL [] l = ronL l := by
  rw [oncL_ronL]
  have : (l.any fun e => e.op == 2 && (get ([] : List (Int × Bool)) e.id).getD false) = false := by
    simp [get_nil]
  rw [this]
  simp

set_option maxHeartbeats 1000000 in
theorem ronce_any (w : World) (v : Value) (l : List Ev) (h : Evs w v l) :
    Calls Try.prog 23 #[v] w fun e w' => e = .returned (.bool (ronL l)) ∧ w' = w := by
  obtain ⟨A, c, rfl⟩ := h.shape
  have hl := h.len
  have H := Lib.hid h
  clear h
  go_enter Try.func23, Try.ntmps23
  go_wp2_with fail
  go_loopw [3] (fun i wr => ∃ k : Nat, k ≤ l.length ∧ i = .int .i64 k ∧ ronL l = ronL (l.drop k) ∧ wr = w) (fun i _ => l.length - (intOf i).toNat)
  case atStart => exact ⟨0, Nat.zero_le _, rfl, rfl, rfl⟩
  case round =>
    obtain ⟨k, hk, rfl, hf, rfl⟩ := hrel
    by_cases hlt : k < l.length
    · obtain ⟨b, o, rfl, c1, c2, c3⟩ := H.out.cell hlt
      rw [drop_at l hlt] at hf
      generalize l[k] = ev at c1 c2 c3 hf
      obtain ⟨op', id', step⟩ := ev
      dsimp only at c1 c2 c3
      have HF := Lib.hid hf
      clear hf
      have hw : wrap64 ((k : Int) + 1) = ((k + 1 : Nat) : Int) := by unfold wrap64; omega
      by_cases h1 : op' = 2
      · subst h1
        have hh := fstL_has 2 id' (l.drop (k + 1)) (k + 1)
        have hc := first_any wr _ l 2 id' (k + 1) (by omega) H.out
        generalize fstL 2 id' (l.drop (k + 1)) (k + 1) = F at hh hc
        have HC := Lib.hid hc
        clear hc
        cases hb : has 2 id' (l.drop (k + 1)) with
        | true =>
          rw [hb] at hh
          have HN := Lib.hid (HF.out.trans (by simp [ronL, hb]) : ronL l = false)
          clear hb
          go_wp2_with fail
          refine HC.out.mono ?_
          rintro e w1 ⟨rfl, rfl⟩
          go_wp2_with fail
          go_ret
          exact ⟨by rw [HN.out]; rfl, rfl⟩
        | false =>
          rw [hb] at hh
          have HN := Lib.hid (HF.out.trans (by simp [ronL, hb]) : ronL l = ronL (l.drop (k + 1)))
          clear hb
          go_wp2_with fail
          refine HC.out.mono ?_
          rintro e w1 ⟨rfl, rfl⟩
          go_wp2_with fail
          go_roundw
          case rel => exact ⟨k + 1, by omega, by go_num, HN.out, trivial⟩
          case measure => simp [intOf]; omega
      · have t1 : (op' == 2) = false := by simpa using h1
        have HN := Lib.hid (HF.out.trans (by simp [ronL, h1]) : ronL l = ronL (l.drop (k + 1)))
        clear h1
        go_wp2_with fail
        go_roundw
        case rel => exact ⟨k + 1, by omega, by go_num, HN.out, trivial⟩
        case measure => simp [intOf]; omega
    · have he : k = l.length := by omega
      have HN := Lib.hid (show ronL l = true by rw [hf, he, List.drop_length]; rfl)
      clear he hf
      go_wp2_with fail
      go_ret
      exact ⟨by rw [HN.out]; rfl, rfl⟩
end Go.Proofs.Ytngdchahahabpaa
