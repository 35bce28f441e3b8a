/- The law BaseFormed, by the evaluator: at each place of the environment's values, and at a place that is not; no condition. -/
import Derived.Test.YtmehknlijcbphaaGreatDoorCk3
namespace Go.Proofs.YtmehknlijcbphaaGreatDoor
open Go Go.RowKit Ev

noncomputable def ev3 (i : Nat) : Option AV := evCall Tryz.prog (tabOf noOrc) extH 10000 60 3 [.lit (.int .i64 i)]
theorem formed_0 : ((List.range 3).all fun k => isTrue (ev3 (0 + k))) = true := by kernel_rfl
theorem formed_1 : ((List.range 3).all fun k => isTrue (ev3 (3 + k))) = true := by kernel_rfl
theorem formed_2 : ((List.range 3).all fun k => isTrue (ev3 (6 + k))) = true := by kernel_rfl
theorem formed_3 : ((List.range 3).all fun k => isTrue (ev3 (9 + k))) = true := by kernel_rfl
theorem formed_4 : ((List.range 3).all fun k => isTrue (ev3 (12 + k))) = true := by kernel_rfl
theorem formed_5 : ((List.range 3).all fun k => isTrue (ev3 (15 + k))) = true := by kernel_rfl
theorem formed_6 : ((List.range 3).all fun k => isTrue (ev3 (18 + k))) = true := by kernel_rfl
theorem formed_7 : ((List.range 3).all fun k => isTrue (ev3 (21 + k))) = true := by kernel_rfl
theorem formed_8 : ((List.range 3).all fun k => isTrue (ev3 (24 + k))) = true := by kernel_rfl
theorem formed_9 : ((List.range 3).all fun k => isTrue (ev3 (27 + k))) = true := by kernel_rfl
theorem formed_10 : ((List.range 3).all fun k => isTrue (ev3 (30 + k))) = true := by kernel_rfl
theorem formed_11 : ((List.range 3).all fun k => isTrue (ev3 (33 + k))) = true := by kernel_rfl
theorem formed_12 : ((List.range 2).all fun k => isTrue (ev3 (36 + k))) = true := by kernel_rfl
theorem formed_neg : evCall Tryz.prog (tabOf (orcS [] true 0)) extH 10000 60 3 [.sym 1] = some (.lit (.bool true)) := by kernel_rfl
theorem formed_big : evCall Tryz.prog (tabOf (orcS [] false 38)) extH 10000 60 3 [.sym 1] = some (.lit (.bool true)) := by kernel_rfl

theorem ev3_at (k : Nat) (h : k < 38) : ev3 k = some (.lit (.bool true)) := by
  rcases Nat.lt_or_ge k 3 with h1 | h1
  · have := isTrue_eq (List.all_eq_true.1 formed_0 (k - 0) (List.mem_range.2 (by omega)))
    rwa [show 0 + (k - 0) = k by omega] at this
  rcases Nat.lt_or_ge k 6 with h2 | h2
  · have := isTrue_eq (List.all_eq_true.1 formed_1 (k - 3) (List.mem_range.2 (by omega)))
    rwa [show 3 + (k - 3) = k by omega] at this
  rcases Nat.lt_or_ge k 9 with h3 | h3
  · have := isTrue_eq (List.all_eq_true.1 formed_2 (k - 6) (List.mem_range.2 (by omega)))
    rwa [show 6 + (k - 6) = k by omega] at this
  rcases Nat.lt_or_ge k 12 with h4 | h4
  · have := isTrue_eq (List.all_eq_true.1 formed_3 (k - 9) (List.mem_range.2 (by omega)))
    rwa [show 9 + (k - 9) = k by omega] at this
  rcases Nat.lt_or_ge k 15 with h5 | h5
  · have := isTrue_eq (List.all_eq_true.1 formed_4 (k - 12) (List.mem_range.2 (by omega)))
    rwa [show 12 + (k - 12) = k by omega] at this
  rcases Nat.lt_or_ge k 18 with h6 | h6
  · have := isTrue_eq (List.all_eq_true.1 formed_5 (k - 15) (List.mem_range.2 (by omega)))
    rwa [show 15 + (k - 15) = k by omega] at this
  rcases Nat.lt_or_ge k 21 with h7 | h7
  · have := isTrue_eq (List.all_eq_true.1 formed_6 (k - 18) (List.mem_range.2 (by omega)))
    rwa [show 18 + (k - 18) = k by omega] at this
  rcases Nat.lt_or_ge k 24 with h8 | h8
  · have := isTrue_eq (List.all_eq_true.1 formed_7 (k - 21) (List.mem_range.2 (by omega)))
    rwa [show 21 + (k - 21) = k by omega] at this
  rcases Nat.lt_or_ge k 27 with h9 | h9
  · have := isTrue_eq (List.all_eq_true.1 formed_8 (k - 24) (List.mem_range.2 (by omega)))
    rwa [show 24 + (k - 24) = k by omega] at this
  rcases Nat.lt_or_ge k 30 with h10 | h10
  · have := isTrue_eq (List.all_eq_true.1 formed_9 (k - 27) (List.mem_range.2 (by omega)))
    rwa [show 27 + (k - 27) = k by omega] at this
  rcases Nat.lt_or_ge k 33 with h11 | h11
  · have := isTrue_eq (List.all_eq_true.1 formed_10 (k - 30) (List.mem_range.2 (by omega)))
    rwa [show 30 + (k - 30) = k by omega] at this
  rcases Nat.lt_or_ge k 36 with h12 | h12
  · have := isTrue_eq (List.all_eq_true.1 formed_11 (k - 33) (List.mem_range.2 (by omega)))
    rwa [show 33 + (k - 33) = k by omega] at this
  · have := isTrue_eq (List.all_eq_true.1 formed_12 (k - 36) (List.mem_range.2 (by omega)))
    rwa [show 36 + (k - 36) = k by omega] at this

theorem baseFormed_law (i : Int) (w : World) (_ : -9223372036854775808 ≤ i ∧ i ≤ 9223372036854775807) (hW : Tabd w) :
    Calls Tryz.prog 3 #[.int .i64 i] w fun e w' => e = .returned (.bool true) ∧ Below w.heap.size w w' := by
  by_cases h0 : i < 0
  · letI := symsOf ⟨#[]⟩ i ⟨#[]⟩
    exact law_of (orcS_ok rfl (decide_eq_true h0) (fun h => by cases h)) extH_ok formed_neg hW (vs := [.int .i64 i]) (by simp only [RealL, Real]; exact ⟨_, _, rfl, rfl, rfl⟩)
  by_cases h1 : i < 38
  · obtain ⟨k, rfl⟩ := Int.eq_ofNat_of_zero_le (Int.not_lt.1 h0)
    letI := symsOf ⟨#[]⟩ 0 ⟨#[]⟩
    exact law_of tabNo_ok extH_ok (ev3_at k (by omega)) hW (vs := [.int .i64 k]) (by simp only [RealL, Real]; exact ⟨_, _, rfl, rfl, rfl⟩)
  · letI := symsOf ⟨#[]⟩ i ⟨#[]⟩
    exact law_of (orcS_ok rfl (decide_eq_false h0) (fun _ => by omega)) extH_ok formed_big hW (vs := [.int .i64 i]) (by simp only [RealL, Real]; exact ⟨_, _, rfl, rfl, rfl⟩)
end Go.Proofs.YtmehknlijcbphaaGreatDoor
