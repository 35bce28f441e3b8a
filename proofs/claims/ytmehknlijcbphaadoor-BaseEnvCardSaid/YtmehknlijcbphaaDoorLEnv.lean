/- The law BaseEnv, by the evaluator: at each place of the environments, and at a place that is not; no condition. -/
import Derived.Test.YtmehknlijcbphaaDoorRz2
import Derived.Test.YtmehknlijcbphaaDoorOrc
namespace Go.Proofs.YtmehknlijcbphaaDoor
open Go Go.RowKit Ev

noncomputable def ev7 (i : Nat) : Option AV := evCall Tryd.prog (tabOf noOrc) extE 10000 30 7 [.lit (.int .i64 i)]
theorem env_a : ((List.range 13).all fun k => isTrue (ev7 k)) = true := by kernel_rfl
theorem env_b : ((List.range 13).all fun k => isTrue (ev7 (13 + k))) = true := by kernel_rfl
theorem env_c : ((List.range 13).all fun k => isTrue (ev7 (26 + k))) = true := by kernel_rfl
theorem env_d : ((List.range 13).all fun k => isTrue (ev7 (39 + k))) = true := by kernel_rfl
theorem env_neg : evCall Tryd.prog (tabOf (orcS [] true 0)) extE 10000 30 7 [.sym 1] = some (.lit (.bool true)) := by kernel_rfl
theorem env_big : evCall Tryd.prog (tabOf (orcS [] false 52)) extE 10000 30 7 [.sym 1] = some (.lit (.bool true)) := by kernel_rfl

theorem ev7_at (k : Nat) (h : k < 52) : ev7 k = some (.lit (.bool true)) := by
  rcases Nat.lt_or_ge k 13 with h1 | h1
  · exact isTrue_eq (List.all_eq_true.1 env_a k (List.mem_range.2 h1))
  rcases Nat.lt_or_ge k 26 with h2 | h2
  · have := isTrue_eq (List.all_eq_true.1 env_b (k - 13) (List.mem_range.2 (by omega)))
    rwa [show 13 + (k - 13) = k by omega] at this
  rcases Nat.lt_or_ge k 39 with h3 | h3
  · have := isTrue_eq (List.all_eq_true.1 env_c (k - 26) (List.mem_range.2 (by omega)))
    rwa [show 26 + (k - 26) = k by omega] at this
  · have := isTrue_eq (List.all_eq_true.1 env_d (k - 39) (List.mem_range.2 (by omega)))
    rwa [show 39 + (k - 39) = k by omega] at this

theorem baseEnv_law (i : Int) (w : World) (_ : -9223372036854775808 ≤ i ∧ i ≤ 9223372036854775807) (hW : Tabd w) :
    Calls Tryd.prog 7 #[.int .i64 i] w fun e w' => e = .returned (.bool true) ∧ Below w.heap.size w w' := by
  by_cases h0 : i < 0
  · letI := symsOf ⟨#[]⟩ i ⟨#[]⟩
    exact law_of (orcS_ok rfl (decide_eq_true h0) (fun h => by cases h)) extE_ok env_neg hW (vs := [.int .i64 i]) (by simp only [RealL, Real]; exact ⟨_, _, rfl, rfl, rfl⟩)
  by_cases h1 : i < 52
  · obtain ⟨k, rfl⟩ := Int.eq_ofNat_of_zero_le (Int.not_lt.1 h0)
    exact law_of tabNo_ok extE_ok (ev7_at k (by omega)) hW (vs := [.int .i64 k]) (by simp only [RealL, Real]; exact ⟨_, _, rfl, rfl, rfl⟩)
  · letI := symsOf ⟨#[]⟩ i ⟨#[]⟩
    exact law_of (orcS_ok rfl (decide_eq_false h0) (fun _ => by omega)) extE_ok env_big hW (vs := [.int .i64 i]) (by simp only [RealL, Real]; exact ⟨_, _, rfl, rfl, rfl⟩)
end Go.Proofs.YtmehknlijcbphaaDoor
