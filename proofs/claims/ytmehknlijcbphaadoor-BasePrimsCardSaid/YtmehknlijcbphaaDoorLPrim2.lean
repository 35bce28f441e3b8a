/- The law BasePrims at every name and number; no condition. -/
import Derived.Test.YtmehknlijcbphaaDoorLPrims
namespace Go.Proofs.YtmehknlijcbphaaDoor
open Go Go.RowKit Ev

theorem post_at (k : Nat) (h : k < 22) : endTrue (post6 noOrc (sAt k)) = true := by
  rcases Nat.lt_or_ge k 11 with h1 | h1
  · exact List.all_eq_true.1 post_a k (List.mem_range.2 h1)
  · have := List.all_eq_true.1 post_b (k - 11) (List.mem_range.2 (by omega))
    rwa [show 11 + (k - 11) = k by omega] at this
theorem rel_at [Syms] {n : Int} {k : Nat} (hn : Syms.val 1 = .int .i64 n) (hk : n = k) (w : World) (a : Act) (c : Cx) (h : Rel w (fun _ _ => False) sW a c) : Rel w (fun _ _ => False) (sAt k) a c :=
  h.found (t := 1) (i := 1) rfl (by rw [hn, hk]) (of_decide_eq_true (by kernel_rfl))

theorem basePrims_law (name : ByteArray) (n : Int) (w : World) (_ : -9223372036854775808 ≤ n ∧ n ≤ 9223372036854775807) (hW : Tabd w) :
    Calls Tryd.prog 6 #[.string name, .int .i64 n] w fun e w' => e = .returned (.bool true) ∧ Below w.heap.size w w' := by
  letI := symsOf name n ⟨#[]⟩
  have v0 : Syms.val 0 = .string name := rfl
  have v1 : Syms.val 1 = .int .i64 n := rfl
  -- what the number brings
  have hnum : ∃ (o : BinOp → AV → AV → Option Bool) (st : St), (tabOf o).Ok Tryd.prog ∧ (∀ a c, Rel w (fun _ _ => False) sW a c → Rel w (fun _ _ => False) st a c) ∧ endTrue (post6 o st) = true := by
    by_cases h0 : n < 0
    · exact ⟨orcS [] true 0, sW, orcS_ok rfl (decide_eq_true h0) (fun h => by cases h), fun _ _ h => h, post_neg⟩
    by_cases h1 : n < 22
    · obtain ⟨k, hk⟩ := Int.eq_ofNat_of_zero_le (Int.not_lt.1 h0)
      exact ⟨noOrc, sAt k, tabNo_ok, fun a c h => rel_at v1 hk w a c h, post_at k (by omega)⟩
    · exact ⟨orcS [] false 22, sW, orcS_ok rfl (decide_eq_false h0) (fun _ => by omega), fun _ _ h => h, post_big⟩
  obtain ⟨o', st, ho', hst, hpost⟩ := hnum
  cases hc : rowNames.contains name.data.toList with
  | true =>
    obtain ⟨k, hk, hk2⟩ := List.getElem_of_mem (List.contains_iff_mem.1 hc)
    have hlt : k < 22 := hk
    have hn : rowName k = .lit (.string name) := by
      unfold rowName
      rw [List.getD_eq_getElem?_getD, List.getElem?_eq_getElem hk, hk2]
      rfl
    have hp := congrArg (·[k]?) pre_known
    simp only [List.getElem?_map, List.getElem?_range hlt, Option.map_some, Option.some.injEq] at hp
    rw [hn] at hp
    exact prims_of tabNo_ok ho' extP_known v1 w hW (by simp only [Real]) hp hst hpost
  | false =>
    exact prims_of (orcN_ok hc) ho' (extP_other hc) v1 w hW (by simp only [Real]; exact v0.symm) pre_other hst hpost
end Go.Proofs.YtmehknlijcbphaaDoor
