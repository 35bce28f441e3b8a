/- The walk of the law CostAge; no condition but that the argument is a slice of events. -/
import Derived.Test.YtngdchahahabpaaCost17
namespace Go.Proofs.Ytngdchahahabpaa
open Go.RowKit

set_option maxHeartbeats 1000000 in
theorem costAge_law (w : World) (v : Value) (l : List Ev) (h : Evs w v l) : Calls Try.prog 6 #[v] w fun e w' => e = .returned (.bool true) ∧ Below w.heap.size w w' := by
  obtain ⟨A, c, rfl⟩ := h.shape
  have H := Lib.hid h
  clear h
  go_enter Try.func6, Try.ntmps6
  go_wp2_with fail
  · refine (example_any _).mono ?_
    rintro e w1 ⟨rfl, hb⟩
    have HB := Lib.hid hb
    clear hb
    go_wp2_with fail
    go_ret
    exact ⟨rfl, HB.out⟩
  · refine (age_any _ _ l H.out).mono ?_
    rintro e w1 ⟨b, rfl, hb0, hm, hb⟩
    have HB := Lib.hid hb
    have HM := Lib.hid hm
    clear hb hm
    go_wp2_with fail
    refine (rage_any _ _ l (H.out.fresh HB.out)).mono ?_
    rintro e w2 ⟨u, u', rfl, hu, hu', hb⟩
    obtain ⟨A1, c1, rfl⟩ := hu.shape
    obtain ⟨A2, c2, rfl⟩ := hu'.shape
    have hm2 := HM.out.below hb HM.out.lt
    have HB2 := Lib.hid (below_then HB.out HB.out.size hb)
    have HU := Lib.hid hu
    have HU' := Lib.hid hu'
    have ll := fun ty => run_len_map (P := Try.prog) (t := 36) (k := 3) (e := 3) Try.underlying36 hm2 ty
    rw [length_vals, rids_len] at ll
    have HM2 := Lib.hid hm2
    have hll : (List.map (rage l) (rids [] l)).length = (rids [] l).length := by simp
    rw [hll]
    clear hb hu hu' hm2 hll
    have hself : (((rids [] l).length : Int) == ((rids [] l).length : Int)) = true := by simp
    generalize hR : rids [] l = R at ll HU HU' hself
    have HR := Lib.hid hR
    clear hR
    go_wp2_with fail
    rename World => wq
    have hRl := HU.out.len
    go_loopw [6] (fun i W => ∃ k : Nat, k ≤ R.length ∧ i = .int .i64 k ∧ W = wq) (fun i _ => R.length - (intOf i).toNat)
    case atStart => exact ⟨0, Nat.zero_le _, rfl, rfl⟩
    case round =>
      obtain ⟨k, hk, rfl, rfl⟩ := hrel
      by_cases hlt : k < R.length
      · obtain ⟨ad, rfl, c1⟩ := HU.out.cell hlt
        obtain ⟨ad', rfl, c2⟩ := HU'.out.cell (k := k) (by simpa using hlt)
        rw [List.getElem_map] at c2
        have hx := rids_age l R[k] (by rw [HR.out]; exact List.getElem_mem _)
        generalize R[k] = x at c1 c2 hx
        generalize rage l x = y at c2 hx
        have hlk := run_lookup_map (P := Try.prog) (t := 36) (k := 3) (e := 3) Try.underlying36 Try.underlying3 (zero3 _) HM2.out x true
        rw [get_vals, hx] at hlk
        simp only [Option.map_some, Option.getD_some, Option.isSome_some, vi] at hlk
        have hy : (y == y) = true := by simp
        clear hx
        go_wp2_with fail
        go_roundw
        case rel => exact ⟨k + 1, by omega, by go_num, trivial⟩
        case measure => simp [intOf]; omega
      · go_wp2_with fail
        refine (example_any _).mono ?_
        rintro e w3 ⟨rfl, hb⟩
        have HB3 := Lib.hid (below_then HB2.out HB2.out.size hb)
        clear hb
        go_wp2_with fail
        go_ret
        exact ⟨rfl, HB3.out⟩
end Go.Proofs.Ytngdchahahabpaa
