/- The walk of the law HeapScript; no condition. -/
import Derived.Test.YtobniolmielikaaAdr5
namespace Go.Proofs.Ytobniolmielikaa
open Go.RowKit

set_option maxHeartbeats 4000000 in
theorem heapScript_law (w : World) (n m : Int) (v : Value) (l : List Opn) (h : Ops w.heap.size w v l) :
    Calls Try.prog 6 #[.agg #[.int .i64 n, .int .i64 m, v]] w fun e w' => e = .returned (.bool true) ∧ Below w.heap.size w w' := by
  obtain ⟨A, c, rfl⟩ := h.shape
  have HS := Lib.hid h
  have bw : Below w.heap.size w (w.alloc (.cells #[.int .i64 n, .int .i64 m, .slice A l.length c] 41)) := (Below.refl _ _).alloc (Nat.le_refl _) _
  have BW := Lib.hid bw
  have x0 := new0 w (.cells #[.int .i64 n, .int .i64 m, .slice A l.length c] 41)
  have X0 := Lib.hid x0
  have c0 := cellsH x0
  have z0 := bw.size
  clear h bw x0
  go_enter Try.func6, Try.ntmps6
  go_upto_region 1 with (fail)
  generalize w.alloc (.cells #[.int .i64 n, .int .i64 m, .slice A l.length c] 41) = w0 at *
  go_wp2_with fail
  refine (bounded_any w.heap.size _ n m _ l (HS.out.below BW.out) z0).mono ?_
  rintro e w1 ⟨rfl, hb⟩
  have B1 := Lib.hid (below_then BW.out z0 hb)
  have x1 := rowB hb X0.out (heap_lt X0.out)
  have c1 := cellsH x1
  have z1 := B1.out.size
  clear hb c0 x1
  cases hbd : bndB l with
  | false =>
    clear hbd
    go_wp2_with fail
    refine (example_any _).mono ?_
    rintro e w2 ⟨rfl, hb⟩
    have B2 := Lib.hid (below_then B1.out z1 hb)
    clear hb
    go_wp2_with fail
    go_ret
    exact ⟨rfl, B2.out⟩
  | true =>
    have BD := Lib.hid hbd
    clear hbd
    go_wp2_with fail
    refine (run_any _ n m _ l ((HS.out.below B1.out).up z1) BD.out).mono ?_
    rintro e w2 ⟨hran, hb⟩
    have B2 := Lib.hid (below_then B1.out z1 hb)
    have z2 := hb.size
    clear hb c1
    rcases hran with ⟨-, rfl⟩ | ⟨h, y, a, r, NV, AV, H, R, rfl, ht, hr⟩
    · go_wp2_with fail
      refine (example_any _).mono ?_
      rintro e w3 ⟨rfl, hb⟩
      have B3 := Lib.hid (below_then B2.out B2.out.size hb)
      clear hb
      go_wp2_with fail
      go_ret
      exact ⟨rfl, B3.out⟩
    · have T2 := Lib.hid ht
      have RL := Lib.hid hr
      clear ht hr
      go_wp2_with fail
      refine (agree_any _ _ h y a r NV AV H R T2.out RL.out).mono ?_
      rintro e w3 ⟨rfl, hb⟩
      have B3 := Lib.hid (below_then B2.out B2.out.size hb)
      clear hb
      go_wp2_with fail
      refine (example_any _).mono ?_
      rintro e w4 ⟨rfl, hb⟩
      have B4 := Lib.hid (below_then B3.out B3.out.size hb)
      clear hb
      go_wp2_with fail
      go_ret
      exact ⟨rfl, B4.out⟩
end Go.Proofs.Ytobniolmielikaa
