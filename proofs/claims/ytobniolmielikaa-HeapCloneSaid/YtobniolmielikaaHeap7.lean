/- Contracts of the heap's methods Old, Count, Limits; no condition. -/
import Derived.Test.YtobniolmielikaaHeap6
namespace Go.Proofs.Ytobniolmielikaa
open Go.RowKit

set_option maxHeartbeats 400000 in
theorem old_any (w : World) (h y a : Nat) (H : HM) (k : Int) (hh : HeapAt w h y a H) :
    Calls Try.prog 27 #[.pointer (some ⟨h, 0, none⟩), .int .i64 k] w fun e w' => e = .returned (.bool (Go.Proofs.Ytobniolmielikaa.get H.la k).isSome) ∧ Below w.heap.size w w' := by
  have hlt := heap_lt hh.row
  have c := cellsH hh.row
  have c0 : w.cell? ⟨h, 0, none⟩ = some (.map (some y)) := c 0
  have c1 : w.cell? ⟨h, 1, none⟩ = some (.map (some a)) := c 1
  clear c
  have M := Lib.hid (made_any h y w c0)
  clear c0
  obtain ⟨la, hma, hka⟩ := hh.old
  clear hh
  have la1 := fun p => run_lookup_map (P := Try.prog) (t := 52) (k := 3) (e := 25) Try.underlying52 Try.underlying3 (zero25 _) (hma.alloc p) k true
  have la0 := run_lookup_map (P := Try.prog) (t := 52) (k := 3) (e := 25) Try.underlying52 Try.underlying3 (zero25 _) hma k true
  rcases hka.get k with ⟨g3, g4⟩ | ⟨v, o, g3, g4, hv⟩
  · have HG := Lib.hid g4
    simp only [g3, Option.getD_none, Option.isSome_none] at la1 la0
    clear hma hka g3 g4
    go_enter Try.func27, Try.ntmps27
    go_wp2_with fail
    refine M.out.mono ?_
    rintro e w1 ⟨rfl, rfl⟩
    go_wp2_with fail
    go_ret
    exact ⟨by rw [HG.out]; rfl, (Below.refl _ _).alloc (Nat.le_refl _) _⟩
  · obtain ⟨ra, rc, wa, wc, rfl⟩ := hv.open
    have HG := Lib.hid g4
    simp only [g3, Option.getD_some, Option.isSome_some] at la1 la0
    clear hma hka g3 g4 hv
    go_enter Try.func27, Try.ntmps27
    go_wp2_with fail
    refine M.out.mono ?_
    rintro e w1 ⟨rfl, rfl⟩
    go_wp2_with fail
    go_ret
    exact ⟨by rw [HG.out]; rfl, (Below.refl _ _).alloc (Nat.le_refl _) _⟩

set_option maxHeartbeats 400000 in
theorem count_any (w : World) (h y a : Nat) (H : HM) (hh : HeapAt w h y a H) :
    Calls Try.prog 32 #[.pointer (some ⟨h, 0, none⟩)] w fun e w' => e = .returned (.tuple #[.int .i64 H.ly.length, .int .i64 H.la.length]) ∧ ∃ n, w' = w.drewN n := by
  obtain ⟨ly, hm, hk⟩ := hh.young
  obtain ⟨la, hm2, hk2⟩ := hh.old
  have hl := hk.length
  have hl2 := hk2.length
  have c := cellsH hh.row
  have c0 : w.cell? ⟨h, 0, none⟩ = some (.map (some y)) := c 0
  have c1 : w.cell? ⟨h, 1, none⟩ = some (.map (some a)) := c 1
  have M := Lib.hid (made_any h y w c0)
  rw [← hl, ← hl2]
  clear hl hk hl2 hk2 hh c
  have hlen := fun n ty => run_len_map (P := Try.prog) (k := 3) (e := 25) Try.underlying52 (hm.drewN n) ty
  have hlen0 := fun ty => run_len_map (P := Try.prog) (k := 3) (e := 25) Try.underlying52 hm ty
  have hlen2 := fun n ty => run_len_map (P := Try.prog) (k := 3) (e := 25) Try.underlying52 (hm2.drewN n) ty
  have hlen3 := fun ty => run_len_map (P := Try.prog) (k := 3) (e := 25) Try.underlying52 hm2 ty
  clear hm hm2
  go_enter Try.func32, Try.ntmps32
  go_wp2_with fail
  refine M.out.mono ?_
  rintro e w' ⟨rfl, rfl⟩
  go_wp2_with fail
  go_quiet (fail)
  go_wp2_with fail
  go_ret2
  exact ⟨rfl, nq, rfl⟩

set_option maxHeartbeats 400000 in
theorem limits_any (w : World) (h y a : Nat) (H : HM) (hh : HeapAt w h y a H) :
    Calls Try.prog 33 #[.pointer (some ⟨h, 0, none⟩)] w fun e w' => e = .returned (.tuple #[.int .i64 H.nur, .int .i64 H.eld]) ∧ ∃ n, w' = w.drewN n := by
  have c := cellsH hh.row
  have c0 : w.cell? ⟨h, 0, none⟩ = some (.map (some y)) := c 0
  have c2 : w.cell? ⟨h, 2, none⟩ = some (.int .i64 H.nur) := c 2
  have c3 : w.cell? ⟨h, 3, none⟩ = some (.int .i64 H.eld) := c 3
  have M := Lib.hid (made_any h y w c0)
  clear hh c
  go_enter Try.func33, Try.ntmps33
  go_wp2_with fail
  refine M.out.mono ?_
  rintro e w' ⟨rfl, rfl⟩
  go_wp2_with fail
  go_quiet (fail)
  go_wp2_with fail
  go_ret2
  exact ⟨rfl, nq, rfl⟩
end Go.Proofs.Ytobniolmielikaa
