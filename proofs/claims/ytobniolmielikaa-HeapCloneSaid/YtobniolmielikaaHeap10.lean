/- The contract of the heap's Clone; no condition. -/
import Derived.Test.YtobniolmielikaaHeap9
import Derived.Deep.RegionHeld3
import Derived.Deep.CutRange
namespace Go.Proofs.Ytobniolmielikaa
open Go.RowKit

theorem HeapAt.drew {w : World} {h y a : Nat} {H : HM} (hh : HeapAt w h y a H) : HeapAt w.drew h y a H := ⟨hh.row, hh.young, hh.old, hh.ne⟩
theorem HeapAt.drewN {w : World} {h y a : Nat} {H : HM} (hh : HeapAt w h y a H) (n : Nat) : HeapAt (w.drewN n) h y a H := ⟨hh.row, hh.young, hh.old, hh.ne⟩
theorem HeapAt.alloc {w : World} {h y a : Nat} {H : HM} (hh : HeapAt w h y a H) (o : Obj) : HeapAt (w.alloc o) h y a H := hh.fresh ((Below.refl _ _).alloc (Nat.le_refl _) _)
theorem HeapAt.reYoung {w w' : World} {h y a : Nat} {H : HM} {l : List (Int × Ob)} (hh : HeapAt w h y a H) (ht : Turn (· = y) w w') (hm : ObjMap w' y l) : HeapAt w' h y a { H with ly := l } :=
  ⟨rowT ht hh.row hh.hy, hm, hh.old.turn ht (fun e => hh.ne e.symm) (fun _ hk e => hh.young.notRow (e ▸ hk)), hh.ne⟩
theorem HeapAt.reOld {w w' : World} {h y a : Nat} {H : HM} {l : List (Int × Ob)} (hh : HeapAt w h y a H) (ht : Turn (· = a) w w') (hm : ObjMap w' a l) : HeapAt w' h y a { H with la := l } :=
  ⟨rowT ht hh.row hh.ha, hh.young.turn ht hh.ne (fun _ hk e => hh.old.notRow (e ▸ hk)), hm, hh.ne⟩
theorem HeapAt.cells {w : World} {h y a : Nat} {H : HM} (hh : HeapAt w h y a H) : w.cell? ⟨h, 0, none⟩ = some (.map (some y)) ∧ w.cell? ⟨h, 1, none⟩ = some (.map (some a)) ∧ w.cell? ⟨h, 2, none⟩ = some (.int .i64 H.nur) ∧ w.cell? ⟨h, 3, none⟩ = some (.int .i64 H.eld) ∧ w.cell? ⟨h, 4, none⟩ = some (.int .i64 H.next) := by
  have c := cellsH hh.row
  exact ⟨c 0, c 1, c 2, c 3, c 4⟩
theorem HeapAt.lt {w : World} {h y a : Nat} {H : HM} (hh : HeapAt w h y a H) : h < w.heap.size ∧ y < w.heap.size ∧ a < w.heap.size := ⟨heap_lt hh.row, hh.young.lt, hh.old.lt⟩
/-- What may stand as a key. -/
def KeysIn (m : List (Int × Ob)) : Prop := ∀ p ∈ m, 0 ≤ p.1 ∧ p.1 < 9223372036854775807

set_option maxHeartbeats 1000000 in
theorem clone39_any (w : World) (h y a : Nat) (H : HM) (hh : HeapAt w h y a H) (hky : KeysIn H.ly) (hka : KeysIn H.la) :
    Calls Try.prog 30 #[.pointer (some ⟨h, 0, none⟩)] w fun e w' => ∃ h' y' a' ly la, e = .returned (.pointer (some ⟨h', 0, none⟩)) ∧ HeapAt w' h' y' a' ⟨H.nur, H.eld, H.next, ly, la⟩ ∧ ly.Perm H.ly ∧ la.Perm H.la ∧
      w.heap.size ≤ h' ∧ w.heap.size ≤ y' ∧ w.heap.size ≤ a' ∧ Below w.heap.size w w' := by
  obtain ⟨hl1, hl2, hl3⟩ := hh.lt
  obtain ⟨c0, c1, c2, c3, c4⟩ := hh.cells
  have M := Lib.hid (made_any h y w c0)
  have HH := Lib.hid hh
  have KY := Lib.hid hky
  have KA := Lib.hid hka
  clear hh hky hka
  have hmm := @run_makeMap Try.prog
  go_enter Try.func30, Try.ntmps30
  go_wp2_with fail
  refine M.out.mono ?_
  rintro e w1 ⟨rfl, rfl⟩
  go_upto_region 3 with (fail)
  go_cut [3] from 7 to 22 (fun s wx => ∃ h' y' a', s = .pointer (some ⟨h', 0, none⟩) ∧ HeapAt wx h' y' a' ⟨H.nur, H.eld, H.next, [], []⟩ ∧ HeapAt wx h y a H ∧ w1.heap.size ≤ h' ∧ w1.heap.size ≤ y' ∧ w1.heap.size ≤ a' ∧ Below w1.heap.size w1 wx)
  case first =>
    go_region_held3 (fun w' => w'.cell? ⟨h, 2, none⟩ = some (.int .i64 H.nur) ∧ w'.cell? ⟨h, 3, none⟩ = some (.int .i64 H.eld) ∧ w'.cell? ⟨h, 4, none⟩ = some (.int .i64 H.next)) (first | exact ⟨c2, c3, c4⟩ | exact ⟨cellAlloc c2 _, cellAlloc c3 _, cellAlloc c4 _⟩ | exact ⟨cellAlloc (cellAlloc c2 _) _, cellAlloc (cellAlloc c3 _) _, cellAlloc (cellAlloc c4 _) _⟩ | exact ⟨cellAlloc (cellAlloc (cellAlloc c2 _) _) _, cellAlloc (cellAlloc (cellAlloc c3 _) _) _, cellAlloc (cellAlloc (cellAlloc c4 _) _) _⟩) (first | fail)
    · go_wp2_with fail
      go_meet
      case rel =>
        refine ⟨_, w1.heap.size, w1.heap.size + 1, rfl, ⟨new32 _ _ _ _, ⟨[], (((MapAt.made w1).alloc _).alloc _), .nil⟩, ⟨[], ?_, .nil⟩, by omega⟩, (((HH.out.alloc _).alloc _).alloc _).drew, by omega, by omega, by omega, ((((Below.refl w1.heap.size w1).alloc (Nat.le_refl _) _).alloc (by simp) _).alloc (by simp <;> omega) _).drew⟩
        have := (MapAt.made (w1.alloc (.map #[] 0))).alloc (.cells #[.map (some w1.heap.size), .map (some (w1.heap.size + 1)), .int .i64 H.nur, .int .i64 H.eld, .int .i64 H.next] 54)
        exact MapAt.drew (by simpa using this)
    · go_wp2_with fail
      go_meet
      case rel =>
        refine ⟨_, w1.heap.size + 1, w1.heap.size, rfl, ⟨new32 _ _ _ _, ⟨[], ?_, .nil⟩, ⟨[], (((MapAt.made w1).alloc _).alloc _), .nil⟩, by omega⟩, (((HH.out.alloc _).alloc _).alloc _).drew, by omega, by omega, by omega, ((((Below.refl w1.heap.size w1).alloc (Nat.le_refl _) _).alloc (by simp) _).alloc (by simp <;> omega) _).drew⟩
        have := (MapAt.made (w1.alloc (.map #[] 0))).alloc (.cells #[.map (some (w1.heap.size + 1)), .map (some w1.heap.size), .int .i64 H.nur, .int .i64 H.eld, .int .i64 H.next] 54)
        exact MapAt.drew (by simpa using this)
  case rest =>
    obtain ⟨h', y', a', rfl, hn, hh, z1, z2, z3, hb⟩ := hcut
    have HN := Lib.hid hn
    have HH1 := Lib.hid hh
    have HB1 := Lib.hid hb
    obtain ⟨d0, -, -, -, -⟩ := hn.cells
    obtain ⟨e0, -, -, -, -⟩ := hh.cells
    clear hn hh hb HH c0 c1 c2 c3 c4
    go_upto_region 4 with (fail)
    go_region_held3 (fun w' => w'.cell? ⟨h', 0, none⟩ = some (.map (some y')) ∧ w'.cell? ⟨h, 0, none⟩ = some (.map (some y))) (first | exact ⟨d0, e0⟩ | exact ⟨dd0, ee0⟩)
      (first | (go_at_call 65; refine (refill_any _ y' y [] H.ly HN.out.drew.young HH1.out.drew.young (by omega) KY.out).mono ?_; rintro e w2 ⟨rfl, ly, hpy, hmy, hty⟩; have HPY := Lib.hid hpy; have HN2 := Lib.hid (HeapAt.reYoung HN.out.drew hty hmy); have HH2 := Lib.hid (HeapAt.turn HH1.out.drew hty (by omega) (by omega) (by omega) (fun k hk e => HN.out.young.notRow (e ▸ hk))); have HB2 := Lib.hid (HB1.out.drew.trans (hty.below (by have := HB1.out.size; simpa using this) (fun k e => by omega))); obtain ⟨dd0, dd1, -, -, -⟩ := HN2.out.cells; obtain ⟨ee0, ee1, -, -, -⟩ := HH2.out.cells; clear hpy hmy hty))
    clear d0 e0 dd0 ee0 HN HH1 HB1
    rename_i hHeld
    clear hHeld
    go_upto_region 5 with (fail)
    go_region_held3 (fun w' => w'.cell? ⟨h', 1, none⟩ = some (.map (some a')) ∧ w'.cell? ⟨h, 1, none⟩ = some (.map (some a))) (first | exact ⟨dd1, ee1⟩ | exact ⟨dd2, ee2⟩)
      (first | (go_at_call 65; refine (refill_any _ a' a [] H.la HN2.out.drew.old HH2.out.drew.old (by omega) KA.out).mono ?_; rintro e w3 ⟨rfl, la, hpa, hma, hta⟩; have HPA := Lib.hid hpa; have HN3 := Lib.hid (HeapAt.reOld HN2.out.drew hta hma); have HB3 := Lib.hid (HB2.out.drew.trans (hta.below (by have := HB2.out.size; simpa using this) (fun k e => by omega))); have HH3 := Lib.hid (HeapAt.turn HH2.out.drew hta (by omega) (by omega) (by omega) (fun k hk e => HN2.out.old.notRow (e ▸ hk))); obtain ⟨-, dd2, -, -, -⟩ := HN3.out.cells; obtain ⟨-, ee2, -, -, -⟩ := HH3.out.cells; clear hpa hma hta))
    go_wp2_with fail
    go_ret
    exact ⟨h', y', a', ly, la, rfl, HN3.out, HPY.out, HPA.out, z1, z2, z3, HB3.out⟩
end Go.Proofs.Ytobniolmielikaa
