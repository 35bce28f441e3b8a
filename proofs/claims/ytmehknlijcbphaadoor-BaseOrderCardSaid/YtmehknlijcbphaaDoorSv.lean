/- The law's sameValue; no condition. -/
import Derived.Test.YtmehknlijcbphaaDoorAr1
import Derived.Deep.QuietTactic
import Derived.BigQuiet
import Derived.Deep.RegionHeld3
import Derived.Deep.CutRange
namespace Go.Proofs.YtmehknlijcbphaaDoor
open Go.RowKit

theorem box6 {W : World} {g : Nat} {a b c d e f : Value} {T : TypeId} (h : W.heap[g]? = some (.cells #[a, b, c, d, e, f] T)) : W.cell? ⟨g, 0, none⟩ = some a ∧ W.cell? ⟨g, 1, none⟩ = some b ∧ W.cell? ⟨g, 2, none⟩ = some c ∧ W.cell? ⟨g, 3, none⟩ = some d ∧ W.cell? ⟨g, 4, none⟩ = some e ∧ W.cell? ⟨g, 5, none⟩ = some f :=
  ⟨by simpa using cellsH h 0, by simpa using cellsH h 1, by simpa using cellsH h 2, by simpa using cellsH h 3, by simpa using cellsH h 4, by simpa using cellsH h 5⟩
set_option maxRecDepth 10000 in
set_option maxHeartbeats 4000000 in
theorem sameValue_any (ok ok' : Nat → Prop) (w : World) (u v : Value) (x : Val) (hu : ValAt ok w u x) (hv : ValAt ok' w v x) : Calls Tryd.prog 18 #[u, v] w fun e w' => e = .returned (.bool true) ∧ Below w.heap.size w w' := by
  obtain ⟨l, rfl, hl⟩ := hu
  obtain ⟨m, rfl, hm⟩ := hv
  obtain ⟨op, nm, n, exc⟩ := x
  dsimp only at hl hm ⊢
  cases exc with
  | none =>
    have el : l = .slice none 0 0 := hl
    have em : m = .slice none 0 0 := hm
    subst el em
    clear hl hm
    obtain ⟨X, hX⟩ : ∃ X : Obj, Obj.cells #[.int .i64 op, .string nm, .int .i64 n, .slice none 0 0, .bool false, .slice none 0 0] 35 = X := ⟨_, rfl⟩
    have HX := Lib.hid (show ((w.alloc X).alloc X).heap[w.heap.size]? = some (.cells #[.int .i64 op, .string nm, .int .i64 n, .slice none 0 0, .bool false, .slice none 0 0] 35) by rw [hX]; exact new20 _ _ _)
    have HY := Lib.hid (show ((w.alloc X).alloc X).heap[w.heap.size + 1]? = some (.cells #[.int .i64 op, .string nm, .int .i64 n, .slice none 0 0, .bool false, .slice none 0 0] 35) by rw [hX]; exact new21 _ _ _)
    have BW := Lib.hid (((Below.refl w.heap.size w).alloc (Nat.le_refl _) X).alloc (by simp) X)
    go_enter Tryd.func18, Tryd.ntmps18
    go_upto_region 1 with (fail)
    clear hX
    generalize (w.alloc X).alloc X = wx at *
    have cx := box6 HX.out
    have cy := box6 HY.out
    go_wp2_with fail
    go_loopw [58] (fun i W => i = .int .i64 0 ∧ W = wx) (fun _ _ => 0)
    case atStart => exact ⟨rfl, rfl⟩
    case round =>
      obtain ⟨rfl, rfl⟩ := hrel
      go_wp2_with fail
      obtain ⟨wz, hwz⟩ : ∃ W : World, W = wr := ⟨_, rfl⟩
      subst hwz
      go_loopw [78] (fun i W => i = .int .i64 0 ∧ W = wz) (fun _ _ => 0)
      case atStart => exact ⟨rfl, rfl⟩
      case round =>
        obtain ⟨rfl, hww⟩ := hrel
        subst hww
        go_wp2_with fail
        go_ret
        exact ⟨rfl, BW.out⟩
  | some p =>
    obtain ⟨s, k⟩ := p
    obtain ⟨g, el, -, h1, h2⟩ := hl
    obtain ⟨g', em, -, h3, h4⟩ := hm
    subst el em
    obtain ⟨X, hX⟩ : ∃ X : Obj, Obj.cells #[.int .i64 op, .string nm, .int .i64 n, .slice none 0 0, .bool false, .slice (some ⟨g, 0, none⟩) 1 1] 35 = X := ⟨_, rfl⟩
    obtain ⟨Y, hY⟩ : ∃ X : Obj, Obj.cells #[.int .i64 op, .string nm, .int .i64 n, .slice none 0 0, .bool false, .slice (some ⟨g', 0, none⟩) 1 1] 35 = X := ⟨_, rfl⟩
    have HX := Lib.hid (show ((w.alloc X).alloc Y).heap[w.heap.size]? = some (.cells #[.int .i64 op, .string nm, .int .i64 n, .slice none 0 0, .bool false, .slice (some ⟨g, 0, none⟩) 1 1] 35) by rw [hX]; exact new20 _ _ _)
    have HY := Lib.hid (show ((w.alloc X).alloc Y).heap[w.heap.size + 1]? = some (.cells #[.int .i64 op, .string nm, .int .i64 n, .slice none 0 0, .bool false, .slice (some ⟨g', 0, none⟩) 1 1] 35) by rw [hY]; exact new21 _ _ _)
    have BW := Lib.hid (((Below.refl w.heap.size w).alloc (Nat.le_refl _) X).alloc (by simp) Y)
    have HG := Lib.hid (old1 (old1 h2 X) Y)
    have HG' := Lib.hid (old1 (old1 h4 X) Y)
    clear h1 h2 h3 h4
    go_enter Tryd.func18, Tryd.ntmps18
    go_upto_region 1 with (fail)
    clear hX hY
    generalize (w.alloc X).alloc Y = wx at *
    have cx := box6 HX.out
    have cy := box6 HY.out
    have cg := cellsH HG.out
    have cg' := cellsH HG'.out
    go_wp2_with fail
    go_loopw [58] (fun i W => i = .int .i64 0 ∧ W = wx) (fun _ _ => 0)
    case atStart => exact ⟨rfl, rfl⟩
    case round =>
      obtain ⟨rfl, rfl⟩ := hrel
      clear cg cg'
      go_wp2_with fail
      obtain ⟨wz, hwz⟩ : ∃ W : World, W = wr := ⟨_, rfl⟩
      subst hwz
      go_loopw [78] (fun i W => ∃ k : Nat, k ≤ 1 ∧ i = .int .i64 k ∧ Below wz.heap.size wz W) (fun i _ => 1 - (intOf i).toNat)
      case atStart => exact ⟨0, by omega, rfl, Below.refl _ _⟩
      case round =>
        obtain ⟨q, hq, rfl, hb⟩ := hrel
        have HBl := Lib.hid hb
        have cx := box6 (rowB hb HX.out (heap_lt HX.out))
        have cy := box6 (rowB hb HY.out (heap_lt HY.out))
        have cg := cellsH (rowB hb HG.out (heap_lt HG.out))
        have cg' := cellsH (rowB hb HG'.out (heap_lt HG'.out))
        have zb := hb.size
        by_cases hq0 : q = 0
        · subst hq0
          clear hb
          go_upto_region 12 with (fail)
          go_quiet (fail)
          go_wp2_with fail
          go_roundw
          case rel => exact ⟨1, by omega, by go_num, below_drewN HBl.out _⟩
          case measure => simp [intOf]
        · have he : q = 1 := by omega
          subst he
          have BE := Lib.hid (below_then BW.out BW.out.size hb)
          clear hb hq0 hq
          go_wp2_with fail
          go_ret
          exact ⟨rfl, BE.out⟩
end Go.Proofs.YtmehknlijcbphaaDoor
