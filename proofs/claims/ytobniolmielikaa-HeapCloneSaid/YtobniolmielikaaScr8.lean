/- The law's helper run; no condition. -/
import Derived.Test.YtobniolmielikaaScr7
namespace Go.Proofs.Ytobniolmielikaa
open Go.RowKit

theorem OpOk.up {B B' : Nat} {w : World} {p : Opn} (h : OpOk B w p) (hb : B ≤ B') : OpOk B' w p :=
  ⟨h.ob.mono (fun _ _ h => Nat.lt_of_lt_of_le h hb), h.n.mono (fun _ _ h => Nat.lt_of_lt_of_le h hb), h.l.mono (fun _ _ h => Nat.lt_of_lt_of_le h hb), fun x hx => (h.its x hx).mono (fun _ _ h => Nat.lt_of_lt_of_le h hb)⟩
theorem Ops.up {B B' : Nat} {w : World} {v : Value} {l : List Opn} (h : Ops B w v l) (hb : B ≤ B') : Ops B' w v l := by
  obtain ⟨A, cap, rfl, h1, h2, h3, h4, h5⟩ := h
  refine ⟨A, cap, rfl, h1, h2, fun h0 => ?_, fun p hp => (h4 p hp).up hb, h5⟩
  obtain ⟨b, o, rfl, hl, hc⟩ := h3 h0
  exact ⟨b, o, rfl, by omega, hc⟩
theorem bndB_all {l : List Opn} (h : bndB l = true) : l.length ≤ 60 ∧ ∀ p ∈ l, okOp p = true := by
  simp only [bndB, Bool.and_eq_true, decide_eq_true_eq] at h
  exact ⟨h.1, List.all_eq_true.1 h.2⟩

/-- What run leaves. -/
def Ran (B : Nat) (n m : Int) (e : Ending) (w' : World) : Prop :=
  (newOk n m = false ∧ e = .returned (.tuple #[.pointer none, .pointer none, .bool true])) ∨
  ∃ h y a r NV AV H R, e = .returned (.tuple #[.pointer (some ⟨h, 0, none⟩), .pointer (some ⟨r, 0, none⟩), .bool true]) ∧ Two B w' h y a r NV AV H R ∧ Rel 60 H R.abs

theorem Rel.to60 {k : Nat} {H G : HM} (h : Rel k H G) (hk : k ≤ 60) : Rel 60 H G := { h with hi := by have := h.hi; omega }

set_option maxHeartbeats 4000000 in
theorem run_any (w : World) (n m : Int) (v : Value) (l : List Opn) (h : Ops w.heap.size w v l) (hb : bndB l = true) :
    Calls Try.prog 24 #[.agg #[.int .i64 n, .int .i64 m, v]] w fun e w' => Ran (w.heap.size + 1) n m e w' ∧ Below w.heap.size w w' := by
  obtain ⟨A, c, rfl⟩ := h.shape
  obtain ⟨hlen, hok⟩ := bndB_all hb
  have b0 : Below (w.heap.size + 1) (w.alloc (.cells #[.int .i64 n, .int .i64 m, .slice A l.length c] 41)) (w.alloc (.cells #[.int .i64 n, .int .i64 m, .slice A l.length c] 41)) := Below.refl _ _
  have bw : Below w.heap.size w (w.alloc (.cells #[.int .i64 n, .int .i64 m, .slice A l.length c] 41)) := (Below.refl _ _).alloc (Nat.le_refl _) _
  have x0 := new0 w (.cells #[.int .i64 n, .int .i64 m, .slice A l.length c] 41)
  have OPS := Lib.hid ((h.below bw).up (Nat.le_succ _))
  have HOK := Lib.hid hok
  have z0 : (w.alloc (.cells #[.int .i64 n, .int .i64 m, .slice A l.length c] 41)).heap.size = w.heap.size + 1 := by simp
  have BW := Lib.hid bw
  have X0 := Lib.hid x0
  have c0 := cellsH x0
  clear h hb hok b0 bw x0
  go_enter Try.func24, Try.ntmps24
  go_upto_region 1 with (fail)
  generalize w.alloc (.cells #[.int .i64 n, .int .i64 m, .slice A l.length c] 41) = w0 at *
  cases hn : newOk n m with
  | false =>
    have HN := Lib.hid hn
    clear hn
    go_wp2_with fail
    refine (new_no n m _ HN.out).mono ?_
    rintro e w1 ⟨rfl, rfl⟩
    go_wp2_with fail
    refine (rnew_no n m _ HN.out).mono ?_
    rintro e w2 ⟨rfl, rfl⟩
    go_wp2_with fail
    go_loopw [5, 7, 9] (fun u5 u7 u9 wr => u5 = .pointer none ∧ u7 = .pointer none ∧ u9 = .int .i64 0 ∧ wr.heap[w.heap.size]? = some (.cells #[.int .i64 n, .int .i64 m, .slice A l.length c] 41) ∧ Below w.heap.size w wr) (fun _ _ _ _ => 0)
    case atStart => exact ⟨rfl, rfl, rfl, X0.out, BW.out⟩
    case round =>
      obtain ⟨rfl, rfl, rfl, hx, hb⟩ := hrel
      have HB := Lib.hid hb
      have cx := cellsH hx
      clear hx hb c0
      by_cases hl : 0 < l.length
      · go_wp2_with fail
        go_ret3
        exact ⟨.inl ⟨HN.out, rfl⟩, HB.out⟩
      · go_wp2_with fail
        go_ret3
        exact ⟨.inl ⟨HN.out, rfl⟩, HB.out⟩
  | true =>
    have HN := Lib.hid hn
    clear hn
    go_wp2_with fail
    refine (new_yes n m _ HN.out).mono ?_
    rintro e w1 ⟨h, y, a, rfl, hp, g1, g2, g3, hb1⟩
    have P1 := Lib.hid hp
    have B1 := Lib.hid (hb1.mono (show w.heap.size + 1 ≤ w0.heap.size by omega))
    have x1 := rowB hb1 X0.out (heap_lt X0.out)
    have X1 := Lib.hid x1
    have c1 := cellsH x1
    have z1 := hb1.size
    clear hp hb1 x1 c0
    go_wp2_with fail
    refine (rnew_yes (w.heap.size + 1) n m _ HN.out).mono ?_
    rintro e w2 ⟨r, NV, AV, rfl, hq, g4, hb2⟩
    have T2 := Lib.hid (show Two (w.heap.size + 1) w2 h y a r NV AV ⟨n, m, 0, [], []⟩ ⟨n, m, 0, [], []⟩ from ⟨P1.out.fresh hb2, hq, by omega, by omega, by omega, by omega⟩)
    have B2 := Lib.hid (B1.out.trans (hb2.mono (show w.heap.size + 1 ≤ w1.heap.size by omega)))
    have x2 := rowB hb2 X1.out (heap_lt X1.out)
    have X2 := Lib.hid x2
    have z2 := hb2.size
    clear hq hb2 x2 c1
    go_wp2_with fail
    go_loopw [5, 7, 9] (fun u5 u7 u9 wr => ∃ (k h y a r : Nat) (NV AV : Value) (H : HM) (R : RM), k ≤ l.length ∧ u5 = .pointer (some ⟨h, 0, none⟩) ∧ u7 = .pointer (some ⟨r, 0, none⟩) ∧ u9 = .int .i64 k ∧ Two (w.heap.size + 1) wr h y a r NV AV H R ∧ Rel k H R.abs ∧ Below (w.heap.size + 1) w0 wr) (fun _ _ i _ => l.length - (intOf i).toNat)
    case atStart => exact ⟨0, h, y, a, r, NV, AV, _, _, Nat.zero_le _, rfl, rfl, rfl, T2.out, rel_new HN.out, B2.out⟩
    case round =>
      obtain ⟨k, h, y, a, r, NV, AV, H, R, hk, rfl, rfl, rfl, ht, hr, hb⟩ := hrel
      have hx := rowB hb X0.out (by omega)
      have HB := Lib.hid hb
      have HT := Lib.hid ht
      have HR := Lib.hid hr
      have cx := cellsH hx
      have hsz := hb.size
      clear hx ht hr
      by_cases hlt : k < l.length
      · obtain ⟨p, hp⟩ : ∃ p, l[k]? = some p := ⟨_, List.getElem?_eq_getElem hlt⟩
        obtain ⟨b, o, rfl, hat, hop⟩ := (OPS.out.below hb).at hp
        obtain ⟨d0, d1, d2, d3, d4, d5, d6, d7, d8⟩ := hat
        have hokp := HOK.out p (List.mem_of_getElem? hp)
        have HA := Lib.hid (apply_any (w.heap.size + 1) k wr h y a r NV AV H R p HT.out HR.out (by omega) hop (by omega) hokp)
        clear hp hop hokp hb
        go_wp2_with fail
        refine HA.out.mono ?_
        rintro e w3 ⟨⟨h', y', a', r', NV', AV', H', R', rfl, t3, r3⟩, hb3⟩
        have T3 := Lib.hid t3
        have R3 := Lib.hid r3
        have B3 := Lib.hid (HB.out.trans hb3)
        clear t3 r3 hb3 d0 d1 d2 d3 d4 d5 d6 d7 d8 cx
        go_wp2_with fail
        go_roundw
        case rel => exact ⟨k + 1, h', y', a', r', NV', AV', H', R', by omega, rfl, rfl, by go_num, T3.out, R3.out, B3.out⟩
        case measure => simp [intOf]; omega
      · clear hb
        go_wp2_with fail
        go_ret3
        exact ⟨.inr ⟨h, y, a, r, NV, AV, H, R, rfl, HT.out, HR.out.to60 (by omega)⟩, BW.out.trans (HB.out.mono (by omega))⟩
end Go.Proofs.Ytobniolmielikaa
