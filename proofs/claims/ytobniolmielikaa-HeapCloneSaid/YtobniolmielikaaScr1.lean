/- The law's helpers items and distinct; no condition. -/
import Derived.Test.YtobniolmielikaaHeap12
import Derived.Test.YtobniolmielikaaRef12
namespace Go.Proofs.Ytobniolmielikaa
open Go.RowKit

/-- Where items stands. -/
structure ItmAt (ok : Nat → Prop) (w : World) (l : List It) (k : Nat) (W : World) : Prop where
  map : ObjMapO ok W w.heap.size (absI (l.take k))
  bel : Below w.heap.size w W

set_option maxHeartbeats 1000000 in
theorem items_any (ok : Nat → Prop) (w : World) (v : Value) (l : List It) (h : Raw ok w v l) (hd : (l.map (·.a)).Nodup) (ho : ∀ x ∈ l, ObAt ok w x.val x.o) (hok : ∀ k, ok k → k < w.heap.size) :
    Calls Try.prog 95 #[v] w fun e w' => ∃ b, e = .returned (.map (some b)) ∧ ObjMapO ok w' b (absI l) ∧ w.heap.size ≤ b ∧ Below w.heap.size w w' := by
  obtain ⟨A, c, rfl⟩ := h.shape
  have hlen := h.len
  have H := Lib.hid h
  have HO := Lib.hid ho
  have HD := Lib.hid hd
  have OK := Lib.hid hok
  clear h ho hd hok
  have hmm := @run_makeMap Try.prog
  go_enter Try.func95, Try.ntmps95
  go_wp2_with fail
  go_loopw [4] (fun i wr => ∃ k : Nat, k ≤ l.length ∧ i = .int .i64 k ∧ ItmAt ok w l k wr) (fun i _ => l.length - (intOf i).toNat)
  case atStart => exact ⟨0, Nat.zero_le _, rfl, ⟨⟨[], MapAt.made w, .nil⟩, (Below.refl _ _).alloc (Nat.le_refl _) _⟩⟩
  case round =>
    obtain ⟨k, hk, rfl, hm⟩ := hrel
    by_cases hlt : k < l.length
    · have hx := List.getElem?_eq_getElem hlt
      generalize l[k] = x at hx
      have hox := HO.out x (List.mem_of_getElem? hx)
      obtain ⟨b, o, rfl, hat⟩ := (H.out.fresh hm.bel).at hx
      have hnew : x.a ∉ (absI (l.take k)).map (·.1) := by
        intro hin
        simp only [absI, List.map_map, List.mem_map] at hin
        obtain ⟨y, hy, e⟩ := hin
        obtain ⟨j, hj⟩ := List.getElem?_of_mem hy
        rw [List.getElem?_take] at hj
        split at hj
        · rename_i hjk
          have hp := List.pairwise_iff_getElem.1 HD.out
          have hjl := (List.getElem?_eq_some_iff.1 hj).1
          refine hp j k (by simpa using hjl) (by simpa using hlt) hjk ?_
          have e1 := (List.getElem?_eq_some_iff.1 hj).2
          have e2 := (List.getElem?_eq_some_iff.1 hx).2
          simp only [List.getElem_map, e1, e2]
          exact e
        · cases hj
      have HM := Lib.hid hm
      have HX := Lib.hid hx
      have HNEW := Lib.hid hnew
      have HOX := Lib.hid (hox.fresh hm.bel)
      have i0 := (hat.keep (w' := wr.drew) rfl).all
      obtain ⟨L, hma, hka⟩ := hm.map
      have HMA := Lib.hid hma
      have HKA := Lib.hid hka
      have bne : b < w.heap.size ∨ w.heap.size ≤ b := by omega
      have hbw : b ≠ w.heap.size := by
        rintro rfl
        obtain ⟨es, cl, hes, _⟩ := hma
        have := hat.c0
        simp [World.cell?, hes] at this
      have i1 : ∀ w' : World, Turn (· = w.heap.size) wr.drew w' → _ := fun w' ht => (hat.keep (w' := w') ((ht.block b (World.block_lt_of_cell? wr ⟨b, o + k * 6, none⟩ hat.c0) hbw))).all
      obtain ⟨w6, hrun, hm6, ht6, hs6⟩ := run_update_map (P := Try.prog) (t := 52) (k := 3) (e := 25) Try.underlying52 Try.underlying3 hma.drew x.a (.agg #[.int .i64 x.o.op, .int .i64 x.o.n, .int .i64 x.o.ar, .slice x.ra x.o.refs.length x.rc, .slice x.wa x.o.words.length x.wc])
      have i2 := i1 w6 ht6
      have HM6 := Lib.hid hm6
      have HT6 := Lib.hid ht6
      have HS6 := Lib.hid hs6
      clear hm hx hat hox hnew hma hka i1 bne hm6 ht6 hs6
      go_upto_region 5 with (fail)
      go_region_held3 (fun w' => w'.cell? ⟨b, o + k * 6, none⟩ = some (.int .i64 x.a) ∧ w'.cell? ⟨b, o + k * 6 + 1, none⟩ = some (.int .i64 x.o.op) ∧ w'.cell? ⟨b, o + k * 6 + 2, none⟩ = some (.int .i64 x.o.n) ∧ w'.cell? ⟨b, o + k * 6 + 3, none⟩ = some (.int .i64 x.o.ar) ∧
          w'.cell? ⟨b, o + k * 6 + 4, none⟩ = some (.slice x.ra x.o.refs.length x.rc) ∧ w'.cell? ⟨b, o + k * 6 + 5, none⟩ = some (.slice x.wa x.o.words.length x.wc))
        (first | with_reducible exact i0 | with_reducible exact i2)
        (first | fail)
      clear i0 i2 hrun
      rename_i hHeld
      clear hHeld
      go_wp2_with fail
      go_roundw
      case rel =>
        have hnL : x.a ∉ L.map (·.1) := by rw [HKA.out.keys]; exact HNEW.out
        have hm := HM6.out
        rw [put_new hnL] at hm
        have hb := HM.out.bel
        refine ⟨k + 1, by omega, by go_num, ⟨⟨_, hm, ?_⟩, (HM.out.bel.drew).trans (HT6.out.below (by have := hb.size; simpa using this) (fun q e => by omega))⟩⟩
        rw [take_snoc HX.out]
        simp only [absI, List.map_append, List.map_cons, List.map_nil]
        have hno : ∀ q, ok q → ¬ q = w.heap.size := fun q hq e => by have := OK.out q hq; omega
        exact forall2_append (HKA.out.imp fun p q g => (g.fresh (Below.refl _ _).drew).turn HT6.out hno) (.cons ⟨rfl, (HOX.out.fresh (Below.refl _ _).drew).turn HT6.out hno⟩ .nil)
      case measure => simp [intOf]; omega
    · have he : k = l.length := by omega
      have hmp := hm.map
      rw [he, List.take_length] at hmp
      have HMP := Lib.hid hmp
      have HB := Lib.hid hm.bel
      clear he hmp hm
      go_wp2_with fail
      go_ret
      exact ⟨_, rfl, HMP.out, Nat.le_refl _, HB.out⟩
end Go.Proofs.Ytobniolmielikaa
