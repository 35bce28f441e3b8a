/- Both checks compute the same; no condition. -/
import Derived.Test.YtngdchahahabpaaCost1
namespace Go.Proofs.Ytngdchahahabpaa
open Go.RowKit

theorem info3 : (Try.prog.info? 3).map (fun i => (i.zero, i.size, i.bytes)) = some (some (.int .i64 0), 1, 8) := by kernel_rfl

/-- What a check answers: the states of the thunks, the last step, the events to come. -/
def chk : List Int → Int → List Ev → Int
  | _, _, [] => 0
  | xs, last, e :: r =>
    if e.op < 1 ∨ 7 < e.op ∨ e.step < 0 then 1 else if e.step < last then 39 else
    if e.op = 1 then (if e.id = xs.length then chk (xs ++ [0]) e.step r else 39) else
    if e.id < 0 ∨ xs.length ≤ e.id then 39 else
    if (mv (xs.getD e.id.toNat 0) e.op).2 = true then chk (xs.set e.id.toNat (mv (xs.getD e.id.toNat 0) e.op).1) e.step r else 36

/-- Where a check stands after k events. -/
structure CkAt (l : List Ev) (w : World) (k : Nat) (xs : List Int) (last : Int) (st : Value) (wr : World) : Prop where
  le : k ≤ l.length
  own : wr.ownsRow w.heap.size 3 1 st xs.length (xs.map (Value.int .i64))
  bel : Below w.heap.size w wr
  few : xs.length ≤ k
  eq : chk [] 0 l = chk xs last (l.drop k)

theorem CkAt.step {l : List Ev} {w wr : World} {k : Nat} {xs : List Int} {last : Int} {st : Value} (h : CkAt l w k xs last st wr) (hlt : k < l.length) {e : Ev} (he : l[k] = e) : chk [] 0 l = chk xs last (e :: l.drop (k + 1)) := by
  rw [h.eq, ← he, List.drop_eq_getElem_cons hlt]
theorem chk_bad {xs : List Int} {last op id step : Int} {r : List Ev} (h : op < 1 ∨ 7 < op ∨ step < 0) : chk xs last (⟨op, id, step⟩ :: r) = 1 := by simp [chk, h]
theorem chk_late {xs : List Int} {last op id step : Int} {r : List Ev} (h : ¬ (op < 1 ∨ 7 < op ∨ step < 0)) (h2 : step < last) : chk xs last (⟨op, id, step⟩ :: r) = 39 := by simp [chk, h, h2]
theorem chk_new {xs : List Int} {last id step : Int} {r : List Ev} (h : ¬ step < 0) (h2 : ¬ step < last) (h3 : id = xs.length) : chk xs last (⟨1, id, step⟩ :: r) = chk (xs ++ [0]) step r := by simp [chk, h, h2, h3]
theorem chk_newBad {xs : List Int} {last id step : Int} {r : List Ev} (h : ¬ step < 0) (h2 : ¬ step < last) (h3 : id ≠ xs.length) : chk xs last (⟨1, id, step⟩ :: r) = 39 := by simp [chk, h, h2, h3]
theorem chk_out {xs : List Int} {last op id step : Int} {r : List Ev} (h : ¬ (op < 1 ∨ 7 < op ∨ step < 0)) (h2 : ¬ step < last) (h3 : op ≠ 1) (h4 : id < 0 ∨ xs.length ≤ id) : chk xs last (⟨op, id, step⟩ :: r) = 39 := by simp [chk, h, h2, h3, h4]
theorem chk_in {xs : List Int} {last op id step : Int} {r : List Ev} (h : ¬ (op < 1 ∨ 7 < op ∨ step < 0)) (h2 : ¬ step < last) (h3 : op ≠ 1) (h4 : ¬ (id < 0 ∨ xs.length ≤ id)) {s n : Int} {b : Bool} (hs : xs.getD id.toNat 0 = s) (hm : mv s op = (n, b)) :
    chk xs last (⟨op, id, step⟩ :: r) = if b = true then chk (xs.set id.toNat n) step r else 36 := by
  have e : chk xs last (⟨op, id, step⟩ :: r) = (if op < 1 ∨ 7 < op ∨ step < 0 then 1 else if step < last then 39 else if op = 1 then (if id = xs.length then chk (xs ++ [0]) step r else 39) else if id < 0 ∨ xs.length ≤ id then 39 else
    if (mv (xs.getD id.toNat 0) op).2 = true then chk (xs.set id.toNat (mv (xs.getD id.toNat 0) op).1) step r else 36) := rfl
  rw [e, if_neg h, if_neg h2, if_neg h3, if_neg h4, hs, hm]
theorem own_shape {w : World} {base : Nat} {e : TypeId} {size n : Nat} {v : Value} {xs : List Value} (h : w.ownsRow base e size v n xs) : ∃ A c, v = .slice A n c := by
  rcases h.2 with ⟨rfl, rfl⟩ | ⟨g, cap, cur, rfl, _⟩
  · exact ⟨none, 0, rfl⟩
  · exact ⟨_, cap, rfl⟩
theorem own_some {w : World} {base : Nat} {e : TypeId} {size n : Nat} {v : Value} {xs : List Value} (h : w.ownsRow base e size v n xs) (h0 : 0 < n) : ∃ g c, v = .slice (some ⟨g, 0, none⟩) n c ∧ base ≤ g := by
  rcases h.2 with ⟨rfl, rfl⟩ | ⟨g, cap, cur, rfl, hb, _⟩
  · omega
  · exact ⟨g, cap, rfl, hb⟩
theorem own_cell {w : World} {base g c n : Nat} {e : TypeId} {xs : List Int} (h : w.ownsRow base e 1 (.slice (some ⟨g, 0, none⟩) n c) n (xs.map (Value.int .i64))) {j : Nat} (hj : j < n) : w.cell? ⟨g, j, none⟩ = some (.int .i64 (xs.getD j 0)) := by
  have hl : xs.length = n := by have := h.1; simpa using this
  rw [h.cellAt j (by omega)]
  simp [List.getD_eq_getElem?_getD, List.getElem?_eq_getElem (show j < xs.length by omega)]
theorem own_set {w : World} {base g c n : Nat} {e : TypeId} {xs : List Int} (h : w.ownsRow base e 1 (.slice (some ⟨g, 0, none⟩) n c) n (xs.map (Value.int .i64))) (j : Nat) (u : Int) :
    (w.setCell ⟨g, j, none⟩ (.int .i64 u)).ownsRow base e 1 (.slice (some ⟨g, 0, none⟩) n c) n ((xs.set j u).map (Value.int .i64)) := by
  have := (h.stored j (.int .i64 u)).1
  rwa [← List.map_set] at this

set_option maxHeartbeats 1000000 in
theorem check_any (w : World) (v : Value) (l : List Ev) (h : Evs w v l) : Calls Try.prog 15 #[v] w fun e w' => e = .returned (.int .i64 (chk [] 0 l)) ∧ Below w.heap.size w w' := by
  obtain ⟨A, c, rfl⟩ := h.shape
  have hl := h.len
  have H := Lib.hid h
  clear h
  go_enter Try.func15, Try.ntmps15
  go_wp2_with fail
  go_loopw [3, 4, 11] (fun st la i wr => ∃ (k : Nat) (xs : List Int) (last : Int), i = .int .i64 k ∧ la = .int .i64 last ∧ CkAt l w k xs last st wr) (fun _ _ i _ => l.length - (intOf i).toNat)
  case atStart => exact ⟨0, [], 0, rfl, rfl, ⟨Nat.zero_le _, World.ownsRow_nil _ _ _ _, Below.refl _ _, Nat.le_refl _, rfl⟩⟩
  case round =>
    obtain ⟨k, xs, last, rfl, rfl, hc⟩ := hrel
    have hk := hc.le
    have hfew := hc.few
    obtain ⟨sa, sc, rfl⟩ := own_shape hc.own
    have HC := Lib.hid hc
    clear hc
    by_cases hlt : k < l.length
    · obtain ⟨b, o, rfl, c1, c2, c3⟩ := (H.out.fresh HC.out.bel).cell hlt
      generalize he : l[k] = ev at c1 c2 c3
      have hst := HC.out.step hlt he
      clear he
      obtain ⟨op, id, step⟩ := ev
      dsimp only at c1 c2 c3
      have hbel := HC.out.bel.alloc HC.out.bel.size (.cells #[.int .i64 op, .int .i64 id, .int .i64 step] 51)
      have BL := Lib.hid hbel
      clear hbel
      by_cases hbad : op < 1 ∨ 7 < op ∨ step < 0
      · have HV := Lib.hid (hst.trans (chk_bad hbad))
        clear hst
        have hg : op < 1 ∨ (1 ≤ op ∧ 7 < op) ∨ (1 ≤ op ∧ op ≤ 7 ∧ step < 0) := by omega
        clear hbad
        rcases hg with g | ⟨g1, g2⟩ | ⟨g1, g2, g3⟩ <;> (go_wp2_with fail; go_ret; exact ⟨by rw [HV.out]; rfl, BL.out⟩)
      · have g1 : 1 ≤ op := by omega
        have g2 : op ≤ 7 := by omega
        have g3 : 0 ≤ step := by omega
        by_cases hlate : step < last
        · have HV := Lib.hid (hst.trans (chk_late hbad hlate))
          clear hst hbad
          go_wp2_with fail
          go_ret
          exact ⟨by rw [HV.out]; rfl, BL.out⟩
        · by_cases hop : op = 1
          · subst hop
            by_cases hid : id = xs.length
            · have HV := Lib.hid (hst.trans (chk_new (by omega) hlate hid))
              subst hid
              clear hst hbad g1 g2
              have hlate' : last ≤ step := by omega
              clear hlate
              go_wp2_with (at_builtin; refine wpList_append_ints _ rfl _ _ 38 rfl w.heap.size 3 Try.underlying38 info3 _ xs.length xs rfl ((HC.out.own.alloc _).alloc _) (fun _ => True) _ [0] rfl (ints_oneAt (new21 _ _ _) (by decide)) (by simp <;> omega) (by have := HC.out.bel.size; simp <;> omega) ?_; intro st' w' hown' hg')
              have HO := Lib.hid hown'
              have HG := Lib.hid hg'
              clear hown' hg'
              go_wp2_with fail
              go_roundw
              case rel =>
                refine ⟨k + 1, xs ++ [0], step, by go_num, rfl, ⟨by omega, ?_, ?_, by simp; omega, HV.out⟩⟩
                · have := HO.out
                  simpa using this
                · refine (BL.out.alloc (by have := HC.out.bel.size; simp <;> omega) _).grown HG.out (by have := HC.out.bel.size; simp <;> omega) ?_
                  intro q hq
                  exact (HC.out.own.lt q hq).1
              case measure => simp [intOf]; omega
            · have HV := Lib.hid (hst.trans (chk_newBad (by omega) hlate hid))
              have hid' : (id == (xs.length : Int)) = false := by simpa using hid
              clear hst hbad g1 g2 hid
              have hlate' : last ≤ step := by omega
              clear hlate
              go_wp2_with fail
              go_ret
              exact ⟨by rw [HV.out]; rfl, BL.out⟩
          · have hop' : (op == 1) = false := by simpa using hop
            have hlate' : last ≤ step := by omega
            by_cases hout : id < 0 ∨ (xs.length : Int) ≤ id
            · have HV := Lib.hid (hst.trans (chk_out hbad hlate hop hout))
              have hg : id < 0 ∨ (0 ≤ id ∧ (xs.length : Int) ≤ id) := by omega
              clear hst hbad hlate hop hout
              rcases hg with g | ⟨g4, g5⟩ <;> (go_wp2_with fail; go_ret; exact ⟨by rw [HV.out]; rfl, BL.out⟩)
            · have g4 : 0 ≤ id := by omega
              have g5 : id < (xs.length : Int) := by omega
              obtain ⟨g, sc', esl, hgb⟩ := own_some HC.out.own (by omega)
              cases esl
              have cst := own_cell HC.out.own (j := id.toNat) (by omega)
              have fst := fun p => (HC.out.own.alloc p).frozenAt id.toNat
              generalize hs : xs.getD id.toNat 0 = s at cst
              generalize hm : mv s op = m
              obtain ⟨n, ok⟩ := m
              have HV := Lib.hid (hst.trans (chk_in hbad hlate hop hout hs hm))
              have HM := Lib.hid hm
              have hle : (wr.alloc (.cells #[.int .i64 op, .int .i64 id, .int .i64 step] 51)).heap.size = wr.heap.size + 1 := by simp
              have cst' := cellAlloc cst
              clear hst hbad hlate hop hout hs hm hle
              have MV := Lib.hid (fun W => show Calls Try.prog 29 #[.int .i64 s, .int .i64 op] W fun e w' => e = .returned (.tuple #[.int .i64 n, .bool ok]) ∧ w' = W from by have h := moved_any s op W; rw [HM.out] at h; exact h)
              cases ok with
              | false =>
                go_wp2_with fail
                go_quiet ((go_at_call 29; exact Calls.quiet_of_same (MV.out _)))
                go_wp2_with fail
                go_ret
                exact ⟨by rw [HV.out]; rfl, below_drewN BL.out _⟩
              | true =>
                go_wp2_with fail
                go_quiet ((go_at_call 29; exact Calls.quiet_of_same (MV.out _)))
                go_wp2_with fail
                go_roundw
                case rel =>
                  refine ⟨k + 1, xs.set id.toNat n, step, by go_num, rfl, ⟨by omega, ?_, ?_, by simp; omega, HV.out⟩⟩
                  · rw [List.length_set]
                    exact own_set ((HC.out.own.alloc _)) id.toNat n
                  · exact (below_drewN BL.out _).setCell hgb _
                case measure => simp [intOf]; omega
    · have he : k = l.length := by omega
      have HV := Lib.hid (show chk [] 0 l = 0 by rw [HC.out.eq, he, List.drop_length]; rfl)
      clear he
      go_wp2_with fail
      go_ret
      exact ⟨by rw [HV.out]; rfl, HC.out.bel⟩
end Go.Proofs.Ytngdchahahabpaa
