/- The reference's check computes the same; no condition. -/
import Derived.Test.YtngdchahahabpaaCost2
namespace Go.Proofs.Ytngdchahahabpaa
open Go.RowKit

/-- The reference's step. -/
def stp (s op : Int) : Int × Bool :=
  if op = 2 then (1, s == 0) else if op = 3 then (3, s == 1) else if op = 4 then (3, s == 1) else if op = 5 then (2, s == 1) else if op = 6 then (1, s == 2) else (s, s == 1)
theorem stp_mv {s op n : Int} {ok : Bool} (h1 : 1 ≤ op) (h2 : op ≠ 1) (h3 : op ≤ 7) (h : stp s op = (n, ok)) : (mv s op).2 = ok ∧ (ok = true → (mv s op).1 = n) := by
  have hop : op = 2 ∨ op = 3 ∨ op = 4 ∨ op = 5 ∨ op = 6 ∨ op = 7 := by omega
  rcases hop with rfl | rfl | rfl | rfl | rfl | rfl <;> simp [stp] at h <;> obtain ⟨rfl, rfl⟩ := h <;> simp [mv]
  intro h
  exact h.symm
theorem chk_in' {xs : List Int} {last op id step : Int} {r : List Ev} (h : ¬ (op < 1 ∨ 7 < op ∨ step < 0)) (h2 : ¬ step < last) (h3 : op ≠ 1) (h4 : ¬ (id < 0 ∨ xs.length ≤ id)) {s n : Int} {b : Bool} (hs : xs.getD id.toNat 0 = s) (hm : (mv s op).2 = b) (hm2 : b = true → (mv s op).1 = n) :
    chk xs last (⟨op, id, step⟩ :: r) = if b = true then chk (xs.set id.toNat n) step r else 36 := by
  cases b with
  | false => exact chk_in h h2 h3 h4 hs (n := (mv s op).1) (b := false) (Prod.ext rfl hm)
  | true => exact chk_in h h2 h3 h4 hs (Prod.ext (hm2 rfl) hm)

set_option maxHeartbeats 400000 in
theorem step_exact (s op : Int) (w : World) : Calls Try.prog 31 #[.int .i64 s, .int .i64 op] w fun e w' => e = .returned (.tuple #[.int .i64 (stp s op).1, .bool (stp s op).2]) ∧ w' = w := by
  by_cases h2 : op = 2
  · subst h2; have HM := Lib.hid (show stp s 2 = (1, s == 0) from rfl); go_enter Try.func31, Try.ntmps31; go_wp2; go_ret2; rw [HM.out]; exact ⟨rfl, rfl⟩
  by_cases h5 : op = 5
  · subst h5; have HM := Lib.hid (show stp s 5 = (2, s == 1) from rfl); go_enter Try.func31, Try.ntmps31; go_wp2; go_ret2; rw [HM.out]; exact ⟨rfl, rfl⟩
  by_cases h6 : op = 6
  · subst h6; have HM := Lib.hid (show stp s 6 = (1, s == 2) from rfl); go_enter Try.func31, Try.ntmps31; go_wp2; go_ret2; rw [HM.out]; exact ⟨rfl, rfl⟩
  by_cases h3 : op = 3
  · subst h3; have HM := Lib.hid (show stp s 3 = (3, s == 1) from rfl); go_enter Try.func31, Try.ntmps31; go_wp2; go_ret2; rw [HM.out]; exact ⟨rfl, rfl⟩
  by_cases h4 : op = 4
  · subst h4; have HM := Lib.hid (show stp s 4 = (3, s == 1) from rfl); go_enter Try.func31, Try.ntmps31; go_wp2; go_ret2; rw [HM.out]; exact ⟨rfl, rfl⟩
  have HM := Lib.hid (show stp s op = (s, s == 1) by simp [stp, h2, h5, h6, h3, h4])
  have e2 : (op == 2) = false := by simpa using h2
  have e3 : (op == 3) = false := by simpa using h3
  have e4 : (op == 4) = false := by simpa using h4
  have e5 : (op == 5) = false := by simpa using h5
  have e6 : (op == 6) = false := by simpa using h6
  clear h2 h3 h4 h5 h6
  go_enter Try.func31, Try.ntmps31
  go_wp2
  go_ret2
  rw [HM.out]
  exact ⟨rfl, rfl⟩

set_option maxHeartbeats 1000000 in
theorem rcheck_any (w : World) (v : Value) (l : List Ev) (h : Evs w v l) : Calls Try.prog 16 #[v] w fun e w' => e = .returned (.int .i64 (chk [] 0 l)) ∧ Below w.heap.size w w' := by
  obtain ⟨A, c, rfl⟩ := h.shape
  have hl := h.len
  have H := Lib.hid h
  clear h
  go_enter Try.func16, Try.ntmps16
  go_wp2_with fail
  go_loopw [3, 4, 5] (fun st la i wr => ∃ (k : Nat) (xs : List Int) (last : Int), i = .int .i64 k ∧ la = .int .i64 last ∧ CkAt l w k xs last st wr) (fun _ _ i _ => l.length - (intOf i).toNat)
  case atStart => exact ⟨0, [], 0, rfl, rfl, ⟨Nat.zero_le _, World.ownsRow_made w #[] 0 (Nat.le_refl _) (by simp [maxLen]) rfl, (Below.refl _ _).alloc (Nat.le_refl _) _, Nat.le_refl _, rfl⟩⟩
  case round =>
    obtain ⟨k, xs, last, rfl, rfl, hc⟩ := hrel
    have hk := hc.le
    have hfew := hc.few
    obtain ⟨sa, sc, rfl⟩ := own_shape hc.own
    have HC := Lib.hid hc
    clear hc
    by_cases hlt : k < l.length
    · obtain ⟨b, o, rfl, c1, c2, c3⟩ := (H.out.fresh HC.out.bel).cell hlt
      generalize he : l[k] = ev at c1 c2 c3
      have hst := HC.out.step hlt he
      clear he
      obtain ⟨op, id, step⟩ := ev
      dsimp only at c1 c2 c3
      have hbel := HC.out.bel.alloc HC.out.bel.size (.cells #[.int .i64 op, .int .i64 id, .int .i64 step] 51)
      have BL := Lib.hid hbel
      clear hbel
      by_cases hbad : op < 1 ∨ 7 < op ∨ step < 0
      · have HV := Lib.hid (hst.trans (chk_bad hbad))
        clear hst
        have hg : knw op = false ∨ (knw op = true ∧ step < 0) := by
          by_cases h1 : 1 ≤ op <;> by_cases h2 : op ≤ 7 <;> simp [knw, h1, h2] <;> omega
        clear hbad
        rcases hg with g | ⟨g, g3⟩
        · have G := Lib.hid g
          clear g
          go_wp2_with fail
          refine (known_any _ _).mono ?_
          rintro e w' ⟨rfl, rfl⟩
          rw [G.out]
          go_wp2_with fail
          go_ret
          exact ⟨by rw [HV.out]; rfl, BL.out⟩
        · have G := Lib.hid g
          clear g
          go_wp2_with fail
          refine (known_any _ _).mono ?_
          rintro e w' ⟨rfl, rfl⟩
          rw [G.out]
          go_wp2_with fail
          go_ret
          exact ⟨by rw [HV.out]; rfl, BL.out⟩
      · have g1 : 1 ≤ op := by omega
        have g2 : op ≤ 7 := by omega
        have g3 : 0 ≤ step := by omega
        have G := Lib.hid (show knw op = true by simp [knw, g1, g2])
        by_cases hlate : step < last
        · have HV := Lib.hid (hst.trans (chk_late hbad hlate))
          clear hst hbad
          go_wp2_with fail
          refine (known_any _ _).mono ?_
          rintro e w0 ⟨rfl, rfl⟩
          rw [G.out]
          go_wp2_with fail
          go_ret
          exact ⟨by rw [HV.out]; rfl, BL.out⟩
        · by_cases hop : op = 1
          · subst hop
            by_cases hid : id = xs.length
            · have HV := Lib.hid (hst.trans (chk_new (by omega) hlate hid))
              subst hid
              clear hst hbad g1 g2
              have hlate' : last ≤ step := by omega
              clear hlate
              go_wp2_with fail
              refine (known_any _ _).mono ?_
              rintro e w0 ⟨rfl, rfl⟩
              rw [G.out]
              go_wp2_with (at_builtin; refine wpList_append_ints _ rfl _ _ 38 rfl w.heap.size 3 Try.underlying38 info3 _ xs.length xs rfl ((HC.out.own.alloc _).alloc _) (fun _ => True) _ [0] rfl (ints_oneAt (new21 _ _ _) (by decide)) (by simp <;> omega) (by have := HC.out.bel.size; simp <;> omega) ?_; intro st' w' hown' hg')
              have HO := Lib.hid hown'
              have HG := Lib.hid hg'
              clear hown' hg'
              go_wp2_with fail
              go_roundw
              case rel =>
                refine ⟨k + 1, xs ++ [0], step, by go_num, rfl, ⟨by omega, ?_, ?_, by simp; omega, HV.out⟩⟩
                · have := HO.out
                  simpa using this
                · refine (BL.out.alloc (by have := HC.out.bel.size; simp <;> omega) _).grown HG.out (by have := HC.out.bel.size; simp <;> omega) ?_
                  intro q hq
                  exact (HC.out.own.lt q hq).1
              case measure => simp [intOf]; omega
            · have HV := Lib.hid (hst.trans (chk_newBad (by omega) hlate hid))
              have hid' : (id == (xs.length : Int)) = false := by simpa using hid
              clear hst hbad g1 g2 hid
              have hlate' : last ≤ step := by omega
              clear hlate
              go_wp2_with fail
              refine (known_any _ _).mono ?_
              rintro e w0 ⟨rfl, rfl⟩
              rw [G.out]
              go_wp2_with fail
              go_ret
              exact ⟨by rw [HV.out]; rfl, BL.out⟩
          · have hop' : (op == 1) = false := by simpa using hop
            have hlate' : last ≤ step := by omega
            by_cases hout : id < 0 ∨ (xs.length : Int) ≤ id
            · have HV := Lib.hid (hst.trans (chk_out hbad hlate hop hout))
              have hg : id < 0 ∨ (0 ≤ id ∧ (xs.length : Int) ≤ id) := by omega
              clear hst hbad hlate hop hout
              rcases hg with g | ⟨g4, g5⟩ <;> (go_wp2_with fail; refine (known_any _ _).mono ?_; rintro e w0 ⟨rfl, rfl⟩; rw [G.out]; go_wp2_with fail; go_ret; exact ⟨by rw [HV.out]; rfl, BL.out⟩)
            · have g4 : 0 ≤ id := by omega
              have g5 : id < (xs.length : Int) := by omega
              obtain ⟨g, sc', esl, hgb⟩ := own_some HC.out.own (by omega)
              cases esl
              have cst := own_cell HC.out.own (j := id.toNat) (by omega)
              have fst := fun p => (HC.out.own.alloc p).frozenAt id.toNat
              generalize hs : xs.getD id.toNat 0 = s at cst
              generalize hm : stp s op = m
              obtain ⟨n, ok⟩ := m
              have hmm := stp_mv (by omega) hop g2 hm
              have HV := Lib.hid (hst.trans (chk_in' hbad hlate hop hout hs hmm.1 hmm.2))
              have HM := Lib.hid hm
              have hle : (wr.alloc (.cells #[.int .i64 op, .int .i64 id, .int .i64 step] 51)).heap.size = wr.heap.size + 1 := by simp
              have cst' := cellAlloc cst
              clear hst hbad hlate hop hout hs hm hmm hle
              have MV := Lib.hid (fun W => show Calls Try.prog 31 #[.int .i64 s, .int .i64 op] W fun e w' => e = .returned (.tuple #[.int .i64 n, .bool ok]) ∧ w' = W from by have h := step_exact s op W; rw [HM.out] at h; exact h)
              cases ok with
              | false =>
                go_wp2_with fail
                refine (known_any _ _).mono ?_
                rintro e w0 ⟨rfl, rfl⟩
                rw [G.out]
                go_wp2_with fail
                go_quiet ((go_at_call 31; exact Calls.quiet_of_same (MV.out _)))
                go_wp2_with fail
                go_ret
                exact ⟨by rw [HV.out]; rfl, below_drewN BL.out _⟩
              | true =>
                go_wp2_with fail
                refine (known_any _ _).mono ?_
                rintro e w0 ⟨rfl, rfl⟩
                rw [G.out]
                go_wp2_with fail
                go_quiet ((go_at_call 31; exact Calls.quiet_of_same (MV.out _)))
                go_wp2_with fail
                go_roundw
                case rel =>
                  refine ⟨k + 1, xs.set id.toNat n, step, by go_num, rfl, ⟨by omega, ?_, ?_, by simp; omega, HV.out⟩⟩
                  · rw [List.length_set]
                    exact own_set ((HC.out.own.alloc _)) id.toNat n
                  · exact (below_drewN BL.out _).setCell hgb _
                case measure => simp [intOf]; omega
    · have he : k = l.length := by omega
      have HV := Lib.hid (show chk [] 0 l = 0 by rw [HC.out.eq, he, List.drop_length]; rfl)
      clear he
      go_wp2_with fail
      go_ret
      exact ⟨by rw [HV.out]; rfl, HC.out.bel⟩
end Go.Proofs.Ytngdchahahabpaa
