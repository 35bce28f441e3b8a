/- The walk of the law CostPossible; no condition but that the argument is a slice of events. -/
import Derived.Test.YtngdchahahabpaaCost20
namespace Go.Proofs.Ytngdchahahabpaa
open Go.RowKit

theorem counts_arr (w : World) (v : Value) (l : List Ev) (h : Evs w v l) :
    Calls Try.prog 21 #[v] w fun e w' => e = .returned (.agg #[.int .i64 (cnf l 0), .int .i64 (cnf l 1), .int .i64 (cnf l 2), .int .i64 (cnf l 3), .int .i64 (cnf l 4), .int .i64 (cnf l 5), .int .i64 (cnf l 6), .int .i64 (cnf l 7)]) ∧ Below w.heap.size w w' := counts_any w v l h
theorem fins_take (l : List Ev) (i : Nat) {m : Nat} (h : m < l.length) : fins (l.take (m + 1)) i = fins (l.take m) i + if (l[m].id == (i : Int) && (l[m].op == 3 || l[m].op == 4)) = true then 1 else 0 := by
  rw [List.take_succ_eq_append_getElem h]
  simp only [fins, List.filter_append, List.length_append, List.filter_cons, List.filter_nil]
  congr 1
  split <;> rfl

set_option maxHeartbeats 2000000 in
theorem costPossible_law (w : World) (v : Value) (l : List Ev) (h : Evs w v l) : Calls Try.prog 10 #[v] w fun e w' => e = .returned (.bool true) ∧ Below w.heap.size w w' := by
  have hwf := h.wf
  obtain ⟨A, c, rfl⟩ := h.shape
  have H := Lib.hid h
  have HW := Lib.hid hwf
  clear h hwf
  by_cases hbig : 300 < l.length
  · go_enter Try.func10, Try.ntmps10
    go_wp2_with fail
    refine (example_any _).mono ?_
    rintro e w1 ⟨rfl, hb⟩
    have HB := Lib.hid hb
    clear hb
    go_wp2_with fail
    go_ret
    exact ⟨rfl, HB.out⟩
  · go_enter Try.func10, Try.ntmps10
    go_wp2_with fail
    refine (check_any _ _ l H.out).mono ?_
    rintro e w1 ⟨rfl, hb⟩
    have HB := Lib.hid hb
    clear hb
    by_cases hz : chk [] 0 l = 0
    · have HZ := Lib.hid hz
      rw [hz]
      clear hz
      go_wp2_with fail
      refine (counts_arr _ _ l (H.out.fresh HB.out)).mono ?_
      rintro e w2 ⟨rfl, hb⟩
      have HB2 := Lib.hid (below_then HB.out HB.out.size hb)
      clear hb HB
      have hN : ∀ j, 0 ≤ cnf l j ∧ cnf l j ≤ 300 := fun j => by have := cn_le l j; unfold cnf; omega
      have n1 := hN 1
      have n2 := hN 2
      have n3 := hN 3
      have n4 := hN 4
      have n5 := hN 5
      have n6 := hN 6
      clear hN
      go_wp2_with fail
      refine (age_any _ _ l (H.out.fresh (HB2.out.alloc HB2.out.size _))).mono ?_
      rintro e w3 ⟨b, rfl, hb0, hm, hb⟩
      have hrow := rowB hb (new0 w2 _) (by simp)
      have HB3 := Lib.hid (below_then (HB2.out.alloc HB2.out.size _) (by have := HB2.out.size; simp; omega) hb)
      have hlt3 := heap_lt hrow
      have hcN := cellsH hrow
      have HM := Lib.hid hm
      have HR := Lib.hid hrow
      clear hb hm hb0 hrow HB2
      have hcn1 : cnf l 1 = ((cn l 1 : Nat) : Int) := rfl
      generalize hC1 : cn l 1 = C1 at hcn1
      have hC1' : C1 ≤ 300 := by omega
      go_wp2_with fail
      generalize w2.heap.size = g at hlt3 hcN HR
      rename World => wq
      go_loopw [5] (fun i W => ∃ k : Nat, k ≤ C1 ∧ i = .int .i64 k ∧ W = wq) (fun i _ => C1 - (intOf i).toNat)
      case atStart => exact ⟨0, Nat.zero_le _, rfl, rfl⟩
      case round =>
        obtain ⟨k, hk, rfl, hW⟩ := hrel
        subst hW
        by_cases hlt : k < C1
        · have hfin : ((fins l k : Nat) : Int) ≤ 1 := by
            have := fins_le k l [] 0 HZ.out
            simp at this
            omega
          have hlk := run_lookup_map (P := Try.prog) (t := 36) (k := 3) (e := 3) Try.underlying36 Try.underlying3 (zero3 _) HM.out k false
          have ev3 : ((get (vals vi (agM l)) k).getD (.int .i64 0)) = .int .i64 ((get (agM l) k).getD 0) := by rw [get_vals]; cases get (agM l) k <;> rfl
          rw [ev3] at hlk
          have hpos := age_pos l HZ.out (fun e he => (HW.out e he).2.2) k
          generalize (get (agM l) k).getD 0 = Y at hlk hpos
          clear ev3
          have HFI := Lib.hid hfin
          clear hfin
          go_wp2_with fail
          go_loopw [6, 7] (fun f j W => ∃ m : Nat, m ≤ l.length ∧ j = .int .i64 m ∧ f = .int .i64 ((fins (l.take m) k : Nat) : Int) ∧ W = wr) (fun _ j _ => l.length - (intOf j).toNat)
          case atStart => exact ⟨0, Nat.zero_le _, rfl, rfl, rfl⟩
          case round =>
            obtain ⟨m, hm, rfl, rfl, hW⟩ := hrel
            subst hW
            by_cases hltm : m < l.length
            · obtain ⟨bb, oo, rfl, c1, c2, c3⟩ := (H.out.fresh HB3.out).cell hltm
              have hf := fins_take l k hltm
              have hfl : fins (l.take m) k ≤ m := by
                have : fins (l.take m) k ≤ (l.take m).length := List.length_filter_le _ _
                simp at this
                omega
              generalize fins (l.take m) k = F at hf hfl
              generalize l[m] = ev at c1 c2 c3 hf
              obtain ⟨op, id, step⟩ := ev
              dsimp only at c1 c2 c3 hf
              have HF := Lib.hid hf
              clear hf
              by_cases h1 : id = (k : Int)
              · have t1 : (id == (k : Int)) = true := by simpa using h1
                by_cases h2 : op = 3 ∨ op = 4
                · have HN := Lib.hid (HF.out.trans (by rw [if_pos (by simp [h1, h2])]) : fins (l.take (m + 1)) k = F + 1)
                  clear h1
                  rcases h2 with rfl | rfl <;>
                  · go_wp2_with fail
                    go_roundw
                    case rel => exact ⟨m + 1, by omega, by go_num, by rw [HN.out]; go_num, trivial⟩
                    case measure => simp [intOf]; omega
                · have HN := Lib.hid (HF.out.trans (by rw [if_neg (by simp; omega), Nat.add_zero]) : fins (l.take (m + 1)) k = F)
                  have t3 : (op == 3) = false := by simp; omega
                  have t4 : (op == 4) = false := by simp; omega
                  clear h1 h2
                  go_wp2_with fail
                  go_roundw
                  case rel => exact ⟨m + 1, by omega, by go_num, by rw [HN.out], trivial⟩
                  case measure => simp [intOf]; omega
              · have t1 : (id == (k : Int)) = false := by simpa using h1
                have HN := Lib.hid (HF.out.trans (by rw [if_neg (by simp [h1]), Nat.add_zero]) : fins (l.take (m + 1)) k = F)
                clear h1
                go_wp2_with fail
                go_roundw
                case rel => exact ⟨m + 1, by omega, by go_num, by rw [HN.out], trivial⟩
                case measure => simp [intOf]; omega
            · have he : fins (l.take m) k = fins l k := by rw [show m = l.length by omega, List.take_length]
              rw [he]
              have hfin := HFI.out
              generalize fins l k = F at hfin
              clear he
              go_wp2_with fail
              go_roundw
              case rel => exact ⟨k + 1, by omega, by go_num, trivial⟩
              case measure => simp [intOf]; omega
        · have hO := open_len l HZ.out
          have hG := age_len l HZ.out
          have e2 : cnf l 2 = ((cn l 2 : Nat) : Int) := rfl
          have e3 : cnf l 3 = ((cn l 3 : Nat) : Int) := rfl
          have e4 : cnf l 4 = ((cn l 4 : Nat) : Int) := rfl
          have e5 : cnf l 5 = ((cn l 5 : Nat) : Int) := rfl
          have e6 : cnf l 6 = ((cn l 6 : Nat) : Int) := rfl
          rw [← e2, ← e3, ← e4, ← e5, ← e6] at hO
          rw [← e2] at hG
          clear e2 e3 e4 e5 e6
          generalize cnf l 2 = N2 at *
          generalize cnf l 3 = N3 at *
          generalize cnf l 4 = N4 at *
          generalize cnf l 5 = N5 at *
          generalize cnf l 6 = N6 at *
          have HG := Lib.hid hG
          have HO := Lib.hid hO
          clear hO hG
          go_wp2_with fail
          refine (once_any _ _ l (H.out.fresh HB3.out)).mono ?_
          rintro e w4 ⟨rfl, hb⟩
          rw [oncL_eq, once_ok l [] 0 HZ.out]
          have HB4 := Lib.hid (below_then HB3.out HB3.out.size hb)
          have HM4 := Lib.hid (HM.out.below hb HM.out.lt)
          have HR4 := Lib.hid (rowB hb HR.out hlt3)
          clear hb hcN
          go_wp2_with fail
          refine (open_any _ _ l (H.out.fresh HB4.out)).mono ?_
          rintro e w5 ⟨u5, rfl, hu5, hb⟩
          rw [opn_ropn] at hu5
          obtain ⟨A5, c5, rfl⟩ := hu5.shape
          have hbs4 := HB4.out.size
          have HB5 := Lib.hid (below_then HB4.out HB4.out.size hb)
          have hm5 := HM4.out.below hb HM4.out.lt
          have hr5 := rowB hb HR4.out (heap_lt HR4.out)
          have hc5 := cellsH hr5
          have ll := fun ty => run_len_map (P := Try.prog) (t := 36) (k := 3) (e := 3) Try.underlying36 hm5 ty
          rw [length_vals, HG.out] at ll
          have hob : (((ropn l).length : Int) == N2 + N6 - N3 - N4 - N5) = true := by rw [HO.out]; simp
          have hnb : (N2 == N2) = true := by simp
          clear hb hu5 hm5
          generalize (ropn l).length = L at hob
          go_wp2_with fail
          refine (example_any _).mono ?_
          rintro e w6 ⟨rfl, hb⟩
          have HB6 := Lib.hid (below_then HB5.out HB5.out.size hb)
          clear hb
          go_wp2_with fail
          go_ret
          exact ⟨rfl, HB6.out⟩
    · have hz' : (chk [] 0 l == 0) = false := by simpa using hz
      have hz2 : (chk [] 0 l != 0) = true := by simpa using hz
      clear hz
      generalize chk [] 0 l = K at hz' hz2
      go_wp2_with fail
      refine (example_any _).mono ?_
      rintro e w2 ⟨rfl, hb⟩
      have HB2 := Lib.hid (below_then HB.out HB.out.size hb)
      clear hb
      go_wp2_with fail
      go_ret
      exact ⟨rfl, HB2.out⟩
end Go.Proofs.Ytngdchahahabpaa
