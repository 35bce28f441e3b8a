/- The program's Once, and its Counts: what they answer of a list of events; no condition. -/
import Derived.Test.YtngdchahahabpaaCost8
namespace Go.Proofs.Ytngdchahahabpaa
open Go.RowKit

/-- No second begin of what has begun. -/
def oncL (m : List (Int × Bool)) : List Ev → Bool
  | [] => true
  | e :: r => if e.op = 2 then if (get m e.id).getD false = true then false else oncL (put m e.id true) r else oncL m r
theorem drop_at (l : List Ev) {k : Nat} (h : k < l.length) : l.drop k = l[k] :: l.drop (k + 1) := List.drop_eq_getElem_cons h

set_option maxHeartbeats 1000000 in
theorem once_any (w : World) (v : Value) (l : List Ev) (h : Evs w v l) :
    Calls Try.prog 22 #[v] w fun e w' => e = .returned (.bool (oncL [] l)) ∧ Below w.heap.size w w' := by
  obtain ⟨A, c, rfl⟩ := h.shape
  have hl := h.len
  have H := Lib.hid h
  clear h
  have hmm := @run_makeMap Try.prog
  go_enter Try.func22, Try.ntmps22
  go_wp2_with fail
  go_loopw [9] (fun i wr => ∃ (k : Nat) (M : List (Int × Bool)), k ≤ l.length ∧ i = .int .i64 k ∧ MapAt wr w.heap.size (vals vb M) ∧ oncL [] l = oncL M (l.drop k) ∧ Below w.heap.size w wr) (fun i _ => l.length - (intOf i).toNat)
  case atStart => exact ⟨0, [], Nat.zero_le _, rfl, by simpa [vals] using MapAt.made w, rfl, (Below.refl _ _).alloc (Nat.le_refl _) _⟩
  case round =>
    obtain ⟨k, M, hk, rfl, hm, ho, hb⟩ := hrel
    have hbs := hb.size
    have hms := hm.lt
    by_cases hlt : k < l.length
    · obtain ⟨b, o, rfl, c1, c2, c3⟩ := (H.out.fresh hb).cell hlt
      rw [drop_at l hlt] at ho
      generalize l[k] = ev at c1 c2 c3 ho
      have HO := Lib.hid ho
      have HB := Lib.hid hb
      have HM := Lib.hid hm
      obtain ⟨op, id, step⟩ := ev
      dsimp only at c1 c2 c3
      clear ho hb hm
      by_cases hop : op = 2
      · subst hop
        have hlk := fun p => run_lookup_map (P := Try.prog) (t := 56) (k := 3) (e := 4) Try.underlying56 Try.underlying3 (zero4 _) (HM.out.alloc p) id false
        have ev1 : ((get (vals vb M) id).getD (.bool false)) = .bool ((get M id).getD false) := by rw [get_vals]; cases get M id <;> rfl
        simp only [ev1] at hlk
        generalize hs1 : (get M id).getD false = s1 at hlk
        have HS1 := Lib.hid hs1
        clear hs1 ev1
        cases s1 with
        | true =>
          have HN := Lib.hid (HO.out.trans (by simp [oncL, HS1.out]) : oncL [] l = false)
          go_wp2_with fail
          go_ret
          exact ⟨by rw [HN.out]; rfl, HB.out.alloc hbs _⟩
        | false =>
          have HN := Lib.hid (HO.out.trans (by simp [oncL, HS1.out]) : oncL [] l = oncL (put M id true) (l.drop (k + 1)))
          go_wp2_with (at_mapUpdate; refine wpList_update_map _ rfl _ _ _ 56 3 4 rfl Try.underlying56 Try.underlying3 w.heap.size _ rfl id rfl (vb true) rfl (HM.out.alloc _) ?_; intro w' hm' ht' hs'; have HM' := Lib.hid hm'; have HT' := Lib.hid ht'; have HS' := Lib.hid hs'; clear hm' ht' hs')
          go_roundw
          case rel =>
            refine ⟨k + 1, put M id true, by omega, by go_num, ?_, HN.out, ?_⟩
            · rw [← put_vals]; exact HM'.out
            · exact (HB.out.alloc hbs _).trans (HT'.out.below (by simp; omega) (fun q hq => by omega))
          case measure => simp [intOf]; omega
      · have hop' : (op == 2) = false := by simpa using hop
        have hop2 : (op != 2) = true := by simpa using hop
        have HN := Lib.hid (HO.out.trans (by simp [oncL, hop]) : oncL [] l = oncL M (l.drop (k + 1)))
        clear hop
        go_wp2_with fail
        go_roundw
        case rel => exact ⟨k + 1, M, by omega, by go_num, HM.out.alloc _, HN.out, HB.out.alloc hbs _⟩
        case measure => simp [intOf]; omega
    · have he : k = l.length := by omega
      have HN := Lib.hid (show oncL [] l = true by rw [ho, he, List.drop_length]; rfl)
      have HB := Lib.hid hb
      clear he ho hb
      go_wp2_with fail
      go_ret
      exact ⟨by rw [HN.out]; rfl, HB.out⟩
end Go.Proofs.Ytngdchahahabpaa
