/- The contract of the heap's fits; no condition. -/
import Derived.Test.YtobniolmielikaaHeap8
namespace Go.Proofs.Ytobniolmielikaa
open Go.RowKit

/-- Whether an entry may be put into a heap. -/
def fit1 (p : Int × Ob) : Bool := decide (0 ≤ p.1) && decide (p.1 ≤ 4611686018427387903) && vld p.2
def fitB (m : List (Int × Ob)) : Bool := m.all fit1
theorem fitB_perm {l m : List (Int × Ob)} (h : l.Perm m) : fitB l = fitB m := by
  unfold fitB
  rw [Bool.eq_iff_iff, List.all_eq_true, List.all_eq_true]
  exact ⟨fun a x hx => a x (h.mem_iff.2 hx), fun a x hx => a x (h.mem_iff.1 hx)⟩
theorem fitB_no {m : List (Int × Ob)} {p : Int × Ob} (hp : p ∈ m) (h : fit1 p = false) : fitB m = false := by
  unfold fitB
  rw [List.all_eq_false]
  exact ⟨p, hp, by simp [h]⟩

set_option maxHeartbeats 1000000 in
theorem fits_any (w : World) (b : Nat) (m : List (Int × Ob)) (hb : ObjMap w b m) :
    Calls Try.prog 66 #[.map (some b)] w fun e w' => e = .returned (.bool (fitB m)) ∧ Below w.heap.size w w' := by
  have hlt := hb.lt
  obtain ⟨wi, hrun, hit, hwb, hws⟩ := ob_range hb
  have HIT := Lib.hid hit
  have HWB := Lib.hid hwb
  clear hit hwb hws hb
  go_enter Try.func66, Try.ntmps66
  go_wp2_with fail
  clear hrun
  go_loopg [] m.length (fun g W => ∃ done todo : List (Int × Ob), g = todo.length ∧ (done ++ todo).Perm m ∧ fitB done = true ∧ ObIter W w.heap.size b m todo ∧ Below w.heap.size w W)
  case atStart => exact ⟨[], m, rfl, .refl _, rfl, HIT.out, HWB.out⟩
  case round =>
    obtain ⟨done, todo, rfl, hp, hd, hit, hb⟩ := hrel
    rcases ob_next hit 0 with ⟨h0, hrun⟩ | ⟨i, x, o, ra, wa, rc, wc, w', h1, hob, hrun, hit', ht, hs, hentry⟩
    · subst h0
      have hm := fitB_perm hp
      rw [List.append_nil, hd] at hm
      have HM := Lib.hid hm
      have HB := Lib.hid hb
      clear hp hd hit hb hm
      go_wp2_with fail
      go_ret
      exact ⟨by rw [← HM.out]; rfl, HB.out⟩
    · have hmem : (x, o) ∈ m := hp.mem_iff.1 (List.mem_append_right _ (List.mem_of_getElem? h1))
      have hb' : Below w.heap.size w w' := hb.trans (ht.below (by have := hb.size; omega) (fun k e => by omega))
      have hp' : ((done ++ [(x, o)]) ++ todo.eraseIdx i).Perm m := by
        rw [List.append_assoc]
        exact ((perm_erase todo i _ h1).append_left done).trans hp
      have hlen : (todo.eraseIdx i).length < todo.length := by
        have := (List.getElem?_eq_some_iff.1 h1).1
        rw [List.length_eraseIdx_of_lt this]; omega
      have HMEM := Lib.hid hmem
      have HP := Lib.hid hp'
      have HD := Lib.hid hd
      have HB := Lib.hid hb'
      have HI := Lib.hid hit'
      have HO := Lib.hid hob
      have hsz := hb'.size
      clear hmem hp hp' hd hb hb' hit hit' hob h1 ht
      by_cases c1 : x < 0
      · have HF := Lib.hid (fitB_no HMEM.out (show fit1 (x, o) = false by simp [fit1]; omega))
        go_wp2_with fail
        go_ret
        exact ⟨by rw [HF.out]; rfl, HB.out.alloc (by omega) _⟩
      · by_cases c2 : 4611686018427387903 < x
        · have HF := Lib.hid (fitB_no HMEM.out (show fit1 (x, o) = false by simp [fit1]; omega))
          go_wp2_with fail
          go_ret
          exact ⟨by rw [HF.out]; rfl, HB.out.alloc (by omega) _⟩
        · go_wp2_with fail
          refine (valid_any _ _ o _ (HO.out.fresh ((Below.refl _ _).alloc (Nat.le_refl _) _)).at).mono ?_
          rintro e w3 ⟨rfl, hb3⟩
          have HB3 := Lib.hid hb3
          clear hb3
          cases hv : vld o with
          | false =>
            have HF := Lib.hid (fitB_no HMEM.out (show fit1 (x, o) = false by simp [fit1, hv]))
            clear hv
            go_wp2_with fail
            go_ret
            exact ⟨by rw [HF.out]; rfl, below_then (HB.out.alloc (by omega) _) (by simp; omega) HB3.out⟩
          | true =>
            have HV := Lib.hid hv
            clear hv
            go_wp2_with fail
            go_roundg (todo.eraseIdx i).length
            case measure => exact hlen
            case rel =>
              refine ⟨done ++ [(x, o)], todo.eraseIdx i, rfl, HP.out, ?_, (HI.out.fresh ((Below.refl _ _).alloc (Nat.le_refl _) _)).fresh HB3.out, below_then (HB.out.alloc (by omega) _) (by simp; omega) HB3.out⟩
              have := HD.out
              simp only [fitB, List.all_append, Bool.and_eq_true] at this ⊢
              refine ⟨this, ?_⟩
              simp [fit1, HV.out]
              omega
end Go.Proofs.Ytobniolmielikaa
