/- Contracts of the reference's comparisons, where both sides are the same; the reference's look at an object; no condition. -/
import Derived.Test.YtobniolmielikaaHeap3
namespace Go.Proofs.Ytobniolmielikaa
open Go.RowKit

/-- One cell of a slice of ints. -/
theorem Ints.cell {ok : Nat → Prop} {w : World} {A : Option Addr} {n c : Nat} {xs : List Int} (h : Ints ok w (.slice A n c) xs) {k : Nat} (hk : k < xs.length) : ∃ ad, A = some ad ∧ w.cell? (ad.add k) = some (.int .i64 xs[k]) := by
  obtain ⟨A', cap, e, _, _, _, h4, _⟩ := h
  cases e
  obtain ⟨ad, rfl, _, _, hc⟩ := h4 (by omega)
  exact ⟨ad, rfl, hc k _ (List.getElem?_eq_getElem hk)⟩

set_option maxHeartbeats 400000 in
theorem sameInts_any (ok ok' : Nat → Prop) (w : World) (u v : Value) (xs : List Int) (h : Ints ok w u xs) (h' : Ints ok' w v xs) :
    Calls Try.prog 26 #[u, v] w fun e w' => e = .returned (.bool true) ∧ ∃ n, w' = w.drewN n := by
  obtain ⟨A, c, rfl⟩ := h.shape
  obtain ⟨A', c', rfl⟩ := h'.shape
  have H := Lib.hid h
  have H' := Lib.hid h'
  have hl := h.len
  clear h h'
  go_enter Try.func26, Try.ntmps26
  go_wp2_with fail
  go_loopw [5] (fun i wr => ∃ k n : Nat, k ≤ xs.length ∧ i = .int .i64 k ∧ wr = w.drewN n) (fun i _ => xs.length - (intOf i).toNat)
  case atStart => exact ⟨0, 0, Nat.zero_le _, rfl, rfl⟩
  case round =>
    obtain ⟨k, n, hk, rfl, rfl⟩ := hrel
    by_cases hlt : k < xs.length
    · obtain ⟨ad, rfl, c1⟩ := H.out.cell hlt
      obtain ⟨ad', rfl, c1'⟩ := H'.out.cell hlt
      generalize xs[k] = x at *
      go_wp2_with fail
      go_quiet (fail)
      go_wp2_with fail
      go_roundw
      case rel => exact ⟨k + 1, n + nq, by omega, by go_num, rfl⟩
      case measure => simp [intOf]; omega
    · go_wp2_with fail
      go_ret
      exact ⟨rfl, n, rfl⟩
set_option maxHeartbeats 400000 in
theorem sameObj_any (ok ok' : Nat → Prop) (w : World) (u v : Value) (o : Ob) (h : ObAt ok w u o) (h' : ObAt ok' w v o) :
    Calls Try.prog 21 #[u, v] w fun e w' => e = .returned (.bool true) ∧ Below w.heap.size w w' := by
  obtain ⟨rv, wv, rfl, h1, h2⟩ := h
  obtain ⟨rv', wv', rfl, h1', h2'⟩ := h'
  obtain ⟨A, c, rfl⟩ := h1.shape
  obtain ⟨A', c', rfl⟩ := h1'.shape
  obtain ⟨B, d, rfl⟩ := h2.shape
  obtain ⟨B', d', rfl⟩ := h2'.shape
  have H1 := Lib.hid h1
  have H2 := Lib.hid h2
  have H1' := Lib.hid h1'
  have H2' := Lib.hid h2'
  clear h1 h2 h1' h2'
  have b0 : ∀ p q : Obj, Below w.heap.size w ((w.alloc p).alloc q) := fun p q => ((Below.refl w.heap.size w).alloc (Nat.le_refl _) p).alloc (by simp) q
  have B0 := Lib.hid b0
  clear b0
  go_enter Try.func21, Try.ntmps21
  go_wp2_with fail
  refine (sameInts_any ok ok' _ _ _ o.refs (H1.out.fresh (B0.out _ _)) (H1'.out.fresh (B0.out _ _))).mono ?_
  rintro e w' ⟨rfl, n, rfl⟩
  go_wp2_with fail
  refine (sameInts_any ok ok' _ _ _ o.words (H2.out.fresh (below_drewN (B0.out _ _) _)) (H2'.out.fresh (below_drewN (B0.out _ _) _))).mono ?_
  rintro e w' ⟨rfl, m, rfl⟩
  go_wp2_with fail
  go_ret
  exact ⟨rfl, below_drewN (B0.out _ _) _⟩
theorem vld_bad' {op n ar : Int} {refs words : List Int} (h : ¬ HeadOk op ar) : vld ⟨op, n, ar, refs, words⟩ = false := vld_bad h
set_option maxHeartbeats 2000000 in
theorem refValid_any (ok : Nat → Prop) (v : Value) (o : Ob) (w : World) (h : ObAt ok w v o) :
    Calls Try.prog 19 #[v] w fun e w' => e = .returned (.bool (vld o)) ∧ Below w.heap.size w w' := by
  obtain ⟨rv, wv, rfl, h1, h2⟩ := h
  obtain ⟨wa, wc, ewv⟩ := h2.shape
  obtain ⟨ra, rc, erv⟩ := h1.shape
  subst erv ewv
  have hl := h1.len
  have H1 := Lib.hid h1
  clear h1 h2
  obtain ⟨op, n, ar, refs, words⟩ := o
  dsimp only at *
  by_cases hbad : op < 1 ∨ (1 ≤ op ∧ 10 < op)
  · have HV := Lib.hid (vld_bad' (n := n) (refs := refs) (words := words) (show ¬ HeadOk op ar by unfold HeadOk; omega))
    rcases hbad with g | ⟨g, g'⟩ <;> (go_enter Try.func19, Try.ntmps19; go_wp2_with fail; go_ret; exact ⟨by rw [HV.out]; rfl, (Below.refl _ _).alloc (Nat.le_refl _) _⟩)
  · have hg1 : 1 ≤ op := by omega
    have hg2 : op ≤ 10 := by omega
    clear hbad
    go_enter Try.func19, Try.ntmps19
    go_wp2_with fail
    go_loop [3] (fun i => ∃ k : Nat, k ≤ refs.length ∧ i = .int .i64 k ∧ NonNeg (refs.take k)) (fun i => refs.length - (intOf i).toNat)
    case atStart => exact ⟨0, Nat.zero_le _, rfl, by simp [NonNeg]⟩
    case round =>
      obtain ⟨k, hk, rfl, hnn⟩ := hrel
      have HN := Lib.hid hnn
      clear hnn
      by_cases hlt : k < refs.length
      · obtain ⟨ad, rfl, hck⟩ := H1.out.cell hlt
        have hck' := cellAlloc hck
        generalize hr : refs[k] = r at hck hck'
        have HR := Lib.hid hr
        clear hr hck
        by_cases hneg : r < 0
        · go_wp2_with fail
          go_ret
          refine ⟨by rw [vld_neg hlt HR.out hneg]; rfl, (Below.refl _ _).alloc (Nat.le_refl _) _⟩
        · go_wp2_with fail
          go_round
          case rel => exact ⟨k + 1, by omega, by go_num, nonNeg_succ hlt HN.out (by rw [HR.out]; omega)⟩
          case measure => simp [intOf]; omega
      · have he : k = refs.length := by omega
        have HV0 : Hid (NonNeg refs) := by rw [he, List.take_length] at HN; exact HN
        clear he HN
        have hop : op = 1 ∨ op = 2 ∨ op = 3 ∨ op = 4 ∨ op = 5 ∨ op = 6 ∨ op = 7 ∨ op = 8 ∨ op = 9 ∨ op = 10 := by omega
        clear hg1 hg2
        rcases hop with rfl | rfl | rfl | rfl | rfl | rfl | rfl | rfl | rfl | rfl
        · by_cases a0 : ar = 0
          · subst a0
            have HB := Lib.hid (show vld ⟨1, n, 0, refs, words⟩ = ((refs.length : Int) == 0) from (vld_good (by unfold HeadOk; omega) HV0.out).trans (by simp [vTail, *]))
            clear HV0
            go_wp2_with fail
            go_ret
            exact ⟨by rw [HB.out]; first | rfl | simp, (Below.refl _ _).alloc (Nat.le_refl _) _⟩
          · have a1 : (ar == 0) = false := by simpa using a0
            have a2 : (ar != 0) = true := by simpa using a0
            have HB := Lib.hid (show vld ⟨1, n, ar, refs, words⟩ = false from vld_bad' (by unfold HeadOk; omega))
            clear HV0 a0
            go_wp2_with fail
            go_ret
            exact ⟨by rw [HB.out]; first | rfl | simp, (Below.refl _ _).alloc (Nat.le_refl _) _⟩
        · by_cases a0 : ar = 0
          · subst a0
            by_cases n0 : n < 0
            · have HB := Lib.hid (show vld ⟨2, n, 0, refs, words⟩ = false from (vld_good (by unfold HeadOk; omega) HV0.out).trans (by simp [vTail]; omega))
              clear HV0
              go_wp2_with fail
              go_ret
              exact ⟨by rw [HB.out]; first | rfl | simp, (Below.refl _ _).alloc (Nat.le_refl _) _⟩
            · have n1 : 0 ≤ n := by omega
              clear n0
              by_cases n2 : 255 < n
              · have HB := Lib.hid (show vld ⟨2, n, 0, refs, words⟩ = false from (vld_good (by unfold HeadOk; omega) HV0.out).trans (by simp [vTail]; omega))
                clear HV0
                go_wp2_with fail
                go_ret
                exact ⟨by rw [HB.out]; first | rfl | simp, (Below.refl _ _).alloc (Nat.le_refl _) _⟩
              · have n3 : n ≤ 255 := by omega
                clear n2
                have HB := Lib.hid (show vld ⟨2, n, 0, refs, words⟩ = ((refs.length : Int) == 0) from (vld_good (by unfold HeadOk; omega) HV0.out).trans (by simp [vTail, *]))
                clear HV0
                go_wp2_with fail
                go_ret
                exact ⟨by rw [HB.out]; first | rfl | simp, (Below.refl _ _).alloc (Nat.le_refl _) _⟩
          · have a1 : (ar == 0) = false := by simpa using a0
            have a2 : (ar != 0) = true := by simpa using a0
            have HB := Lib.hid (show vld ⟨2, n, ar, refs, words⟩ = false from vld_bad' (by unfold HeadOk; omega))
            clear HV0 a0
            go_wp2_with fail
            go_ret
            exact ⟨by rw [HB.out]; first | rfl | simp, (Below.refl _ _).alloc (Nat.le_refl _) _⟩
        · by_cases a0 : ar = 0
          · subst a0
            by_cases n0 : n < 0
            · have HB := Lib.hid (show vld ⟨3, n, 0, refs, words⟩ = false from (vld_good (by unfold HeadOk; omega) HV0.out).trans (by simp [vTail]; omega))
              clear HV0
              go_wp2_with fail
              go_ret
              exact ⟨by rw [HB.out]; first | rfl | simp, (Below.refl _ _).alloc (Nat.le_refl _) _⟩
            · have n1 : 0 ≤ n := by omega
              clear n0
              have HB := Lib.hid (show vld ⟨3, n, 0, refs, words⟩ = true from (vld_good (by unfold HeadOk; omega) HV0.out).trans (by simp [vTail, *]))
              clear HV0
              go_wp2_with fail
              go_ret
              exact ⟨by rw [HB.out]; first | rfl | simp, (Below.refl _ _).alloc (Nat.le_refl _) _⟩
          · have a1 : (ar == 0) = false := by simpa using a0
            have a2 : (ar != 0) = true := by simpa using a0
            have HB := Lib.hid (show vld ⟨3, n, ar, refs, words⟩ = false from vld_bad' (by unfold HeadOk; omega))
            clear HV0 a0
            go_wp2_with fail
            go_ret
            exact ⟨by rw [HB.out]; first | rfl | simp, (Below.refl _ _).alloc (Nat.le_refl _) _⟩
        · by_cases a0 : ar < 1
          · have HB := Lib.hid (show vld ⟨4, n, ar, refs, words⟩ = false from vld_bad' (by unfold HeadOk; omega))
            clear HV0
            go_wp2_with fail
            go_ret
            exact ⟨by rw [HB.out]; first | rfl | simp, (Below.refl _ _).alloc (Nat.le_refl _) _⟩
          · have a1 : 1 ≤ ar := by omega
            clear a0
            by_cases n0 : n < 0
            · have HB := Lib.hid (show vld ⟨4, n, ar, refs, words⟩ = false from (vld_good (by unfold HeadOk; omega) HV0.out).trans (by simp [vTail]; omega))
              clear HV0
              go_wp2_with fail
              go_ret
              exact ⟨by rw [HB.out]; first | rfl | simp, (Below.refl _ _).alloc (Nat.le_refl _) _⟩
            · have n1 : 0 ≤ n := by omega
              clear n0
              have HB := Lib.hid (show vld ⟨4, n, ar, refs, words⟩ = true from (vld_good (by unfold HeadOk; omega) HV0.out).trans (by simp [vTail, *]))
              clear HV0
              go_wp2_with fail
              go_ret
              exact ⟨by rw [HB.out]; first | rfl | simp, (Below.refl _ _).alloc (Nat.le_refl _) _⟩
        · by_cases a0 : ar = 0
          · subst a0
            by_cases n0 : n < 0
            · have HB := Lib.hid (show vld ⟨5, n, 0, refs, words⟩ = false from (vld_good (by unfold HeadOk; omega) HV0.out).trans (by simp [vTail]; omega))
              clear HV0
              go_wp2_with fail
              go_ret
              exact ⟨by rw [HB.out]; first | rfl | simp, (Below.refl _ _).alloc (Nat.le_refl _) _⟩
            · have n1 : 0 ≤ n := by omega
              clear n0
              have HB := Lib.hid (show vld ⟨5, n, 0, refs, words⟩ = true from (vld_good (by unfold HeadOk; omega) HV0.out).trans (by simp [vTail, *]))
              clear HV0
              go_wp2_with fail
              go_ret
              exact ⟨by rw [HB.out]; first | rfl | simp, (Below.refl _ _).alloc (Nat.le_refl _) _⟩
          · have a1 : (ar == 0) = false := by simpa using a0
            have a2 : (ar != 0) = true := by simpa using a0
            have HB := Lib.hid (show vld ⟨5, n, ar, refs, words⟩ = false from vld_bad' (by unfold HeadOk; omega))
            clear HV0 a0
            go_wp2_with fail
            go_ret
            exact ⟨by rw [HB.out]; first | rfl | simp, (Below.refl _ _).alloc (Nat.le_refl _) _⟩
        · by_cases a0 : ar = 0
          · subst a0
            by_cases n0 : n < 0
            · have HB := Lib.hid (show vld ⟨6, n, 0, refs, words⟩ = false from (vld_good (by unfold HeadOk; omega) HV0.out).trans (by simp [vTail]; omega))
              clear HV0
              go_wp2_with fail
              go_ret
              exact ⟨by rw [HB.out]; first | rfl | simp, (Below.refl _ _).alloc (Nat.le_refl _) _⟩
            · have n1 : 0 ≤ n := by omega
              clear n0
              have HB := Lib.hid (show vld ⟨6, n, 0, refs, words⟩ = decide (2 ≤ (refs.length : Int)) from (vld_good (by unfold HeadOk; omega) HV0.out).trans (by simp [vTail, *]))
              clear HV0
              go_wp2_with fail
              go_ret
              exact ⟨by rw [HB.out]; first | rfl | simp, (Below.refl _ _).alloc (Nat.le_refl _) _⟩
          · have a1 : (ar == 0) = false := by simpa using a0
            have a2 : (ar != 0) = true := by simpa using a0
            have HB := Lib.hid (show vld ⟨6, n, ar, refs, words⟩ = false from vld_bad' (by unfold HeadOk; omega))
            clear HV0 a0
            go_wp2_with fail
            go_ret
            exact ⟨by rw [HB.out]; first | rfl | simp, (Below.refl _ _).alloc (Nat.le_refl _) _⟩
        · by_cases a0 : ar = 0
          · subst a0
            by_cases n0 : n < 0
            · have HB := Lib.hid (show vld ⟨7, n, 0, refs, words⟩ = false from (vld_good (by unfold HeadOk; omega) HV0.out).trans (by simp [vTail]; omega))
              clear HV0
              go_wp2_with fail
              go_ret
              exact ⟨by rw [HB.out]; first | rfl | simp, (Below.refl _ _).alloc (Nat.le_refl _) _⟩
            · have n1 : 0 ≤ n := by omega
              clear n0
              have HB := Lib.hid (show vld ⟨7, n, 0, refs, words⟩ = ((refs.length : Int) == 1) from (vld_good (by unfold HeadOk; omega) HV0.out).trans (by simp [vTail, *]))
              clear HV0
              go_wp2_with fail
              go_ret
              exact ⟨by rw [HB.out]; first | rfl | simp, (Below.refl _ _).alloc (Nat.le_refl _) _⟩
          · have a1 : (ar == 0) = false := by simpa using a0
            have a2 : (ar != 0) = true := by simpa using a0
            have HB := Lib.hid (show vld ⟨7, n, ar, refs, words⟩ = false from vld_bad' (by unfold HeadOk; omega))
            clear HV0 a0
            go_wp2_with fail
            go_ret
            exact ⟨by rw [HB.out]; first | rfl | simp, (Below.refl _ _).alloc (Nat.le_refl _) _⟩
        · by_cases a0 : ar = 0
          · subst a0
            by_cases n0 : n < 0
            · have HB := Lib.hid (show vld ⟨8, n, 0, refs, words⟩ = false from (vld_good (by unfold HeadOk; omega) HV0.out).trans (by simp [vTail]; omega))
              clear HV0
              go_wp2_with fail
              go_ret
              exact ⟨by rw [HB.out]; first | rfl | simp, (Below.refl _ _).alloc (Nat.le_refl _) _⟩
            · have n1 : 0 ≤ n := by omega
              clear n0
              have HB := Lib.hid (show vld ⟨8, n, 0, refs, words⟩ = true from (vld_good (by unfold HeadOk; omega) HV0.out).trans (by simp [vTail, *]))
              clear HV0
              go_wp2_with fail
              go_ret
              exact ⟨by rw [HB.out]; first | rfl | simp, (Below.refl _ _).alloc (Nat.le_refl _) _⟩
          · have a1 : (ar == 0) = false := by simpa using a0
            have a2 : (ar != 0) = true := by simpa using a0
            have HB := Lib.hid (show vld ⟨8, n, ar, refs, words⟩ = false from vld_bad' (by unfold HeadOk; omega))
            clear HV0 a0
            go_wp2_with fail
            go_ret
            exact ⟨by rw [HB.out]; first | rfl | simp, (Below.refl _ _).alloc (Nat.le_refl _) _⟩
        · by_cases a0 : ar = 0
          · subst a0
            by_cases n0 : n < 0
            · have HB := Lib.hid (show vld ⟨9, n, 0, refs, words⟩ = false from (vld_good (by unfold HeadOk; omega) HV0.out).trans (by simp [vTail]; omega))
              clear HV0
              go_wp2_with fail
              go_ret
              exact ⟨by rw [HB.out]; first | rfl | simp, (Below.refl _ _).alloc (Nat.le_refl _) _⟩
            · have n1 : 0 ≤ n := by omega
              clear n0
              have HB := Lib.hid (show vld ⟨9, n, 0, refs, words⟩ = ((refs.length : Int) == 1) from (vld_good (by unfold HeadOk; omega) HV0.out).trans (by simp [vTail, *]))
              clear HV0
              go_wp2_with fail
              go_ret
              exact ⟨by rw [HB.out]; first | rfl | simp, (Below.refl _ _).alloc (Nat.le_refl _) _⟩
          · have a1 : (ar == 0) = false := by simpa using a0
            have a2 : (ar != 0) = true := by simpa using a0
            have HB := Lib.hid (show vld ⟨9, n, ar, refs, words⟩ = false from vld_bad' (by unfold HeadOk; omega))
            clear HV0 a0
            go_wp2_with fail
            go_ret
            exact ⟨by rw [HB.out]; first | rfl | simp, (Below.refl _ _).alloc (Nat.le_refl _) _⟩
        · by_cases a0 : ar = 0
          · subst a0
            by_cases n0 : n < 0
            · have HB := Lib.hid (show vld ⟨10, n, 0, refs, words⟩ = false from (vld_good (by unfold HeadOk; omega) HV0.out).trans (by simp [vTail]; omega))
              clear HV0
              go_wp2_with fail
              go_ret
              exact ⟨by rw [HB.out]; first | rfl | simp, (Below.refl _ _).alloc (Nat.le_refl _) _⟩
            · have n1 : 0 ≤ n := by omega
              clear n0
              have HB := Lib.hid (show vld ⟨10, n, 0, refs, words⟩ = true from (vld_good (by unfold HeadOk; omega) HV0.out).trans (by simp [vTail, *]))
              clear HV0
              go_wp2_with fail
              go_ret
              exact ⟨by rw [HB.out]; first | rfl | simp, (Below.refl _ _).alloc (Nat.le_refl _) _⟩
          · have a1 : (ar == 0) = false := by simpa using a0
            have a2 : (ar != 0) = true := by simpa using a0
            have HB := Lib.hid (show vld ⟨10, n, ar, refs, words⟩ = false from vld_bad' (by unfold HeadOk; omega))
            clear HV0 a0
            go_wp2_with fail
            go_ret
            exact ⟨by rw [HB.out]; first | rfl | simp, (Below.refl _ _).alloc (Nat.le_refl _) _⟩

end Go.Proofs.Ytobniolmielikaa
