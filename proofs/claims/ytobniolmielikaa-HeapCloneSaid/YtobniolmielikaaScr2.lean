/- The law's helper distinct; no condition. -/
import Derived.Test.YtobniolmielikaaScr1
namespace Go.Proofs.Ytobniolmielikaa
open Go.RowKit

/-- No address comes twice below k. -/
def Dst (l : List It) (k : Nat) : Prop := ∀ i j x y, i < j → j < k → l[i]? = some x → l[j]? = some y → x.a ≠ y.a
theorem dst_nodup {l : List It} : (l.map (·.a)).Nodup ↔ Dst l l.length := by
  unfold List.Nodup
  rw [List.pairwise_iff_getElem]
  constructor
  · intro h i j x y hij hj hx hy
    have h1 := (List.getElem?_eq_some_iff.1 hx)
    have h2 := (List.getElem?_eq_some_iff.1 hy)
    obtain ⟨a1, rfl⟩ := h1
    obtain ⟨a2, rfl⟩ := h2
    have := h i j (by simpa using a1) (by simpa using a2) hij
    simpa using this
  · intro h i j hi hj hij
    simp at hi hj
    have := h i j l[i] l[j] hij hj (List.getElem?_eq_getElem hi) (List.getElem?_eq_getElem hj)
    simpa using this

set_option maxHeartbeats 1000000 in
theorem distinct_any (ok : Nat → Prop) (w : World) (v : Value) (l : List It) (h : Raw ok w v l) :
    Calls Try.prog 55 #[v] w fun e w' => e = .returned (.bool (decide ((l.map (·.a)).Nodup))) ∧ ∃ n, w' = w.drewN n := by
  obtain ⟨A, c, rfl⟩ := h.shape
  have hlen := h.len
  have H := Lib.hid h
  clear h
  go_enter Try.func55, Try.ntmps55
  go_wp2_with fail
  go_loopw [3] (fun i wr => ∃ k n : Nat, k ≤ l.length ∧ i = .int .i64 k ∧ Dst l k ∧ wr = w.drewN n) (fun i _ => l.length - (intOf i).toNat)
  case atStart => exact ⟨0, 0, Nat.zero_le _, rfl, (fun i j x y _ hj => by omega), rfl⟩
  case round =>
    obtain ⟨k, n, hk, rfl, hd, rfl⟩ := hrel
    have HD := Lib.hid hd
    clear hd
    by_cases hlt : k < l.length
    · have hx := List.getElem?_eq_getElem hlt
      generalize l[k] = x at hx
      obtain ⟨b, o, rfl, hat⟩ := H.out.at hx
      have HX := Lib.hid hx
      have ck : ∀ m, (w.drewN m).cell? ⟨b, o + k * 6, none⟩ = some (.int .i64 x.a) := fun m => hat.c0
      have CK := Lib.hid ck
      clear hx hat ck
      go_wp2_with fail
      go_loopw [4] (fun i wr => ∃ j m : Nat, j ≤ k ∧ i = .int .i64 j ∧ (∀ q y, q < j → l[q]? = some y → y.a ≠ x.a) ∧ wr = w.drewN m) (fun i _ => k - (intOf i).toNat)
      case atStart => exact ⟨0, n, Nat.zero_le _, rfl, (fun q y hq => by omega), rfl⟩
      case round =>
        obtain ⟨j, m, hj, rfl, hno, rfl⟩ := hrel
        have HNO := Lib.hid hno
        clear hno
        by_cases hjk : j < k
        · have hy := List.getElem?_eq_getElem (l := l) (i := j) (by omega)
          generalize l[j] = y at hy
          obtain ⟨b', o', e, hat⟩ := H.out.at hy
          obtain ⟨rfl, rfl⟩ : b = b' ∧ o = o' := by simpa using e
          have cj : (w.drewN m).cell? ⟨b, o + j * 6, none⟩ = some (.int .i64 y.a) := hat.c0
          have ck := CK.out m
          have HY := Lib.hid hy
          clear hy hat e
          by_cases he : y.a = x.a
          · have HF := Lib.hid (show ¬ (l.map (·.a)).Nodup from fun hn => dst_nodup.1 hn j k y x hjk hlt HY.out HX.out he)
            have hb : (y.a == x.a) = true := by simpa using he
            clear he
            generalize hwn : w.drewN m = wn at cj ck ⊢
            have HWN := Lib.hid hwn
            clear hwn
            go_upto_region 7 with (fail)
            go_quiet (fail)
            go_wp2_with fail
            go_ret
            exact ⟨by rw [decide_eq_false HF.out]; rfl, m + nq, by rw [← HWN.out]; simp [World.drewN, Nat.add_assoc]⟩
          · have hb : (y.a == x.a) = false := by simpa using he
            have HE := Lib.hid he
            clear he
            generalize hwn : w.drewN m = wn at cj ck ⊢
            have HWN := Lib.hid hwn
            clear hwn
            go_upto_region 7 with (fail)
            go_quiet (fail)
            go_wp2_with fail
            go_roundw
            case rel =>
              refine ⟨j + 1, m + nq, by omega, by go_num, ?_, by rw [← HWN.out]; simp [World.drewN, Nat.add_assoc]⟩
              intro q z hq hz
              by_cases hqj : q = j
              · subst hqj
                rw [HY.out] at hz
                cases hz
                exact HE.out
              · exact HNO.out q z (by omega) hz
            case measure => simp [intOf]; omega
        · have he : j = k := by omega
          go_wp2_with fail
          go_roundw
          case rel =>
            refine ⟨k + 1, m, by omega, by go_num, ?_, rfl⟩
            intro i q y z hiq hq hy hz
            by_cases hqk : q = k
            · subst hqk
              rw [HX.out] at hz
              cases hz
              exact HNO.out i y (by omega) hy
            · exact HD.out i q y z hiq (by omega) hy hz
          case measure => simp [intOf]; omega
    · have he : k = l.length := by omega
      have HT := Lib.hid (dst_nodup.2 (he ▸ HD.out))
      clear he
      go_wp2_with fail
      go_ret
      exact ⟨by rw [decide_eq_true HT.out]; rfl, n, rfl⟩
end Go.Proofs.Ytobniolmielikaa
