/- The reference heap: Put; no condition. -/
import Derived.Test.YtobniolmielikaaRef11
import Derived.Test.YtobniolmielikaaHeap11
namespace Go.Proofs.Ytobniolmielikaa
open Go.RowKit

theorem RHeapAt.putN {base : Nat} {w : World} {r : Nat} {NV AV N' : Value} {R : RM} {n' : List It} (h : RHeapAt base w r NV AV R) (hown : Own base w N' n') (hap : ∀ g, N'.ownBlock = some g → AV.ownBlock ≠ some g) (hob : ∀ x ∈ n', ObR 0 w x.val x.o) (hs : n'.length ≤ 65536) :
    RHeapAt base (w.setCell ⟨r, 2, none⟩ N') r N' AV { R with n := n' } := by
  have ht : Turn (· = r) w (w.setCell ⟨r, 2, none⟩ N') := (Turn.refl (· = r) w).setCell (p := ⟨r, 2, none⟩) rfl _
  have hn : ∀ k, IsRow 3 w k → ¬ k = r := by
    rintro k hk rfl
    cases hk.two ⟨_, _, h.row⟩
  have hr : ∀ k, IsRow 97 w k → k ≠ r := by
    rintro k hk rfl
    cases hk.two ⟨_, _, h.row⟩
  exact ⟨rowSet h.row 2 _, hown.kept fun g hg => Below.heap_setCell _ _ _ _ (hr g (hown.row hg).2), h.aown.kept fun g hg => Below.heap_setCell _ _ _ _ (hr g (h.aown.row hg).2), hap,
    fun y hy => (hob y hy).turn ht (fun k _ hk => hn k hk), fun y hy => (h.aok y hy).turn ht (fun k _ hk => hn k hk), hs, h.asmall⟩
theorem RHeapAt.putA {base : Nat} {w : World} {r : Nat} {NV AV A' : Value} {R : RM} {a' : List It} (h : RHeapAt base w r NV AV R) (hown : Own base w A' a') (hap : ∀ g, NV.ownBlock = some g → A'.ownBlock ≠ some g) (hob : ∀ x ∈ a', ObR 0 w x.val x.o) (hs : a'.length ≤ 65536) :
    RHeapAt base (w.setCell ⟨r, 3, none⟩ A') r NV A' { R with a := a' } := by
  have ht : Turn (· = r) w (w.setCell ⟨r, 3, none⟩ A') := (Turn.refl (· = r) w).setCell (p := ⟨r, 3, none⟩) rfl _
  have hn : ∀ k, IsRow 3 w k → ¬ k = r := by
    rintro k hk rfl
    cases hk.two ⟨_, _, h.row⟩
  have hr : ∀ k, IsRow 97 w k → k ≠ r := by
    rintro k hk rfl
    cases hk.two ⟨_, _, h.row⟩
  exact ⟨rowSet h.row 3 _, h.nown.kept fun g hg => Below.heap_setCell _ _ _ _ (hr g (h.nown.row hg).2), hown.kept fun g hg => Below.heap_setCell _ _ _ _ (hr g (hown.row hg).2), hap,
    fun y hy => (h.nok y hy).turn ht (fun k _ hk => hn k hk), fun y hy => (hob y hy).turn ht (fun k _ hk => hn k hk), h.nsmall, hs⟩

theorem RHeapAt.drew {base : Nat} {w : World} {r : Nat} {NV AV : Value} {R : RM} (h : RHeapAt base w r NV AV R) : RHeapAt base w.drew r NV AV R := h.fresh (Below.refl _ _).drew

/-- Whether the item at j may be put. -/
def goodAt (l1 l2 : List It) (j : Nat) : Prop := ∀ x, (l1 ++ l2)[j]? = some x → fit1 (x.a, x.o) = true ∧ (j < l1.length → Go.Proofs.Ytobniolmielikaa.get (keyed l2) x.a = none)
theorem repl_good {H : HM} {l1 l2 : List It} (h : ∀ j, goodAt l1 l2 j) : H.repl (absI l1) (absI l2) = if H.nur < l1.length ∨ H.eld < l2.length then 33 else 0 := by
  have f1 : fitB (absI l1) = true := by
    refine List.all_eq_true.2 fun p hp => ?_
    obtain ⟨x, hx, rfl⟩ := List.mem_map.1 hp
    obtain ⟨j, hj⟩ := List.getElem?_of_mem hx
    exact (h j x (by rw [List.getElem?_append_left (List.getElem?_eq_some_iff.1 hj).1]; exact hj)).1
  have f2 : fitB (absI l2) = true := by
    refine List.all_eq_true.2 fun p hp => ?_
    obtain ⟨x, hx, rfl⟩ := List.mem_map.1 hp
    obtain ⟨j, hj⟩ := List.getElem?_of_mem hx
    exact (h (l1.length + j) x (by rw [List.getElem?_append_right (by omega), Nat.add_sub_cancel_left]; exact hj)).1
  have f3 : meets (absI l1) (absI l2) = false := by
    refine List.any_eq_false.2 fun p hp => ?_
    obtain ⟨x, hx, rfl⟩ := List.mem_map.1 hp
    obtain ⟨j, hj⟩ := List.getElem?_of_mem hx
    have hjl := (List.getElem?_eq_some_iff.1 hj).1
    have := (h j x (by rw [List.getElem?_append_left hjl]; exact hj)).2 hjl
    simp [get_abs, this]
  simp [HM.repl, f1, f2, f3, absI_length]
theorem repl_bad {H : HM} {l1 l2 : List It} {j : Nat} {x : It} (hx : (l1 ++ l2)[j]? = some x) (h : fit1 (x.a, x.o) = false) : H.repl (absI l1) (absI l2) = 1 := by
  rcases List.mem_append.1 (List.mem_of_getElem? hx) with hm | hm
  · have := fitB_no (List.mem_map_of_mem (f := fun x : It => (x.a, x.o)) hm) h
    simp [HM.repl, absI, this]
  · have := fitB_no (List.mem_map_of_mem (f := fun x : It => (x.a, x.o)) hm) h
    simp [HM.repl, absI, this]
theorem repl_meet {H : HM} {l1 l2 : List It} {j : Nat} {x y : It} (hx : (l1 ++ l2)[j]? = some x) (hj : j < l1.length) (h : Go.Proofs.Ytobniolmielikaa.get (keyed l2) x.a = some y) : H.repl (absI l1) (absI l2) = 1 := by
  rw [List.getElem?_append_left hj] at hx
  have : meets (absI l1) (absI l2) = true := List.any_eq_true.2 ⟨(x.a, x.o), List.mem_map_of_mem (f := fun x : It => (x.a, x.o)) (List.mem_of_getElem? hx), by simp [get_abs, h]⟩
  simp [HM.repl, this]

/-- What is known behind Put. -/
structure RPut (H : HM) (m1 m2 : List (Int × Ob)) (H' : HM) : Prop where
  no : H.repl m1 m2 ≠ 0 → H' = H
  yes : H.repl m1 m2 = 0 → H' = ⟨H.nur, H.eld, max H.next (nxt (m1 ++ m2)), srtI m1, srtI m2⟩

set_option maxHeartbeats 4000000 in
theorem rput_any (base : Nat) (ok : Nat → Prop) (w : World) (r : Nat) (NV AV v1 v2 : Value) (R : RM) (l1 l2 : List It) (hh : RHeapAt base w r NV AV R) (hbase : base ≤ w.heap.size) (hs0 : R.s0 ≤ 65536) (hs1 : R.s1 ≤ 65536) (hnx : 0 ≤ R.next)
    (h1 : Raw ok w v1 l1) (h2 : Raw ok w v2 l2) (hlen : (l1.length + l2.length) * 80 ≤ 140737488355328) (ho : ∀ x ∈ l1 ++ l2, ObAt ok w x.val x.o) (hok : ∀ b, ok b → b ≠ r) :
    Calls Try.prog 82 #[.pointer (some ⟨r, 0, none⟩), v1, v2] w fun e w' => e = .returned (.int .i64 (R.abs.repl (absI l1) (absI l2))) ∧
      ∃ NV' AV' R', RHeapAt base w' r NV' AV' R' ∧ RPut R.abs (absI l1) (absI l2) R'.abs ∧ Turn (RB r NV AV) w w' := by
  have hlt := hh.lt
  obtain ⟨A1, k1, rfl⟩ := h1.shape
  obtain ⟨A2, k2, rfl⟩ := h2.shape
  have HH := Lib.hid hh
  have H1 := Lib.hid h1
  have H2 := Lib.hid h2
  have HO := Lib.hid ho
  have OK := Lib.hid hok
  have NO := Lib.hid (show ∀ w', Below w.heap.size w w' → R.abs.repl (absI l1) (absI l2) ≠ 0 → ∃ NV' AV' R', RHeapAt base w' r NV' AV' R' ∧ RPut R.abs (absI l1) (absI l2) R'.abs ∧ Turn (RB r NV AV) w w' from
    fun w' hb hne => ⟨NV, AV, R, HH.out.fresh hb, ⟨fun _ => rfl, fun e => absurd e hne⟩, below_turn hb _⟩)
  clear hh h1 h2 ho hok
  go_enter Try.func82, Try.ntmps82
  go_upto_region 2 with (first
    | (at_builtin; refine wpList_append_it _ rfl (.tmp 10) (.tmp 11) rfl w.heap.size _ [] rfl (own_made0 w) ok _ l1 rfl (H1.out.fresh ((Below.refl _ _).alloc (Nat.le_refl _) _)) (by simp; omega) (szA _ _) ?_; intro v3 w3 hown hg; have HO3 := Lib.hid hown; have B3 := Lib.hid (((Below.refl w.heap.size w).alloc (Nat.le_refl _) (.cells #[] 97)).grown hg (szA _ _) (fun q hq => by cases hq; exact Nat.le_refl _)); clear hown hg)
    | (at_builtin; refine wpList_append_it _ rfl (.tmp 12) (.tmp 13) rfl w.heap.size _ l1 rfl HO3.out ok _ l2 rfl (H2.out.fresh B3.out) hlen B3.out.size ?_; intro v4 w4 hown hg; have HO4 := Lib.hid hown; have B4 := Lib.hid (B3.out.grown hg B3.out.size (fun q hq => (HO3.out.lt q hq).1)); clear hown hg))
  obtain ⟨A4, k4, rfl⟩ := HO4.out.shape
  have hll : (l1 ++ l2).length = l1.length + l2.length := List.length_append
  have HLL := Lib.hid hll
  rw [hll]
  clear hll
  go_wp2_with fail
  go_loopw [8] (fun i wr => ∃ k : Nat, k ≤ l1.length + l2.length ∧ i = .int .i64 k ∧ (∀ j, j < k → goodAt l1 l2 j) ∧ Below w4.heap.size w4 wr) (fun i _ => l1.length + l2.length - (intOf i).toNat)
  case atStart => exact ⟨0, Nat.zero_le _, rfl, fun j hj => by omega, Below.refl _ _⟩
  case round =>
    obtain ⟨k, hk, rfl, hgood, hb⟩ := hrel
    have HG := Lib.hid hgood
    have HB := Lib.hid hb
    have HBW := Lib.hid (below_then B4.out B4.out.size hb)
    have HR := Lib.hid ((HO4.out.raw (by rw [HLL.out]; exact hlen)).fresh hb)
    clear hgood hb
    by_cases hlt : k < l1.length + l2.length
    · obtain ⟨x, hx⟩ : ∃ x, (l1 ++ l2)[k]? = some x := ⟨_, List.getElem?_eq_getElem (by rw [HLL.out]; exact hlt)⟩
      have hox := HO.out x (List.mem_of_getElem? hx)
      obtain ⟨b, o, rfl, hat⟩ := HR.out.at hx
      have HX := Lib.hid hx
      have HAT := Lib.hid hat
      have HOX := Lib.hid (hox.fresh HBW.out)
      have hbl := World.block_lt_of_cell? wr ⟨b, o + k * 6, none⟩ hat.c0
      obtain ⟨d0, d1, d2, d3, d4, d5⟩ := hat
      clear hx hox
      go_wp2_with fail
      refine (refValid_any ok _ x.o _ HOX.out).mono ?_
      rintro e w5 ⟨rfl, hb5⟩
      have HB5 := Lib.hid (below_then HBW.out HBW.out.size hb5)
      have HB5a := Lib.hid (below_then HB.out HB.out.size hb5)
      have hc0 := (HAT.out.keep (w' := w5) (hb5.block b hbl)).c0
      clear d0 d1 d2 d3 d4 d5 hb5
      by_cases hv : vld x.o = true
      · rw [hv]
        have HV := Lib.hid hv
        clear hv
        by_cases c1 : x.a < 0
        · have HF := Lib.hid (repl_bad (H := R.abs) HX.out (show fit1 (x.a, x.o) = false by simp [fit1]; omega))
          go_wp2_with fail
          go_ret
          exact ⟨by rw [HF.out]; rfl, NO.out _ HB5.out (by rw [HF.out]; decide)⟩
        · by_cases c2 : 4611686018427387904 ≤ x.a
          · have HF := Lib.hid (repl_bad (H := R.abs) HX.out (show fit1 (x.a, x.o) = false by simp [fit1]; omega))
            go_wp2_with fail
            go_ret
            exact ⟨by rw [HF.out]; rfl, NO.out _ HB5.out (by rw [HF.out]; decide)⟩
          · have HFIT := Lib.hid (show fit1 (x.a, x.o) = true by simp [fit1, HV.out]; omega)
            by_cases c3 : k < l1.length
            · go_wp2_with fail
              refine (find_any ok w5 _ l2 x.a (H2.out.fresh HB5.out)).mono ?_
              rintro e w6 ⟨rfl, rfl⟩
              rcases fnd_cases l2 x.a with ⟨q, y, g1, -, g3, -⟩ | ⟨g1, g3⟩
              · rw [g1]
                have HF := Lib.hid (repl_meet (H := R.abs) HX.out c3 g3)
                clear g1 g3
                go_wp2_with fail
                go_ret
                exact ⟨by rw [HF.out]; rfl, NO.out _ HB5.out (by rw [HF.out]; decide)⟩
              · rw [g1]
                have G3 := Lib.hid g3
                clear g1 g3
                go_wp2_with fail
                go_roundw
                case rel =>
                  refine ⟨k + 1, by omega, by go_num, ?_, HB5a.out⟩
                  intro j hj
                  by_cases hjk : j = k
                  · subst hjk
                    intro z hz
                    rw [HX.out] at hz
                    cases hz
                    exact ⟨HFIT.out, fun _ => G3.out⟩
                  · exact HG.out j (by omega)
                case measure => simp [intOf]; omega
            · go_wp2_with fail
              go_roundw
              case rel =>
                refine ⟨k + 1, by omega, by go_num, ?_, HB5a.out⟩
                intro j hj
                by_cases hjk : j = k
                · subst hjk
                  intro z hz
                  rw [HX.out] at hz
                  cases hz
                  exact ⟨HFIT.out, fun h => by omega⟩
                · exact HG.out j (by omega)
              case measure => simp [intOf]; omega
      · have hv : vld x.o = false := by simpa using hv
        have HF := Lib.hid (repl_bad (H := R.abs) HX.out (show fit1 (x.a, x.o) = false by simp [fit1, hv]))
        rw [hv]
        clear hv
        go_wp2_with fail
        go_ret
        exact ⟨by rw [HF.out]; rfl, NO.out _ HB5.out (by rw [HF.out]; decide)⟩
    · have he : k = l1.length + l2.length := by omega
      have hall : ∀ j, goodAt l1 l2 j := by
        intro j
        by_cases hj : j < k
        · exact HG.out j hj
        · intro x hx
          have := (List.getElem?_eq_some_iff.1 hx).1
          rw [HLL.out] at this
          omega
      have HALL := Lib.hid hall
      have HRE := Lib.hid (repl_good (H := R.abs) hall)
      have hh := HH.out.fresh HBW.out
      have HH1 := Lib.hid hh
      obtain ⟨c0, c1, -, -, -⟩ := hh.cells
      clear hh hall he
      by_cases t1 : R.s0 < l1.length
      · have HF := Lib.hid (HRE.out.trans (if_pos (.inl (show R.abs.nur < l1.length from t1))))
        go_wp2_with fail
        go_ret
        exact ⟨by rw [HF.out]; rfl, NO.out _ HBW.out (by rw [HF.out]; decide)⟩
      by_cases t2 : R.s1 < l2.length
      · have HF := Lib.hid (HRE.out.trans (if_pos (.inr (show R.abs.eld < l2.length from t2))))
        go_wp2_with fail
        go_ret
        exact ⟨by rw [HF.out]; rfl, NO.out _ HBW.out (by rw [HF.out]; decide)⟩
      have HF := Lib.hid (HRE.out.trans (if_neg (show ¬ (R.abs.nur < l1.length ∨ R.abs.eld < l2.length) from fun h => h.elim t1 t2)))
      go_wp2_with fail
      refine (sorted_any ok wr _ l1 (H1.out.fresh HBW.out) (fun x hx => ((HO.out x (List.mem_append_left _ hx)).fresh HBW.out).mono (fun _ _ _ => trivial))).mono ?_
      rintro e w5 ⟨NX, n', rfl, hown5, habs5, hob5, hb5⟩
      obtain ⟨N1, M1, rfl⟩ := hown5.shape
      have ln : n'.length = l1.length := by
        have := congrArg List.length habs5
        simpa [absI_length, srtI_length] using this
      have z5 := HBW.out.size
      have p5 := (HH1.out.fresh hb5).putN (hown5.base (by omega)) (fun g hg hg' => HH1.out.aown.apart hown5 g hg' hg) hob5 (by omega)
      have P5 := Lib.hid p5
      have HBW5 := Lib.hid (below_then HBW.out HBW.out.size hb5)
      have f5 := freeH (HH1.out.fresh hb5).row
      obtain ⟨-, -, e2, -, -⟩ := (HH1.out.fresh hb5).cells
      have HABS5 := Lib.hid habs5
      have all5 := ((HO4.out.fresh HB.out).fresh hb5).kept (w' := w5.setCell ⟨r, 2, none⟩ (.slice N1 n'.length M1)) (fun g hg => Below.heap_setCell _ _ _ _ (fun e => by
        have h97 := (((HO4.out.fresh HB.out).fresh hb5).row hg).2
        rw [show g = r from e] at h97
        cases h97.two ⟨_, _, (HH1.out.fresh hb5).row⟩))
      have ALL5 := Lib.hid all5
      have LN := Lib.hid ln
      have hap := (show Own base (w5.setCell ⟨r, 2, none⟩ (.slice N1 n'.length M1)) (.slice N1 n'.length M1) n' from p5.nown)
      have HAP := Lib.hid hap
      clear p5 hown5 habs5 hob5 hb5 all5 ln hap c0 c1
      go_wp2_with fail
      have tr := (Turn.refl (· = r) w5).setCell (p := ⟨r, 2, none⟩) rfl (.slice N1 n'.length M1)
      refine (sorted_any ok _ _ l2 ((H2.out.fresh HBW5.out).turn tr (fun b hb => OK.out b hb)) (fun x hx => (((HO.out x (List.mem_append_right _ hx)).fresh HBW5.out).turn tr (fun b hb => OK.out b hb)).mono (fun _ _ _ => trivial))).mono ?_
      rintro e w6 ⟨AX, a', rfl, hown6, habs6, hob6, hb6⟩
      obtain ⟨Q1, P1, rfl⟩ := hown6.shape
      have la : a'.length = l2.length := by
        have := congrArg List.length habs6
        simpa [absI_length, srtI_length] using this
      have z6 := HBW5.out.size
      have p6 := (P5.out.fresh hb6).putA (hown6.base (by simp; omega)) (HAP.out.apart hown6) hob6 (by omega)
      have P6 := Lib.hid p6
      have f6 := freeH (P5.out.fresh hb6).row
      obtain ⟨-, -, -, e3, -⟩ := (P5.out.fresh hb6).cells
      have HABS6 := Lib.hid habs6
      have all6 := (ALL5.out.fresh hb6).kept (w' := w6.setCell ⟨r, 3, none⟩ (.slice Q1 a'.length P1)) (fun g hg => Below.heap_setCell _ _ _ _ (fun e => by
        have h97 := ((ALL5.out.fresh hb6).row hg).2
        rw [show g = r from e] at h97
        cases h97.two ⟨_, _, (P5.out.fresh hb6).row⟩))
      have ALL6 := Lib.hid all6
      have T6 := Lib.hid (((((below_turn HBW5.out (RB r NV AV)).setCell (p := ⟨r, 2, none⟩) (.inl rfl) (.slice N1 n'.length M1)).then hb6).setCell (p := ⟨r, 3, none⟩) (.inl rfl) (.slice Q1 a'.length P1)))
      clear p6 hown6 habs6 hob6 hb6 all6 tr f5 e2 la
      go_wp2_with fail
      clear f6 e3
      generalize w6.setCell ⟨r, 3, none⟩ (.slice Q1 a'.length P1) = w7 at P6 ALL6 T6 ⊢
      go_loopw [9] (fun i W => ∃ (k : Nat) (nx : Int), k ≤ l1.length + l2.length ∧ i = .int .i64 k ∧ RHeapAt base W r (.slice N1 n'.length M1) (.slice Q1 a'.length P1) ⟨R.s0, R.s1, nx, n', a'⟩ ∧ nx = max R.next (nxt (absI ((l1 ++ l2).take k))) ∧ Own w.heap.size W (.slice A4 (l1.length + l2.length) k4) (l1 ++ l2) ∧ Turn (RB r NV AV) w W) (fun i _ => l1.length + l2.length - (intOf i).toNat)
      case atStart => exact ⟨0, R.next, Nat.zero_le _, rfl, P6.out, by simp [absI, nxt]; omega, (by have := ALL6.out; rw [HLL.out] at this; exact this), T6.out⟩
      case round =>
        obtain ⟨k, nx, hk, rfl, hp, hnxe, hal, ht⟩ := hrel
        have HP := Lib.hid hp
        have HNX := Lib.hid hnxe
        have HAL := Lib.hid hal
        have HT := Lib.hid ht
        have hnx0 : R.next ≤ nx := by rw [hnxe]; omega
        obtain ⟨-, -, -, -, c4⟩ := hp.cells
        have f4 := freeH hp.row
        clear hnxe ht
        by_cases hlt : k < l1.length + l2.length
        · obtain ⟨x, hx⟩ : ∃ x, (l1 ++ l2)[k]? = some x := ⟨_, List.getElem?_eq_getElem (by rw [HLL.out]; exact hlt)⟩
          obtain ⟨b, o, rfl, hat⟩ := (hal.raw (by rw [HLL.out]; exact hlen)).at hx
          have hfit := (HALL.out k x hx).1
          simp [fit1] at hfit
          obtain ⟨⟨hf1, hf2⟩, -⟩ := hfit
          have c0 := hat.c0
          have hw : wrap64 (x.a + 1) = x.a + 1 := by unfold wrap64; omega
          have HX := Lib.hid hx
          clear hx hat hp hal
          go_upto_region 14 with (fail)
          go_region_with (fail)
          all_goals go_wp2_with fail
          all_goals
            (go_roundw
             case rel =>
               refine ⟨k + 1, _, by omega, by go_num, HP.out.drew.setNext _, ?_, HAL.out.kept (fun g hg => Below.heap_setCell _ _ _ _ (fun e => ?_)), HT.out.drew.setCell (.inl rfl) _⟩
               · have h1 : absI ((l1 ++ l2).take (k + 1)) = absI ((l1 ++ l2).take k) ++ [(x.a, x.o)] := by rw [take_snoc HX.out]; simp [absI]
                 rw [h1, nxt_snoc]
                 have h2 := HNX.out
                 omega
               · have h97 := (HAL.out.row hg).2
                 rw [show g = r from e] at h97
                 cases h97.two ⟨_, _, HP.out.row⟩
             case measure => simp [intOf]; omega)
        · have he : k = l1.length + l2.length := by omega
          have hfin : nx = max R.next (nxt (absI l1 ++ absI l2)) := by
            have h2 := HNX.out
            rw [he, List.take_of_length_le (by rw [HLL.out]; omega)] at h2
            rw [h2]
            simp [absI]
          have HFIN := Lib.hid hfin
          clear hp hal he hfin
          go_wp2_with fail
          go_ret
          refine ⟨by rw [HF.out]; rfl, _, _, _, HP.out, ⟨fun e => absurd HF.out e, fun _ => ?_⟩, HT.out⟩
          simp [RM.abs, HABS5.out, HABS6.out, HFIN.out]
end Go.Proofs.Ytobniolmielikaa
