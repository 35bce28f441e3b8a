/- The contract of the heap's Replace, of maps whose objects lie in given blocks; no condition. -/
import Derived.Test.YtobniolmielikaaHeap12
namespace Go.Proofs.Ytobniolmielikaa
open Go.RowKit

set_option maxHeartbeats 4000000 in
theorem replaceO_any (ok : Nat → Prop) (w : World) (h y a b1 b2 : Nat) (H : HM) (m1 m2 : List (Int × Ob)) (hh : HeapAt w h y a H) (hb1 : ObjMapO ok w b1 m1) (hb2 : ObjMapO ok w b2 m2) (hok1 : ∀ k, ok k → k < w.heap.size) (hok2 : ∀ k, ok k → ¬ HB h y a k) (n1 : b1 ≠ y) (n2 : b1 ≠ a) (n3 : b2 ≠ y) (n4 : b2 ≠ a) :
    Calls Try.prog 31 #[.pointer (some ⟨h, 0, none⟩), .map (some b1), .map (some b2)] w fun e w' => e = .returned (.int .i64 (H.repl m1 m2)) ∧ ∃ H', HeapAt w' h y a H' ∧ Repl H m1 m2 H' ∧ Turn (HB h y a) w w' := by
  obtain ⟨hl1, hl2, hl3⟩ := hh.lt
  obtain ⟨c0, c1, c2, c3, c4⟩ := hh.cells
  have M := Lib.hid (made_any h y w c0)
  have HH := Lib.hid hh
  have OK1 := Lib.hid hok1
  have OK2 := Lib.hid hok2
  have B1 := Lib.hid hb1
  have B2 := Lib.hid hb2
  have NO := Lib.hid (show ∀ w', Below w.heap.size w w' → H.repl m1 m2 ≠ 0 → ∃ H', HeapAt w' h y a H' ∧ Repl H m1 m2 H' ∧ Turn (HB h y a) w w' from fun w' hb hne => ⟨H, HH.out.fresh hb, ⟨fun _ => rfl, fun e => absurd e hne⟩, below_turn hb _⟩)
  clear hh hb1 hb2 hok1 hok2 c0 c1 c2 c3 c4
  go_enter Try.func31, Try.ntmps31
  go_wp2_with fail
  refine M.out.mono ?_
  rintro e w1 ⟨rfl, rfl⟩
  go_wp2_with fail
  refine (fitsO_any ok _ b1 m1 B1.out OK1.out).mono ?_
  rintro e w2 ⟨rfl, hb⟩
  have HB2 := Lib.hid hb
  clear hb
  cases f1 : fitB m1 with
  | false =>
    have HF := Lib.hid (show H.repl m1 m2 = 1 by simp [HM.repl, f1])
    clear f1
    go_wp2_with fail
    go_ret
    exact ⟨by rw [HF.out]; rfl, NO.out _ HB2.out (by rw [HF.out]; decide)⟩
  | true =>
    have F1 := Lib.hid f1
    clear f1
    go_wp2_with fail
    refine (fitsO_any ok _ b2 m2 (B2.out.fresh HB2.out) (fun k hk => by have := OK1.out k hk; have := HB2.out.size; omega)).mono ?_
    rintro e w3 ⟨rfl, hb⟩
    have HB3 := Lib.hid (below_then HB2.out HB2.out.size hb)
    clear hb HB2
    cases f2 : fitB m2 with
    | false =>
      have HF := Lib.hid (show H.repl m1 m2 = 1 by simp [HM.repl, f2])
      clear f2
      go_wp2_with fail
      go_ret
      exact ⟨by rw [HF.out]; rfl, NO.out _ HB3.out (by rw [HF.out]; decide)⟩
    | true =>
      have F2 := Lib.hid f2
      clear f2
      obtain ⟨wi, hrun, hit, hwb, hws⟩ := ob_rangeO (B1.out.fresh HB3.out)
      have hsz3 := HB3.out.size
      have HIT := Lib.hid hit
      have HWB := Lib.hid (below_then HB3.out HB3.out.size hwb)
      clear hit hwb hws HB3
      go_wp2_with fail
      clear hrun
      go_loopg [] m1.length (fun g W => ∃ done todo : List (Int × Ob), g = todo.length ∧ (done ++ todo).Perm m1 ∧ meets done m2 = false ∧ ObIterO ok W w3.heap.size b1 m1 todo ∧ Below w1.heap.size w1 W)
      case atStart => exact ⟨[], m1, rfl, .refl _, rfl, HIT.out, HWB.out⟩
      case round =>
        obtain ⟨done, todo, rfl, hp, hd, hit, hb⟩ := hrel
        rcases ob_nextO hit (fun k hk e => by have := OK1.out k hk; have := hsz3; omega) 0 with ⟨h0, hrun⟩ | ⟨i, x, o, ra, wa, rc, wc, w', h1, hob, hrun, hit', ht, hs, hentry⟩
        · subst h0
          have hm := meets_perm (m2 := m2) hp
          rw [List.append_nil, hd] at hm
          have HMT := Lib.hid hm.symm
          have HB := Lib.hid hb
          clear hp hd hit hb hm
          have hh1 := HH.out.fresh HB.out
          have hob1 := B1.out.fresh HB.out
          have hob2 := B2.out.fresh HB.out
          obtain ⟨c0, c1, c2, c3, c4⟩ := hh1.cells
          have HH1 := Lib.hid hh1
          have O1 := Lib.hid hob1
          have O2 := Lib.hid hob2
          obtain ⟨l1, hma1, hk1⟩ := hob1
          obtain ⟨l2, hma2, hk2⟩ := hob2
          have hlen1 := fun n ty => run_len_map (P := Try.prog) (k := 3) (e := 25) Try.underlying52 (hma1.drewN n) ty
          have hlen10 := fun ty => run_len_map (P := Try.prog) (k := 3) (e := 25) Try.underlying52 hma1 ty
          have hlen2 := fun n ty => run_len_map (P := Try.prog) (k := 3) (e := 25) Try.underlying52 (hma2.drewN n) ty
          have hlen20 := fun ty => run_len_map (P := Try.prog) (k := 3) (e := 25) Try.underlying52 hma2 ty
          simp only [hk1.length] at hlen1 hlen10
          simp only [hk2.length] at hlen2 hlen20
          clear hk1 hk2 hma1 hma2 hh1
          by_cases t1 : H.nur < m1.length
          · have HF := Lib.hid (show H.repl m1 m2 = 33 by simp [HM.repl, F1.out, F2.out, HMT.out, t1])
            go_upto_region 11 with (fail)
            go_quiet (fail)
            go_wp2_with fail
            go_ret
            exact ⟨by rw [HF.out]; rfl, NO.out _ (below_drewN HB.out _) (by rw [HF.out]; decide)⟩
          · by_cases t2 : H.eld < m2.length
            · have HF := Lib.hid (show H.repl m1 m2 = 33 by simp [HM.repl, F1.out, F2.out, HMT.out, t2])
              go_upto_region 11 with (fail)
              go_quiet (fail)
              go_wp2_with fail
              go_ret
              exact ⟨by rw [HF.out]; rfl, NO.out _ (below_drewN HB.out _) (by rw [HF.out]; decide)⟩
            · have HF := Lib.hid (show H.repl m1 m2 = 0 by simp [HM.repl, F1.out, F2.out, HMT.out]; omega)
              have K1 := Lib.hid (fitB_keys F1.out)
              have K2 := Lib.hid (fitB_keys F2.out)
              have X := Lib.hid (show max (nxt m1) (max (nxt m2) 0) = max (nxt m1) (max (nxt m2) 0) from rfl)
              go_upto_region 11 with (fail)
              go_quiet (fail)
              go_upto_region 13 with (fail)
              have HHn := Lib.hid (HH1.out.drewN nq)
              have O1n := Lib.hid (show ObjMapO ok (wr.drewN nq) b1 m1 from O1.out)
              have O2n := Lib.hid (show ObjMapO ok (wr.drewN nq) b2 m2 from O2.out)
              have HBn := Lib.hid (below_drewN HB.out nq)
              clear HH1 O1 O2 HB hlen1 hlen2 hlen10 hlen20 c2 c3
              have d0 : (wr.drewN nq).cell? ⟨h, 0, none⟩ = some (.map (some y)) := c0
              have d1 : (wr.drewN nq).cell? ⟨h, 1, none⟩ = some (.map (some a)) := c1
              have d4 : (wr.drewN nq).cell? ⟨h, 4, none⟩ = some (.int .i64 H.next) := c4
              clear c0 c1 c4
              have hszn := HBn.out.size
              generalize wr.drewN nq = wn at *
              go_region_with (first
                | (go_at_call_of 65 (Value.map (some b1)); refine (refillO_any ok _ y b1 H.ly m1 HHn.out.drew.young (O1n.out.fresh (Below.refl _ _).drew) (fun k hk => by have := OK1.out k hk; show k < wn.heap.size; omega) (fun k hk e => OK2.out k hk (.inr (.inl e))) (by omega) K1.out).mono ?_; rintro e w5 ⟨rfl, ly, hpy, hmy, hty⟩; have HPY := Lib.hid hpy; have HN5 := Lib.hid (HeapAt.reYoung HHn.out.drew hty hmy); have O25 := Lib.hid (ObjMapO.turn (O2n.out.fresh (Below.refl _ _).drew) hty n3 (fun k hk e => OK2.out k hk (.inr (.inl e)))); have T5 := Lib.hid ((below_turn HBn.out.drew (HB h y a)).under hty (fun k _ e => .inr (.inl e))); have hs5 : wn.heap.size ≤ w5.heap.size := hty.size; obtain ⟨e0, e1, -, -, e4⟩ := HN5.out.cells; clear hpy hmy hty)
                | (go_at_call 65; refine (refillO_any ok _ a b2 H.la m2 HN5.out.old O25.out (fun k hk => by have := OK1.out k hk; omega) (fun k hk e => OK2.out k hk (.inr (.inr e))) (by omega) K2.out).mono ?_; rintro e w6 ⟨rfl, la, hpa, hma, hta⟩; have HPA := Lib.hid hpa; have HN6 := Lib.hid (HeapAt.reOld HN5.out hta hma); have T6 := Lib.hid (T5.out.under hta (fun k _ e => .inr (.inr e))); obtain ⟨i0, i1, -, -, i4⟩ := HN6.out.cells; have hf6 := freeH HN6.out.row; clear hpa hma hta))
              all_goals go_wp2_with fail
              all_goals go_ret
              all_goals exact ⟨by rw [HF.out]; rfl, _, HN6.out.setNext _, ⟨fun e => absurd HF.out e, fun _ => ⟨rfl, rfl, HPY.out, HPA.out, by dsimp only; first | omega | (simp only [*]; omega) | (split at * <;> omega)⟩⟩, T6.out.setCell (.inl rfl) _⟩
        · have hmem : (x, o) ∈ m1 := hp.mem_iff.1 (List.mem_append_right _ (List.mem_of_getElem? h1))
          have hb' : Below w1.heap.size w1 w' := hb.trans (ht.below (by have := hb.size; omega) (fun k e => by omega))
          have hp' : ((done ++ [(x, o)]) ++ todo.eraseIdx i).Perm m1 := by
            rw [List.append_assoc]
            exact ((perm_erase todo i _ h1).append_left done).trans hp
          have hlen : (todo.eraseIdx i).length < todo.length := by
            have := (List.getElem?_eq_some_iff.1 h1).1
            rw [List.length_eraseIdx_of_lt this]; omega
          have HMEM := Lib.hid hmem
          have HP := Lib.hid hp'
          have HD := Lib.hid hd
          have HB := Lib.hid hb'
          have HI := Lib.hid hit'
          have hsz := hb'.size
          obtain ⟨la, hma, hka⟩ := B2.out.fresh hb'
          have la0 := run_lookup_map (P := Try.prog) (t := 52) (k := 3) (e := 25) Try.underlying52 Try.underlying3 (zero25 _) hma x true
          clear hmem hp hp' hd hb hb' hit hit' hob h1 ht
          rcases hka.get x with ⟨g3, g4⟩ | ⟨v, o2, g3, g4, hv⟩
          · have HG := Lib.hid g4
            simp only [g3, Option.getD_none, Option.isSome_none] at la0
            clear hma hka g3 g4
            go_wp2_with fail
            go_roundg (todo.eraseIdx i).length
            case measure => exact hlen
            case rel =>
              refine ⟨done ++ [(x, o)], todo.eraseIdx i, rfl, HP.out, ?_, HI.out.fresh ((Below.refl _ _).alloc (Nat.le_refl _) _), HB.out.alloc (by omega) _⟩
              have := HD.out
              simp only [meets, List.any_append, Bool.or_eq_false_iff] at this ⊢
              exact ⟨this, by simp [HG.out]⟩
          · obtain ⟨ra2, rc2, wa2, wc2, rfl⟩ := hv.open
            have HF := Lib.hid (show H.repl m1 m2 = 1 by
              have : meets m1 m2 = true := List.any_eq_true.2 ⟨_, HMEM.out, by simp [g4]⟩
              simp [HM.repl, this])
            simp only [g3, Option.getD_some, Option.isSome_some] at la0
            clear hma hka g3 g4 hv
            go_wp2_with fail
            go_ret
            exact ⟨by rw [HF.out]; rfl, NO.out _ (HB.out.alloc (by omega) _) (by rw [HF.out]; decide)⟩
end Go.Proofs.Ytobniolmielikaa
