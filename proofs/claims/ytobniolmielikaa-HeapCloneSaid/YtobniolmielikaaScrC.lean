/- The walk of the law HeapClone; no condition. -/
import Derived.Test.YtobniolmielikaaAdr5
import Derived.Test.YtobniolmielikaaSoft
namespace Go.Proofs.Ytobniolmielikaa
open Go.RowKit

/-- What the copy holds after k keys. -/
structure CSt (H : HM) (k : Nat) (H' : HM) : Prop where
  la : ∀ x, (Go.Proofs.Ytobniolmielikaa.get H'.la x).isSome = (Go.Proofs.Ytobniolmielikaa.get H.la x).isSome
  ly : ∀ x, (Go.Proofs.Ytobniolmielikaa.get H'.ly x).isSome = (Go.Proofs.Ytobniolmielikaa.get H.ly x).isSome
  cy : ∀ j, j < k → ∀ z, H.addrs[j]? = some z → ∀ o, Go.Proofs.Ytobniolmielikaa.get H'.ly z = some o → o.refs = []
  ca : ∀ j, j < k → ∀ z, H.addrs[j]? = some z → ∀ o, Go.Proofs.Ytobniolmielikaa.get H'.la z = some o → o.refs = []
  ks : KeysIn H'.la
  len : H'.la.length ≤ 65536

theorem is_key (l : List (Int × Ob)) (x : Int) : x ∈ keysOf l ↔ (Go.Proofs.Ytobniolmielikaa.get l x).isSome = true := by
  cases h : Go.Proofs.Ytobniolmielikaa.get l x with
  | none => exact ⟨fun hx => absurd hx (get_none.1 h), fun hx => by cases hx⟩
  | some o =>
    refine ⟨fun _ => rfl, fun _ => Classical.byContradiction fun hn => ?_⟩
    have := get_none.2 hn
    rw [this] at h
    cases h
theorem cst_set {H H' : HM} {k : Nat} {z : Int} (st : CSt H k H') (hz : H.addrs[k]? = some z) (dj : ∀ x, (Go.Proofs.Ytobniolmielikaa.get H.ly x).isSome = true → (Go.Proofs.Ytobniolmielikaa.get H.la x).isSome = true → False)
    (ina : ∀ x, x ∈ H.addrs ↔ ((Go.Proofs.Ytobniolmielikaa.get H.ly x).isSome = true ∨ (Go.Proofs.Ytobniolmielikaa.get H.la x).isSome = true)) (_ny : (H'.ly.map (·.1)).Nodup) (na : (H'.la.map (·.1)).Nodup) :
    (H'.set z ⟨1, 1, 0, [], []⟩).1 = 0 ∧ CSt H (k + 1) (H'.set z ⟨1, 1, 0, [], []⟩).2 := by
  have hv : vld ⟨1, 1, 0, [], []⟩ = true := by decide
  have hin := (ina z).1 (List.mem_of_getElem? hz)
  unfold HM.set
  rw [if_pos hv]
  cases hy : Go.Proofs.Ytobniolmielikaa.get H'.ly z with
  | some o =>
    have h1 : (Go.Proofs.Ytobniolmielikaa.get H.ly z).isSome = true := by rw [← st.ly, hy]; rfl
    refine ⟨rfl, ⟨st.la, fun x => ?_, fun j hj x hx p hp => ?_, fun j hj x hx p hp => ?_, st.ks, st.len⟩⟩
    · dsimp only
      rw [get_put]
      split
      · rename_i e; rw [e, h1]; rfl
      · exact st.ly x
    · dsimp only at hp
      rw [get_put] at hp
      split at hp
      · cases hp; rfl
      · rename_i hne
        refine st.cy j ?_ x hx p hp
        refine Nat.lt_of_le_of_ne (by omega) fun e => hne ?_
        subst e
        rw [hz] at hx
        exact (Option.some.inj hx).symm
    · by_cases hjk : j = k
      · subst hjk
        rw [hz] at hx
        cases hx
        have h2 : (Go.Proofs.Ytobniolmielikaa.get H.la z).isSome = true := by rw [← st.la]; rw [show Go.Proofs.Ytobniolmielikaa.get H'.la z = some p from hp]; rfl
        exact (dj z h1 h2).elim
      · exact st.ca j (by omega) x hx p hp
  | none =>
    have h0 : (Go.Proofs.Ytobniolmielikaa.get H.ly z).isSome = false := by rw [← st.ly, hy]; rfl
    have h1 : (Go.Proofs.Ytobniolmielikaa.get H.la z).isSome = true := hin.resolve_left (by rw [h0]; decide)
    cases ha : Go.Proofs.Ytobniolmielikaa.get H'.la z with
    | none => rw [← st.la, ha] at h1; cases h1
    | some o =>
      refine ⟨rfl, ⟨fun x => ?_, st.ly, fun j hj x hx p hp => ?_, fun j hj x hx p hp => ?_, fun p hp => ?_, by dsimp only; rw [put_len na ha]; exact st.len⟩⟩
      · dsimp only
        rw [get_put]
        split
        · rename_i e; rw [e, h1]; rfl
        · exact st.la x
      · by_cases hjk : j = k
        · subst hjk
          rw [hz] at hx
          cases hx
          rw [show Go.Proofs.Ytobniolmielikaa.get H'.ly z = some p from hp] at hy
          cases hy
        · exact st.cy j (by omega) x hx p hp
      · dsimp only at hp
        rw [get_put] at hp
        split at hp
        · cases hp; rfl
        · rename_i hne
          refine st.ca j ?_ x hx p hp
          refine Nat.lt_of_le_of_ne (by omega) fun e => hne ?_
          subst e
          rw [hz] at hx
          exact (Option.some.inj hx).symm
      · obtain ⟨q, hq, e⟩ := put_mem na ha hp
        rw [← e]
        exact st.ks q hq
theorem cst_rem {H H' : HM} (st : CSt H H.addrs.length H') (ina : ∀ x, x ∈ H.addrs ↔ ((Go.Proofs.Ytobniolmielikaa.get H.ly x).isSome = true ∨ (Go.Proofs.Ytobniolmielikaa.get H.la x).isSome = true)) (na : (H'.la.map (·.1)).Nodup) : H'.rem = [] := by
  have e : H'.la.filter (fun p => refsTo H'.ly p.2) = [] := by
    refine List.filter_eq_nil_iff.2 fun p hp => ?_
    have hg : Go.Proofs.Ytobniolmielikaa.get H'.la p.1 = some p.2 := (get_mem na).2 hp
    have h1 : p.1 ∈ H.addrs := (ina p.1).2 (.inr (by rw [← st.la, hg]; rfl))
    obtain ⟨j, hj⟩ := List.getElem?_of_mem h1
    have := st.ca j (List.getElem?_eq_some_iff.1 hj).1 p.1 hj p.2 hg
    simp [refsTo, this]
  unfold HM.rem
  rw [e]
  simp [keysOf, srt]

set_option maxRecDepth 4000 in
set_option maxHeartbeats 4000000 in
theorem heapClone_law (w : World) (n m : Int) (v : Value) (l : List Opn) (h : Ops w.heap.size w v l) :
    Calls Try.prog 7 #[.agg #[.int .i64 n, .int .i64 m, v]] w fun e w' => e = .returned (.bool true) ∧ Below w.heap.size w w' := by
  obtain ⟨A, c, rfl⟩ := h.shape
  have HS := Lib.hid h
  have bw : Below w.heap.size w (w.alloc (.cells #[.int .i64 n, .int .i64 m, .slice A l.length c] 41)) := (Below.refl _ _).alloc (Nat.le_refl _) _
  have BW := Lib.hid bw
  have x0 := new0 w (.cells #[.int .i64 n, .int .i64 m, .slice A l.length c] 41)
  have X0 := Lib.hid x0
  have c0 := cellsH x0
  have z0 := bw.size
  clear h bw x0
  go_enter Try.func7, Try.ntmps7
  go_upto_region 1 with (fail)
  generalize w.alloc (.cells #[.int .i64 n, .int .i64 m, .slice A l.length c] 41) = w0 at *
  go_wp2_with fail
  refine (bounded_any w.heap.size _ n m _ l (HS.out.below BW.out) z0).mono ?_
  rintro e w1 ⟨rfl, hb⟩
  have B1 := Lib.hid (below_then BW.out z0 hb)
  have x1 := rowB hb X0.out (heap_lt X0.out)
  have c1 := cellsH x1
  have z1 := B1.out.size
  clear hb c0 x1
  cases hbd : bndB l with
  | false =>
    clear hbd
    go_wp2_with fail
    refine (example_any _).mono ?_
    rintro e w2 ⟨rfl, hb⟩
    have B2 := Lib.hid (below_then B1.out z1 hb)
    clear hb
    go_wp2_with fail
    go_ret
    exact ⟨rfl, B2.out⟩
  | true =>
    have BD := Lib.hid hbd
    clear hbd
    go_wp2_with fail
    refine (run_any _ n m _ l ((HS.out.below B1.out).up z1) BD.out).mono ?_
    rintro e w2 ⟨hran, hb⟩
    have B2 := Lib.hid (below_then B1.out z1 hb)
    have z2 := hb.size
    clear hb c1
    rcases hran with ⟨-, rfl⟩ | ⟨h, y, a, r, NV, AV, H, R, rfl, ht, hr⟩
    · go_wp2_with fail
      refine (example_any _).mono ?_
      rintro e w3 ⟨rfl, hb⟩
      have B3 := Lib.hid (below_then B2.out B2.out.size hb)
      clear hb
      go_wp2_with fail
      go_ret
      exact ⟨rfl, B3.out⟩
    · have T2 := Lib.hid ht
      have RL := Lib.hid hr
      have g1 : w.heap.size ≤ h := by have := ht.bh; omega
      have g2 : w.heap.size ≤ y := by have := ht.bY; omega
      have g3 : w.heap.size ≤ a := by have := ht.ba; omega
      clear ht hr
      have hk1 := Lib.hid (RL.out.keysY (by omega))
      have hk2 := Lib.hid (RL.out.keysA (by omega))
      have hl1 := RL.out.ln
      have hl2 := RL.out.le
      have hn2 := RL.out.n2
      have he2 := RL.out.e2
      go_wp2_with fail
      refine (clone39_any _ h y a H T2.out.p hk1.out hk2.out).mono ?_
      rintro e w3 ⟨h', y', a', ly, la, rfl, hp3, p1, p2, j1, j2, j3, hb⟩
      have BC := Lib.hid hb
      have T3 := Lib.hid (T2.out.fresh hb)
      have B3 := Lib.hid (below_then B2.out B2.out.size hb)
      have P3 := Lib.hid hp3
      have PY := Lib.hid p1
      have PA := Lib.hid p2
      have z2a := B2.out.size
      have z3 := B3.out.size
      have KY := Lib.hid (show KeysIn ly from fun q hq => hk1.out q (p1.mem_iff.1 hq))
      have KA := Lib.hid (show KeysIn la from fun q hq => hk2.out q (p2.mem_iff.1 hq))
      have e1 := p1.length_eq
      have e2 := p2.length_eq
      have E1 := Lib.hid e1
      have E2 := Lib.hid e2
      clear hp3 hb p1 p2 e1 e2
      go_wp2_with fail
      refine (addrs_any _ h' y' a' ⟨H.nur, H.eld, H.next, ly, la⟩ P3.out KY.out KA.out (by have := E1.out; dsimp only; omega) (by have := E2.out; dsimp only; omega)).mono ?_
      rintro e w4 ⟨u4, rfl, hu, hb⟩
      have hal : HM.addrs ⟨H.nur, H.eld, H.next, ly, la⟩ = H.addrs := srt_perm ((PY.out.map (fun p : Int × Ob => p.1)).append (PA.out.map (fun p : Int × Ob => p.1)))
      rw [hal] at hu
      obtain ⟨A4, k4, rfl⟩ := hu.shape
      have hul := Ints.len hu
      have U4 := Lib.hid hu
      have T4 := Lib.hid (T3.out.fresh hb)
      have P4 := Lib.hid (P3.out.fresh hb)
      have B4 := Lib.hid (below_then B3.out z3 hb)
      have z4 := B4.out.size
      have zz4 := hb.size
      have B24 := Lib.hid (below_then BC.out BC.out.size hb)
      have NRW := Lib.hid (show ∀ k, IsRow 3 w4 k → ¬ HB h' y' a' k from P4.out.notRow)
      clear hu hb hal
      have DJ := Lib.hid (show ∀ x, (Go.Proofs.Ytobniolmielikaa.get H.ly x).isSome = true → (Go.Proofs.Ytobniolmielikaa.get H.la x).isSome = true → False from by
        intro x h1 h2
        obtain ⟨o1, e1⟩ := Option.isSome_iff_exists.1 h1
        obtain ⟨o2, e2⟩ := Option.isSome_iff_exists.1 h2
        exact RL.out.dj (x, o1) (RL.out.ly.mem_iff.1 ((get_mem RL.out.ndy).1 e1)) (x, o2) (RL.out.la.mem_iff.1 ((get_mem RL.out.nda).1 e2)) rfl)
      have INA := Lib.hid (show ∀ x, x ∈ H.addrs ↔ ((Go.Proofs.Ytobniolmielikaa.get H.ly x).isSome = true ∨ (Go.Proofs.Ytobniolmielikaa.get H.la x).isSome = true) from by
        intro x
        have h1 : x ∈ H.addrs ↔ x ∈ keysOf H.ly ++ keysOf H.la := List.mem_mergeSort
        rw [h1, List.mem_append, is_key, is_key])
      have S0 := Lib.hid (show CSt H 0 ⟨H.nur, H.eld, H.next, ly, la⟩ from ⟨fun x => by rw [get_perm PA.out ((PA.out.map _).nodup_iff.2 RL.out.nda)], fun x => by rw [get_perm PY.out ((PY.out.map _).nodup_iff.2 RL.out.ndy)], fun j hj => by omega, fun j hj => by omega, KA.out, by have := E2.out; dsimp only; omega⟩)
      have hg3 := P3.out.lt
      obtain ⟨i1, i2, i3⟩ := hg3
      go_wp2_with fail
      go_loopw [8] (fun i W => ∃ (k : Nat) (H' : HM), k ≤ H.addrs.length ∧ i = .int .i64 k ∧ HeapAt W h' y' a' H' ∧ CSt H k H' ∧ Ints (w3.heap.size ≤ ·) W (.slice A4 H.addrs.length k4) H.addrs ∧ Below w2.heap.size w2 W) (fun i _ => H.addrs.length - (intOf i).toNat)
      case atStart => exact ⟨0, _, Nat.zero_le _, rfl, P4.out, S0.out, U4.out, B24.out⟩
      case round =>
        obtain ⟨k, H', hk, rfl, hp, hst, hu, hb⟩ := hrel
        have HP := Lib.hid hp
        have HST := Lib.hid hst
        have HU := Lib.hid hu
        have HB := Lib.hid hb
        have TW := Lib.hid (T2.out.fresh hb)
        have zb := hb.size
        obtain ⟨N0, hN0⟩ : ∃ N0, N0 = wr.heap.size := ⟨_, rfl⟩
        have HN0 := Lib.hid hN0
        by_cases hlt : k < H.addrs.length
        · obtain ⟨ad, eA, hc⟩ := Ints.cell hu hlt
          have hz := List.getElem?_eq_getElem hlt
          generalize H.addrs[k] = z at hc hz
          have HZ := Lib.hid hz
          have HLT := Lib.hid hlt
          subst eA
          clear hp hst hu hb hz hN0
          go_wp2_with fail
          refine (get_soft _ h y a H z TW.out.p).mono ?_
          rintro e w5 ⟨v5, rfl, hv5, hs5, hb⟩
          obtain ⟨ra5, rc5, wa5, wc5, rfl⟩ := hv5.open
          obtain ⟨q1, q2, q3, q4, q5, eq5, hsf⟩ := hs5
          have e4 : q4 = .slice ra5 (H.get z).1.refs.length rc5 := by
            simp only [Value.agg.injEq, Array.mk.injEq, List.cons.injEq] at eq5
            exact eq5.2.2.2.1.symm
          subst e4
          generalize (H.get z).1 = ob at *
          have bz : Below w5.heap.size w5 (w5.alloc (.cells #[.int .i64 ob.op, .int .i64 ob.n, .int .i64 ob.ar, .slice ra5 ob.refs.length rc5, .slice wa5 ob.words.length wc5] 25)) := (Below.refl _ _).alloc (Nat.le_refl _) _
          have y5 := new0 w5 (.cells #[.int .i64 ob.op, .int .i64 ob.n, .int .i64 ob.ar, .slice ra5 ob.refs.length rc5, .slice wa5 ob.words.length wc5] 25)
          have b5 := below_then hb hb.size bz
          have B5 := Lib.hid b5
          have z5 := hb.size
          have Y6 := Lib.hid y5
          obtain ⟨rv, wv, ev, hrf, -⟩ := hv5.fresh bz
          have e3 : rv = .slice ra5 ob.refs.length rc5 := by
            simp only [Value.agg.injEq, Array.mk.injEq, List.cons.injEq] at ev
            exact ev.2.2.2.1.symm
          subst e3
          have hrl := Ints.len hrf
          have ROW := Lib.hid (show 0 < ob.refs.length → ∃ g cs, ra5 = some ⟨g, 0, none⟩ ∧ N0 ≤ g ∧ (w5.alloc (.cells #[.int .i64 ob.op, .int .i64 ob.n, .int .i64 ob.ar, .slice ra5 ob.refs.length rc5, .slice wa5 ob.words.length wc5] 25)).heap[g]? = some (.cells cs 3) ∧ ob.refs.length ≤ cs.size from by
            intro h0
            rcases hsf.fresh bz with e | ⟨g, m', c', cs, e, hg⟩
            · simp only [Value.slice.injEq] at e; omega
            · simp only [Value.slice.injEq] at e
              obtain ⟨e1, e2, e3⟩ := e
              subst e1
              obtain ⟨A', cap, ee, _, _, _, h4, _⟩ := hrf
              cases ee
              obtain ⟨ad', ea, hok, _, hcc⟩ := h4 h0
              cases ea
              refine ⟨g, cs, rfl, by rw [HN0.out]; exact hok.1, hg, ?_⟩
              have hl := hcc (ob.refs.length - 1) _ (List.getElem?_eq_getElem (by omega))
              rw [Addr.add_lit, Nat.zero_add, cellsH hg] at hl
              have := (Array.getElem?_eq_some_iff.1 hl).1
              omega)
          go_upto_region 12 with (fail)
          clear hv5 hsf hrf hb bz y5 b5 hc
          generalize w5.alloc (.cells #[.int .i64 ob.op, .int .i64 ob.n, .int .i64 ob.ar, .slice ra5 ob.refs.length rc5, .slice wa5 ob.words.length wc5] 25) = w6 at B5 Y6 ROW ⊢
          have z6 := B5.out.size
          go_wp2_with fail
          go_loopw [11] (fun q W => ∃ j : Nat, j ≤ ob.refs.length ∧ q = .int .i64 j ∧ W.heap[w5.heap.size]? = some (.cells #[.int .i64 ob.op, .int .i64 ob.n, .int .i64 ob.ar, .slice ra5 ob.refs.length rc5, .slice wa5 ob.words.length wc5] 25) ∧ (0 < ob.refs.length → ∃ g cs, ra5 = some ⟨g, 0, none⟩ ∧ N0 ≤ g ∧ W.heap[g]? = some (.cells cs 3) ∧ ob.refs.length ≤ cs.size) ∧ Below N0 w6 W) (fun q _ => ob.refs.length - (intOf q).toNat)
          case atStart => exact ⟨0, Nat.zero_le _, rfl, Y6.out, ROW.out, Below.refl _ _⟩
          case round =>
            obtain ⟨j, hj, rfl, hy, hrow, hb⟩ := hrel
            have c9 := cellsH hy
            have HY := Lib.hid hy
            have HROW := Lib.hid hrow
            have HBI := Lib.hid hb
            by_cases hlt2 : j < ob.refs.length
            · obtain ⟨g, cs, rfl, hgb, hg, hsz⟩ := hrow (by omega)
              have hgy : w5.heap.size ≠ g := by
                rintro rfl
                rw [hy] at hg
                simp at hg
              have hcg : wr.cell? ⟨g, j, none⟩ = some cs[j] := row_cells hg j _ (Array.getElem?_eq_getElem (by omega))
              have hfg := freeH hg
              generalize hcv : cs[j] = cv at hcg
              have HG := Lib.hid hg
              have HLT2 := Lib.hid hlt2
              have HSZ := Lib.hid hsz
              clear hy hrow hb hg hcv hsz
              go_wp2_with fail
              go_roundw
              case rel => exact ⟨j + 1, by have := HLT2.out; omega, by go_num, rowSetNe HY.out hgy _, fun _ => ⟨g, _, rfl, hgb, rowSet HG.out j _, by simpa using HSZ.out⟩, HBI.out.setCell hgb _⟩
              case measure => have := HLT2.out; simp [intOf]; omega
            · have BT := Lib.hid (B5.out.trans (HN0.out ▸ hb : Below _ _ _))
              clear hy hrow hb
              have hpx := HP.out.fresh BT.out
              have HPX := Lib.hid hpx
              have HUX := Lib.hid (HU.out.fresh BT.out)
              have HBX := Lib.hid (below_then HB.out zb BT.out)
              obtain ⟨ad2, eA, hc⟩ := Ints.cell HUX.out hlt
              rw [(List.getElem?_eq_some_iff.1 HZ.out).2] at hc
              cases eA
              have CS := Lib.hid (cst_set HST.out HZ.out DJ.out INA.out hpx.young.nodup hpx.old.nodup)
              clear hpx
              go_wp2_with fail
              refine (set_any (fun _ => True) wr h' y' a' H' z _ ⟨1, 1, 0, [], []⟩ HPX.out ⟨_, _, rfl, ints0 _ _, ints0 _ _⟩).mono ?_
              rintro e w8 ⟨rfl, hh8, ht8⟩
              rw [CS.out.1]
              have zx := HBX.out.size
              have HP8 := Lib.hid hh8
              have HU8 := Lib.hid (HUX.out.turn ht8 (fun b hb e => by rcases e with e | e | e <;> omega))
              have HB8 := Lib.hid (HBX.out.trans (ht8.below zx (fun b e => by rcases e with e | e | e <;> omega)))
              clear hh8 ht8 c9 hc
              go_wp2_with fail
              go_roundw
              case rel => exact ⟨k + 1, _, by have := HLT.out; omega, by go_num, HP8.out, CS.out.2, HU8.out, HB8.out⟩
              case measure => have := HLT.out; simp [intOf]; omega
        · have he : k = H.addrs.length := by omega
          have HE := Lib.hid he
          have BW := Lib.hid (below_then B2.out z2a hb)
          have REM := Lib.hid (cst_rem (he ▸ hst) INA.out hp.old.nodup)
          clear hst hu hp hb he
          go_wp2_with fail
          refine (agree_any _ _ h y a r NV AV H R TW.out RL.out).mono ?_
          rintro e w5 ⟨rfl, hb⟩
          have HP5 := Lib.hid (HP.out.fresh hb)
          have B5 := Lib.hid (below_then BW.out BW.out.size hb)
          clear hb
          go_wp2_with fail
          refine (remembered_any _ h' y' a' H' HP5.out HST.out.ks HST.out.len).mono ?_
          rintro e w6 ⟨u6, rfl, hu, hb⟩
          rw [REM.out] at hu
          obtain ⟨A6, k6, rfl⟩ := hu.shape
          have B6 := Lib.hid (below_then B5.out B5.out.size hb)
          clear hu hb
          go_wp2_with fail
          refine (example_any _).mono ?_
          rintro e w7 ⟨rfl, hb⟩
          have B7 := Lib.hid (below_then B6.out B6.out.size hb)
          clear hb
          go_wp2_with fail
          go_ret
          exact ⟨rfl, B7.out⟩
end Go.Proofs.Ytobniolmielikaa
