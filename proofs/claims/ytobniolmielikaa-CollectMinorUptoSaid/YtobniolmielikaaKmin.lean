/- The statement CollectMinor, where what it reads is of bulk at most 1048576: for every heap and roots the call answers true and turns nothing; no other condition. -/
import Derived.Test.YtobniolmielikaaZao
import Derived.Test.YtobniolmielikaaZaf
import Derived.Test.YtobniolmielikaaZas
import Derived.Test.YtobniolmielikaaZat
import Derived.Lib.SmallJoins
/- The reference's Auto; no condition. -/
namespace Go.Proofs.Ytobniolmielikaa
open Go.RowKit

theorem RGcEnd.fresh {base : Nat} {w W W' : World} {r : Nat} {NV AV : Value} {R : RM} {roots : List Int} {s : Int × List Int} {mi ma pe : Int} {m : List (Int × Ob)} {e : Ending} (g : RGcEnd base w r NV AV R roots s mi ma pe m e W) (hb : Below W.heap.size W W') : RGcEnd base w r NV AV R roots s mi ma pe m e W' :=
  ⟨g.turn.then hb, by obtain ⟨a1, a2, a3, a4, a5⟩ := g.heap; exact ⟨a1, a2, a3, a4.fresh hb, a5⟩, g.no, (fun h => by obtain ⟨v, e, i⟩ := g.yes h; exact ⟨v, e, i.fresh hb⟩), fun h => (g.same h).fresh hb⟩
set_option maxRecDepth 100000 in
set_option maxHeartbeats 2000000 in
theorem rauto_major (base : Nat) (ok : Nat → Prop) (w : World) (r : Nat) (NV AV : Value) (R : RM) (rv : Value) (roots : List Int) (hh : RHeapAt base w r NV AV R) (hW : RWel R) (hbase : base ≤ w.heap.size) (hr : Ints ok w rv roots) (hok : ∀ k, ok k → ¬ RB r NV AV k) (hvol : R.abs.fuel roots ≤ 500000) (hm : (R.abs.minor roots).1 = 33) :
    Calls Try.prog 49 #[.pointer (some ⟨r, 0, none⟩), rv] w fun e w' => RGcEnd base w r NV AV R roots (R.abs.major roots) 0 1 (R.abs.major roots).2.length (R.abs.news (R.abs.major roots).2) e w' := by
  obtain ⟨A, c, rfl⟩ := hr.shape
  obtain ⟨Z, hZ⟩ : ∃ Z : Obj, Obj.cells (statA 0 0 0 0) 75 = Z := ⟨_, rfl⟩
  have HBX := Lib.hid (show (w.alloc Z).heap[w.heap.size]? = some (.cells (statA 0 0 0 0) 75) by rw [new0, ← hZ])
  have HM := Lib.hid (rminor_any base (fun k => k < w.heap.size ∧ ok k) (w.alloc Z) r NV AV R _ roots (hh.fresh ((Below.refl _ _).alloc (Nat.le_refl _) _)) hW (by simp; omega) ((hr.mono (fun k h1 h2 => ⟨h1, h2⟩)).alloc Z) hvol)
  have HE := Lib.hid hm
  have HROK := Lib.hid (hr.mono (ok' := fun k => k < w.heap.size ∧ ok k) (fun k h1 h2 => ⟨h1, h2⟩))
  have HOK := Lib.hid hok
  have HH := Lib.hid hh
  have hhl := hh.lt
  have LOW := Lib.hid (show ∀ k, RB r NV AV k → k < w.heap.size from fun k e => by
    rcases e with rfl | e | e
    · exact hh.lt
    · exact (hh.nown.lt k e).2
    · exact (hh.aown.lt k e).2)
  clear hh hr hm hok
  go_enter Try.func49, Try.ntmps49
  go_wp2_with fail
  refine HM.out.mono ?_
  rintro e w1 ⟨ht, -, hno, -, hsame⟩
  have he := hno (by rw [HE.out]; decide)
  have hR1 := hsame (by rw [HE.out]; decide)
  rw [HE.out] at he
  subst he
  have hz1 := ht.size
  simp only [World.size_alloc] at hz1
  have hbx1 := rowT ht HBX.out (by intro e; have := LOW.out _ e; omega)
  have hzr : (w1.alloc Z).heap[w1.heap.size]? = some (.cells (statA 0 0 0 0) 75) := by rw [new0, ← hZ]
  obtain ⟨ws, hws, hbs⟩ : ∃ W, W = set8 (w1.alloc Z) w1.heap.size (.int .i64 0) (.int .i64 0) (.int .i64 0) (.int .i64 0) (.int .i64 0) (.int .i64 0) (.int .i64 0) (.int .i64 0) ∧ Below w1.heap.size w1 W :=
    ⟨_, rfl, ((Below.refl _ _).alloc (Nat.le_refl _) Z).trans ((set8_turn (S := fun q => q = w1.heap.size) (Turn.refl _ _) rfl _ _ _ _ _ _ _ _).below (by simp) (fun q e => by omega))⟩
  unfold set8 set5 at hws
  have cz := cellsH hzr
  have fz := freeH hzr
  have T1 := Lib.hid ((below_turn ((Below.refl w.heap.size w).alloc (Nat.le_refl _) Z) (RB r NV AV)).trans ht)
  have HS := Lib.hid (hR1.fresh hbs)
  have HBXs := Lib.hid (rowB hbs hbx1 (heap_lt hbx1))
  have TS := Lib.hid (T1.out.then hbs)
  have HRs := Lib.hid ((HROK.out.turn T1.out (fun k hk => HOK.out k hk.2)).fresh hbs)
  clear ht hR1 hbx1 hzr hno hsame
  go_upto_region 4 with (fail)
  rw [← hws]
  clear cz fz hws hZ
  have hzs := TS.out.size
  go_wp2_with fail
  refine (rmajor_any base _ ws r NV AV R _ roots HS.out hW (by omega) HRs.out (by omega)).mono ?_
  rintro e w2 ⟨ht2, hh2, hno2, hyes2, hsame2⟩
  have HBX2 := Lib.hid (rowT ht2 HBXs.out (by intro e; have := LOW.out _ e; omega))
  have T2 := Lib.hid (TS.out.trans ht2)
  have HH2 := Lib.hid hh2
  have HS2 := Lib.hid hsame2
  have hzb := heap_lt HBXs.out
  clear ht2 hh2 hsame2
  by_cases h0 : (R.abs.major roots).1 = 0
  · obtain ⟨v, he, hi⟩ := hyes2 h0
    obtain ⟨Av, cv, rfl⟩ := hi.shape
    have HI := Lib.hid (hi.mono (ok' := fun k => w.heap.size ≤ k ∧ k ≠ w.heap.size) (fun k _ hk => by omega))
    have H0 := Lib.hid h0
    subst he
    have cx := cellsH HBX2.out
    have fx := freeH HBX2.out
    clear hno2 hyes2 hi h0
    go_wp2_with fail
    clear cx fx
    have c := cellsH (set8_row HBX2.out (.int .i64 0) (.int .i64 0) (.int .i64 0) (.int .i64 0) (.int .i64 0) (.int .i64 1) (.int .i64 (R.abs.major roots).2.length) (.int .i64 (R.abs.major roots).2.length))
    unfold set8 set5 at c
    refine bodyPost_ret (v := .tuple #[.slice Av (roots.map (mv (R.abs.major roots).2 R.abs.top)).length cv, .agg (statA 0 1 (R.abs.major roots).2.length (R.abs.major roots).2.length), .int .i64 0]) (by simp [results, Try.results49, go_sem, c]) rfl ?_
    obtain ⟨NV', AV', R', hR', -, hR2⟩ := HH2.out
    exact rgcEnd_yes (base := base) (s := (R.abs.major roots)) (m := R.abs.news (R.abs.major roots).2) (roots := roots) (mi := 0) (ma := 1) (pe := (R.abs.major roots).2.length) hhl T2.out hR' (hR2 H0.out) HBX2.out H0.out HI.out (.int .i64 0) (.int .i64 0) (.int .i64 0) (.int .i64 0) (.int .i64 0) (.int .i64 1) (.int .i64 (R.abs.major roots).2.length) (.int .i64 (R.abs.major roots).2.length)
  · have he := hno2 h0
    have H0 := Lib.hid h0
    subst he
    have cx := cellsH HBX2.out
    have fx := freeH HBX2.out
    clear hno2 hyes2 h0
    go_wp2_with fail
    clear cx fx
    have c := cellsH (set8_row HBX2.out (.int .i64 0) (.int .i64 0) (.int .i64 0) (.int .i64 0) (.int .i64 0) (.int .i64 0) (.int .i64 0) (.int .i64 0))
    unfold set8 set5 at c
    refine bodyPost_ret (v := .tuple #[.slice none 0 0, .agg (statA 0 0 0 0), .int .i64 (R.abs.major roots).1]) (by simp [results, Try.results49, go_sem, c]) rfl ?_
    exact rgcEnd_no (base := base) (s := (R.abs.major roots)) (m := R.abs.news (R.abs.major roots).2) (roots := roots) (mi := 0) (ma := 1) (pe := (R.abs.major roots).2.length) hhl T2.out (HS2.out H0.out) rfl HBX2.out H0.out (.int .i64 0) (.int .i64 0) (.int .i64 0) (.int .i64 0) (.int .i64 0) (.int .i64 0) (.int .i64 0) (.int .i64 0)
set_option maxRecDepth 100000 in
set_option maxHeartbeats 2000000 in
theorem rauto_minor (base : Nat) (ok : Nat → Prop) (w : World) (r : Nat) (NV AV : Value) (R : RM) (rv : Value) (roots : List Int) (hh : RHeapAt base w r NV AV R) (hW : RWel R) (hbase : base ≤ w.heap.size) (hr : Ints ok w rv roots) (hok : ∀ k, ok k → ¬ RB r NV AV k) (hvol : R.abs.fuel roots ≤ 500000) (hm : (R.abs.minor roots).1 ≠ 33) :
    Calls Try.prog 49 #[.pointer (some ⟨r, 0, none⟩), rv] w fun e w' => RGcEnd base w r NV AV R roots (R.abs.minor roots) 1 0 (R.abs.mixR (R.abs.minor roots).2).length (R.abs.mixR (R.abs.minor roots).2) e w' := by
  obtain ⟨A, c, rfl⟩ := hr.shape
  obtain ⟨Z, hZ⟩ : ∃ Z : Obj, Obj.cells (statA 0 0 0 0) 75 = Z := ⟨_, rfl⟩
  have HBX := Lib.hid (show (w.alloc Z).heap[w.heap.size]? = some (.cells (statA 0 0 0 0) 75) by rw [new0, ← hZ])
  have HM := Lib.hid (rminor_any base (fun k => k < w.heap.size ∧ ok k) (w.alloc Z) r NV AV R _ roots (hh.fresh ((Below.refl _ _).alloc (Nat.le_refl _) _)) hW (by simp; omega) ((hr.mono (fun k h1 h2 => ⟨h1, h2⟩)).alloc Z) hvol)
  have HE := Lib.hid hm
  have HROK := Lib.hid (hr.mono (ok' := fun k => k < w.heap.size ∧ ok k) (fun k h1 h2 => ⟨h1, h2⟩))
  have HOK := Lib.hid hok
  have HH := Lib.hid hh
  have hhl := hh.lt
  have LOW := Lib.hid (show ∀ k, RB r NV AV k → k < w.heap.size from fun k e => by
    rcases e with rfl | e | e
    · exact hh.lt
    · exact (hh.nown.lt k e).2
    · exact (hh.aown.lt k e).2)
  clear hh hr hm hok
  go_enter Try.func49, Try.ntmps49
  go_wp2_with fail
  refine HM.out.mono ?_
  rintro e w1 ⟨ht, hh1, hno, hyes, hsame⟩
  have hz1 := ht.size
  simp only [World.size_alloc] at hz1
  have hbx1 := rowT ht HBX.out (by intro e; have := LOW.out _ e; omega)
  have hzr : (w1.alloc Z).heap[w1.heap.size]? = some (.cells (statA 0 0 0 0) 75) := by rw [new0, ← hZ]
  have T1 := Lib.hid ((below_turn ((Below.refl w.heap.size w).alloc (Nat.le_refl _) Z) (RB r NV AV)).trans ht)
  have HH1 := Lib.hid hh1
  have HS1 := Lib.hid hsame
  have cz := cellsH hzr
  have fz := freeH hzr
  clear hh1 hsame
  by_cases h0 : (R.abs.minor roots).1 = 0
  · obtain ⟨v, he, hi⟩ := hyes h0
    obtain ⟨Av, cv, rfl⟩ := hi.shape
    have HI := Lib.hid (hi.mono (ok' := fun k => w.heap.size ≤ k ∧ k ≠ w.heap.size) (fun k _ hk => by simp at hk; omega))
    have H0 := Lib.hid h0
    subst he
    clear hno hyes hi h0
    obtain ⟨ws, hws, hbs⟩ : ∃ W, W = set8 (w1.alloc Z) w1.heap.size (.int .i64 0) (.int .i64 0) (.int .i64 0) (.int .i64 0) (.int .i64 1) (.int .i64 0) (.int .i64 (R.abs.minor roots).2.length) (.int .i64 (R.abs.mixR (R.abs.minor roots).2).length) ∧ Below w1.heap.size w1 W :=
      ⟨_, rfl, ((Below.refl _ _).alloc (Nat.le_refl _) Z).trans ((set8_turn (S := fun q => q = w1.heap.size) (Turn.refl _ _) rfl _ _ _ _ _ _ _ _).below (by simp) (fun q e => by omega))⟩
    have hbz : ws.heap[w1.heap.size]? = some (.cells #[.int .i64 0, .int .i64 0, .int .i64 0, .int .i64 0, .int .i64 1, .int .i64 0, .int .i64 (R.abs.minor roots).2.length, .int .i64 (R.abs.mixR (R.abs.minor roots).2).length] 75) := by rw [hws]; exact set8_row hzr _ _ _ _ _ _ _ _
    unfold set8 set5 at hws
    go_upto_region 3 with (fail)
    rw [← hws]
    clear cz fz hws hZ
    have hbw := rowB hbs hbx1 (heap_lt hbx1)
    have TS := Lib.hid (T1.out.then hbs)
    have HBW := Lib.hid hbw
    have HBS := Lib.hid hbs
    have cz := cellsH hbz
    have cx := cellsH hbw
    have fx := freeH hbw
    clear ht hbx1 hzr hbs hbz hbw
    go_region_with (fail)
    clear cx fx cz
    have HI2 := Lib.hid (HI.out.fresh HBS.out)
    go_wp2_with fail
    have c := cellsH (set8_row HBW.out (.int .i64 0) (.int .i64 0) (.int .i64 0) (.int .i64 0) (.int .i64 1) (.int .i64 0) (.int .i64 (R.abs.minor roots).2.length) (.int .i64 (R.abs.mixR (R.abs.minor roots).2).length))
    unfold set8 set5 at c
    refine bodyPost_ret (v := .tuple #[.slice Av (roots.map (mv (R.abs.minor roots).2 R.abs.top)).length cv, .agg (statA 1 0 (R.abs.minor roots).2.length (R.abs.mixR (R.abs.minor roots).2).length), .int .i64 0]) (by simp [results, Try.results49, go_sem, c]) rfl ?_
    refine RGcEnd.fresh ?_ ((Below.refl _ _).drew)
    obtain ⟨NV', AV', R', hR', -, hR2⟩ := HH1.out
    exact rgcEnd_yes (base := base) (s := (R.abs.minor roots)) (m := R.abs.mixR (R.abs.minor roots).2) (roots := roots) (mi := 1) (ma := 0) (pe := (R.abs.mixR (R.abs.minor roots).2).length) hhl TS.out (hR'.fresh HBS.out) (hR2 H0.out) HBW.out H0.out HI2.out (.int .i64 0) (.int .i64 0) (.int .i64 0) (.int .i64 0) (.int .i64 1) (.int .i64 0) (.int .i64 (R.abs.minor roots).2.length) (.int .i64 (R.abs.mixR (R.abs.minor roots).2).length)
  · have he := hno h0
    have H0 := Lib.hid h0
    have E0 := Lib.hid (show ((R.abs.minor roots).1 == 33) = false by simpa using HE.out)
    have e0 := E0.out
    subst he
    clear hno hyes h0
    obtain ⟨ws, hws, hbs⟩ : ∃ W, W = set8 (w1.alloc Z) w1.heap.size (.int .i64 0) (.int .i64 0) (.int .i64 0) (.int .i64 0) (.int .i64 0) (.int .i64 0) (.int .i64 0) (.int .i64 0) ∧ Below w1.heap.size w1 W :=
      ⟨_, rfl, ((Below.refl _ _).alloc (Nat.le_refl _) Z).trans ((set8_turn (S := fun q => q = w1.heap.size) (Turn.refl _ _) rfl _ _ _ _ _ _ _ _).below (by simp) (fun q e => by omega))⟩
    have hbz : ws.heap[w1.heap.size]? = some (.cells #[.int .i64 0, .int .i64 0, .int .i64 0, .int .i64 0, .int .i64 0, .int .i64 0, .int .i64 0, .int .i64 0] 75) := by rw [hws]; exact set8_row hzr _ _ _ _ _ _ _ _
    unfold set8 set5 at hws
    go_upto_region 3 with (fail)
    rw [← hws]
    clear cz fz hws hZ
    have hbw := rowB hbs hbx1 (heap_lt hbx1)
    have TS := Lib.hid (T1.out.then hbs)
    have HBW := Lib.hid hbw
    have HBS := Lib.hid hbs
    have cz := cellsH hbz
    have cx := cellsH hbw
    have fx := freeH hbw
    clear ht hbx1 hzr hbs hbz hbw
    go_region_with (fail)
    clear cx fx cz
    go_wp2_with fail
    have c := cellsH (set8_row HBW.out (.int .i64 0) (.int .i64 0) (.int .i64 0) (.int .i64 0) (.int .i64 0) (.int .i64 0) (.int .i64 0) (.int .i64 0))
    unfold set8 set5 at c
    refine bodyPost_ret (v := .tuple #[.slice none 0 0, .agg (statA 0 0 0 0), .int .i64 (R.abs.minor roots).1]) (by simp [results, Try.results49, go_sem, c]) rfl ?_
    refine RGcEnd.fresh ?_ ((Below.refl _ _).drew)
    exact rgcEnd_no (base := base) (s := (R.abs.minor roots)) (m := R.abs.mixR (R.abs.minor roots).2) (roots := roots) (mi := 1) (ma := 0) (pe := (R.abs.mixR (R.abs.minor roots).2).length) hhl TS.out ((HS1.out H0.out).fresh HBS.out) rfl HBW.out H0.out (.int .i64 0) (.int .i64 0) (.int .i64 0) (.int .i64 0) (.int .i64 0) (.int .i64 0) (.int .i64 0) (.int .i64 0)
end Go.Proofs.Ytobniolmielikaa

/- The reference heap: Clone lies in new blocks; no condition. -/
namespace Go.Proofs.Ytobniolmielikaa
open Go.RowKit

set_option maxHeartbeats 2000000 in
theorem rclone2_any (base : Nat) (w : World) (r : Nat) (NV AV : Value) (R : RM) (hh : RHeapAt base w r NV AV R) :
    Calls Try.prog 47 #[.pointer (some ⟨r, 0, none⟩)] w fun e w' => ∃ r' NV' AV' R', e = .returned (.pointer (some ⟨r', 0, none⟩)) ∧ RHeapAt w.heap.size w' r' NV' AV' R' ∧ R'.abs = R.abs.srt ∧ w.heap.size ≤ r' ∧ Below w.heap.size w w' := by
  have hlt := hh.lt
  have HH := Lib.hid hh
  obtain ⟨A1, k1, rfl⟩ := hh.nown.shape
  obtain ⟨A2, k2, rfl⟩ := hh.aown.shape
  have i0 := (show RHeapAt base w.drew r _ _ R from hh.fresh (Below.refl _ _).drew).cells
  clear hh
  go_enter Try.func47, Try.ntmps47
  go_upto_region 1 with (fail)
  go_region_held3 (fun w' => w'.cell? ⟨r, 0, none⟩ = some (.int .i64 R.s0) ∧ w'.cell? ⟨r, 1, none⟩ = some (.int .i64 R.s1) ∧ w'.cell? ⟨r, 2, none⟩ = some (.slice A1 R.n.length k1) ∧ w'.cell? ⟨r, 3, none⟩ = some (.slice A2 R.a.length k2) ∧ w'.cell? ⟨r, 4, none⟩ = some (.int .i64 R.next))
    (first | with_reducible exact i0 | with_reducible exact i1 | with_reducible exact i2 | with_reducible exact i3 _)
    (first
      | (go_at_call_of 87 (Value.slice A1 R.n.length k1); refine (sorted_any _ _ _ R.n (HH.out.rawN.fresh (Below.refl _ _).drew) (fun x hx => ((HH.out.nok x hx).at.mono (fun _ _ _ => trivial)).fresh (Below.refl _ _).drew)).mono ?_; rintro e w5 ⟨v5, n', rfl, hown5, habs5, hob5, hb5⟩; obtain ⟨B5, c5, rfl⟩ := hown5.shape; have HB5 := Lib.hid (undrew hb5); have HOWN5 := Lib.hid hown5; have HABS5 := Lib.hid habs5; have HOB5 := Lib.hid hob5; have HH5 := Lib.hid (HH.out.fresh (undrew hb5)); have i1 := HH5.out.cells; clear hown5 habs5 hob5 hb5)
      | (go_at_call 87; refine (sorted_any _ _ _ R.a HH5.out.rawA (fun x hx => (HH5.out.aok x hx).at.mono (fun _ _ _ => trivial))).mono ?_; rintro e w6 ⟨v6, a', rfl, hown6, habs6, hob6, hb6⟩; obtain ⟨B6, c6, rfl⟩ := hown6.shape; have HB6 := Lib.hid hb6; have HOWN6 := Lib.hid hown6; have HABS6 := Lib.hid habs6; have HOB6 := Lib.hid hob6; have HH6 := Lib.hid (HH5.out.fresh hb6); have i2 := HH6.out.cells; have i3 := fun o => (HH6.out.fresh ((Below.refl _ _).alloc (Nat.le_refl _) o)).cells; clear hown6 habs6 hob6 hb6))
  clear i0 i1 i2 i3
  rename_i hHeld
  clear hHeld
  go_wp2_with fail
  go_ret
  have z5 := HB5.out.size
  have z6 := HB6.out.size
  have ln : n'.length = R.n.length := by
    have := congrArg List.length HABS5.out
    simpa [absI_length, srtI_length] using this
  have la : a'.length = R.a.length := by
    have := congrArg List.length HABS6.out
    simpa [absI_length, srtI_length] using this
  have bz : Below w6.heap.size w6 (w6.alloc (.cells #[.int .i64 R.s0, .int .i64 R.s1, .slice B5 n'.length c5, .slice B6 a'.length c6, .int .i64 R.next] 92)) := (Below.refl _ _).alloc (Nat.le_refl _) _
  refine ⟨w6.heap.size, _, _, ⟨R.s0, R.s1, R.next, n', a'⟩, rfl, ⟨new0 _ _, ((HOWN5.out.fresh HB6.out).fresh bz).base ?_, (HOWN6.out.fresh bz).base (by omega), ?_, ?_, ?_, ?_, ?_⟩, ?_, by omega, ?_⟩
  · simp
  · exact HOWN5.out.apart HOWN6.out
  · exact fun x hx => ((HOB5.out x hx).fresh HB6.out).fresh bz
  · exact fun x hx => (HOB6.out x hx).fresh bz
  · rw [ln]; exact HH.out.nsmall
  · rw [la]; exact HH.out.asmall
  · simp [RM.abs, HM.srt, HABS5.out, HABS6.out]
  · exact below_then (below_then HB5.out HB5.out.size HB6.out) (by omega) bz
end Go.Proofs.Ytobniolmielikaa

/- Both heaps copied, and Auto of both; no condition. -/
namespace Go.Proofs.Ytobniolmielikaa
open Go.RowKit

def HM.autoS (H : HM) (roots : List Int) : Int × List Int := if (H.minor roots).1 = 33 then H.major roots else H.minor roots
def HM.autoI (H : HM) (roots : List Int) : Int := if (H.minor roots).1 = 33 then 0 else 1
def HM.autoA (H : HM) (roots : List Int) : Int := if (H.minor roots).1 = 33 then 1 else 0
def HM.autoM (H : HM) (roots : List Int) : List (Int × Ob) := if (H.minor roots).1 = 33 then H.news (H.major roots).2 else H.mix (H.minor roots).2
theorem pair_auto {B : Nat} {ok : Nat → Prop} {w : World} {h y a r : Nat} {NV AV : Value} {H : HM} {R : RM} (rv : Value) {roots : List Int} (p : Pair B w h y a r NV AV H R) (hr : Ints ok w rv roots) (hok : ∀ k, ok k → k < B) (hl : roots.length ≤ 20) :
    Calls Try.prog 46 #[.pointer (some ⟨h, 0, none⟩), rv] w (GcP B w h y a r NV AV H R roots (H.autoS roots) (H.autoI roots) (H.autoA roots) (H.autoM roots).length (H.autoM roots)) := by
  unfold HM.autoS HM.autoI HM.autoA HM.autoM
  by_cases h33 : (H.minor roots).1 = 33
  · simp only [h33, if_true]
    refine (auto_major ok w h y a H rv roots p.two.p p.wel hr (fun k hk e => by have h1 := hok k hk; have h2 := p.lowH k e; omega) (by have := p.bnd.fuel hl; omega) h33).mono ?_
    intro e w' g
    rw [news_length]
    exact gcP_of p.two g
  · simp only [h33, if_false]
    refine (auto_minor ok w h y a H rv roots p.two.p p.wel hr (fun k hk e => by have h1 := hok k hk; have h2 := p.lowH k e; omega) (by have := p.bnd.fuel hl; omega) h33).mono ?_
    exact fun e w' g => gcP_of p.two g
theorem auto_col {H : HM} (hW : Wel H) {r : List Int} (h : (H.autoS r).1 = 0) : Col H (H.autoM r) := by
  unfold HM.autoS at h
  unfold HM.autoM
  by_cases h33 : (H.minor r).1 = 33
  · simp only [h33, if_true] at h ⊢
    exact major_col hW h
  · simp only [h33, if_false] at h ⊢
    exact minor_col hW h
theorem half_auto {B : Nat} {ok : Nat → Prop} {w : World} {h y a r : Nat} {NV AV : Value} {H H' : HM} {R : RM} (rv : Value) {roots : List Int} (t : Two B w h y a r NV AV H' R) (sm : Sim H R.abs) (hW : Wel H) (hR : RWel R) (hB : Bnd H) (g : Gone H (H.autoS roots).1 (H.autoM roots) H') (hbase : B ≤ w.heap.size) (hr : Ints ok w rv roots) (hok : ∀ k, ok k → k < B) (hl : roots.length ≤ 20) :
    Calls Try.prog 49 #[.pointer (some ⟨r, 0, none⟩), rv] w (GcQ B w h y a r NV AV H H' roots (H.autoS roots) (H.autoI roots) (H.autoA roots) (H.autoM roots).length) := by
  have hf : R.abs.fuel roots ≤ 500000 := by rw [← sm.fuel]; have := hB.fuel hl; omega
  have hk : ∀ k, ok k → ¬ RB r NV AV k := by
    intro k hk e
    have h1 := hok k hk
    rcases e with rfl | e | e
    · have := t.br; omega
    · have := (t.q.nown.row e).1; omega
    · have := (t.q.aown.row e).1; omega
  by_cases h33 : (H.minor roots).1 = 33
  · refine (rauto_major B ok w r NV AV R rv roots t.q hR hbase hr hk hf (by rw [← sm.minor]; exact h33)).mono ?_
    intro e w' q
    rw [← sm.major, ← sm.news] at q
    have e1 : H.autoS roots = H.major roots := by unfold HM.autoS; rw [if_pos h33]
    have e2 : H.autoI roots = 0 := by unfold HM.autoI; rw [if_pos h33]
    have e3 : H.autoA roots = 1 := by unfold HM.autoA; rw [if_pos h33]
    have e4 : H.autoM roots = H.news (H.major roots).2 := by unfold HM.autoM; rw [if_pos h33]
    rw [e1, e4] at g
    rw [e1, e2, e3, e4, news_length]
    exact gcQ_of t sm hW hR hB g q (.refl _) (major_col hW)
  · refine (rauto_minor B ok w r NV AV R rv roots t.q hR hbase hr hk hf (by rw [← sm.minor]; exact h33)).mono ?_
    intro e w' q
    rw [← sm.minor, ← sm.mixR] at q
    have hl : (H.mixR (H.minor roots).2).length = (H.mix (H.minor roots).2).length := (mix_perm H _).length_eq.symm
    rw [hl] at q
    have e1 : H.autoS roots = H.minor roots := by unfold HM.autoS; rw [if_neg h33]
    have e2 : H.autoI roots = 1 := by unfold HM.autoI; rw [if_neg h33]
    have e3 : H.autoA roots = 0 := by unfold HM.autoA; rw [if_neg h33]
    have e4 : H.autoM roots = H.mix (H.minor roots).2 := by unfold HM.autoM; rw [if_neg h33]
    rw [e1, e4] at g
    rw [e1, e2, e3, e4]
    exact gcQ_of t sm hW hR hB g q (mix_perm H _) (minor_col hW)

/-- What lies aside stays. -/
theorem Pair.aside {B : Nat} {S : Nat → Prop} {w w' : World} {h y a r : Nat} {NV AV : Value} {H : HM} {R : RM} (p : Pair B w h y a r NV AV H R) (ht : Turn S w w') (hs : ∀ k, S k → k < B) (h3 : ∀ k, IsRow 3 w k → ¬ S k) : Pair B w' h y a r NV AV H R := by
  have hb : ∀ k, B ≤ k → ¬ S k := fun k hk e => by have := hs k e; omega
  exact ⟨⟨p.two.p.turn ht (hb _ p.two.bh) (hb _ p.two.bY) (hb _ p.two.ba) h3, p.two.q.turn ht (hb _ p.two.br) (fun g hg _ => hb g hg) h3, p.two.bh, p.two.bY, p.two.ba, p.two.br⟩, p.sim, p.wel, p.rwel, p.bnd⟩
/-- A copy of both. -/
theorem clone_pair {B : Nat} {w w1 w2 : World} {h y a r h' y' a' r' : Nat} {NV AV NV' AV' : Value} {H : HM} {R R' : RM} {ly la : List (Int × Ob)} (p : Pair B w h y a r NV AV H R) (hp : HeapAt w1 h' y' a' ⟨H.nur, H.eld, H.next, ly, la⟩) (py : ly.Perm H.ly) (pa : la.Perm H.la)
    (b1 : w.heap.size ≤ h') (b2 : w.heap.size ≤ y') (b3 : w.heap.size ≤ a') (hs : w.heap.size ≤ w1.heap.size) (hb : Below w1.heap.size w1 w2) (hq : RHeapAt w1.heap.size w2 r' NV' AV' R') (hR : R'.abs = R.abs.srt) (b4 : w1.heap.size ≤ r') :
    Pair w.heap.size w2 h' y' a' r' NV' AV' ⟨H.nur, H.eld, H.next, ly, la⟩ R' := by
  have hnd := p.wel.nd
  have s0 : Sim H ⟨H.nur, H.eld, H.next, ly, la⟩ := ⟨rfl, rfl, py.symm, pa.symm, hnd⟩
  have hn1 := p.sim.ndy
  have hn2 := p.sim.nda
  obtain ⟨a1, p1⟩ := srtI_both (m := R.abs.ly) ((p.sim.ly.map _).nodup_iff.1 hn1)
  obtain ⟨a2, p2⟩ := srtI_both (m := R.abs.la) ((p.sim.la.map _).nodup_iff.1 hn2)
  have s1 : Sim ⟨H.nur, H.eld, H.next, ly, la⟩ R'.abs := by
    rw [hR]
    exact ⟨p.sim.nur, p.sim.eld, (py.trans p.sim.ly).trans p1.symm, (pa.trans p.sim.la).trans p2.symm, s0.nd'⟩
  have hW := s0.wel p.wel
  have hq' : RHeapAt w.heap.size w2 r' NV' AV' R' :=
    ⟨hq.row, hq.nown.base hs, hq.aown.base hs, hq.apart, fun x hx => (hq.nok x hx), fun x hx => (hq.aok x hx), hq.nsmall, hq.asmall⟩
  refine ⟨⟨hp.fresh hb, hq', b1, b2, b3, by omega⟩, s1, hW, ⟨s1.wel hW, ?_, ?_, ?_⟩, p.bnd.sim s0⟩
  · show Asc R'.abs.ly
    rw [hR]
    exact a1
  · show Asc R'.abs.la
    rw [hR]
    exact a2
  · show 0 ≤ R'.abs.next
    rw [hR]
    exact p.rwel.nx
end Go.Proofs.Ytobniolmielikaa

/- The walk of the law CollectMinor; no condition. -/
namespace Go.Proofs.Ytobniolmielikaa
open Go.RowKit

theorem Two.box {B b : Nat} {w w' : World} {h y a r : Nat} {NV AV : Value} {H : HM} {R : RM} {cs : Array Value} (t : Two B w h y a r NV AV H R) (hb : w.heap[b]? = some (.cells cs 75)) (h1 : h ≠ b) (h2 : y ≠ b) (h3 : a ≠ b) (h4 : r ≠ b) (ht : Turn (fun k => k = b) w w') : Two B w' h y a r NV AV H R := by
  have hn : ∀ (T : TypeId) (k : Nat), T ≠ 75 → IsRow T w k → ¬ k = b := by
    rintro T k hT ⟨cs', f, hr⟩ rfl
    rw [hb] at hr
    simp at hr
    exact hT hr.2.1.symm
  exact ⟨t.p.turn ht h1 h2 h3 (fun k hk => hn 3 k (by decide) hk), t.q.turn ht h4 (fun g _ hk => hn 97 g (by decide) hk) (fun k hk => hn 3 k (by decide) hk), t.bh, t.bY, t.ba, t.br⟩
theorem Pair.box {B b : Nat} {w w' : World} {h y a r : Nat} {NV AV : Value} {H : HM} {R : RM} {cs : Array Value} (p : Pair B w h y a r NV AV H R) (hb : w.heap[b]? = some (.cells cs 75)) (h1 : h ≠ b) (h2 : y ≠ b) (h3 : a ≠ b) (h4 : r ≠ b) (ht : Turn (fun k => k = b) w w') : Pair B w' h y a r NV AV H R :=
  ⟨p.two.box hb h1 h2 h3 h4 ht, p.sim, p.wel, p.rwel, p.bnd⟩

set_option maxRecDepth 100000 in
set_option maxHeartbeats 8000000 in
theorem collectMinor_law (w : World) (n o : Int) (v1 v2 rv : Value) (l1 l2 : List It) (roots : List Int) (hi : HeapIn w v1 v2 l1 l2) (hr : Ints (· < w.heap.size) w rv roots) :
    Calls Try.prog 12 #[.agg #[.int .i64 n, .int .i64 o, v1, v2], rv] w fun e w' => e = .returned (.bool true) ∧ Below w.heap.size w w' := by
  obtain ⟨A1, c1, rfl⟩ := hi.r1.shape
  obtain ⟨A2, c2, rfl⟩ := hi.r2.shape
  obtain ⟨A, c, rfl⟩ := hr.shape
  have HI := Lib.hid hi
  have HR := Lib.hid hr
  clear hi hr
  obtain ⟨X0, hX0⟩ : ∃ X : Obj, Obj.cells #[.int .i64 n, .int .i64 o, .slice A1 l1.length c1, .slice A2 l2.length c2] 62 = X := ⟨_, rfl⟩
  have B0 := Lib.hid ((Below.refl w.heap.size w).alloc (Nat.le_refl _) X0)
  have X62 := Lib.hid (show (w.alloc X0).heap[w.heap.size]? = some (.cells #[.int .i64 n, .int .i64 o, .slice A1 l1.length c1, .slice A2 l2.length c2] 62) by rw [hX0]; exact new0 _ _)
  have zx : (w.alloc X0).heap.size = w.heap.size + 1 := by simp
  go_enter Try.func12, Try.ntmps12
  go_upto_region 1 with (fail)
  clear hX0
  generalize w.alloc X0 = wx at *
  have cx := box62 X62.out
  go_wp2_with fail
  refine (made34_any (· < w.heap.size) wx n o _ _ l1 l2 (HI.out.r1.fresh B0.out) (HI.out.r2.fresh B0.out) (fun x hx => (HI.out.o1 x hx).fresh B0.out) (fun x hx => (HI.out.o2 x hx).fresh B0.out) (fun k hk => by omega) HI.out.room).mono ?_
  intro e w1 hm
  unfold MadeEnd at hm
  obtain ⟨hb1, hc⟩ := hm
  have B1 := Lib.hid (below_then B0.out B0.out.size hb1)
  have Y62 := Lib.hid (rowB hb1 X62.out (heap_lt X62.out))
  have D1 := Lib.hid hb1
  have zz1 := hb1.size
  clear hb1 cx
  have cy := box62 Y62.out
  have HC := Lib.hid hc
  clear hc
  rcases HC.out with ⟨rfl, -⟩ | ⟨h, y, a, r, NV, AV, H, R, rfl, m⟩
  · clear HC
    go_wp2_with fail
    refine (small35_any (· < w.heap.size) (· < w.heap.size) w1 n o _ _ _ l1 l2 roots (HI.out.r1.fresh B1.out) (HI.out.r2.fresh B1.out) (HR.out.fresh B1.out)).mono ?_
    rintro e w2 ⟨hb2, b, rfl, -⟩
    have B2 := Lib.hid (below_then B1.out B1.out.size hb2)
    clear hb2 cy
    cases b <;>
    · go_wp2_with fail
      refine (awake_any _).mono ?_
      rintro e w3 ⟨rfl, hb3⟩
      have B3 := Lib.hid (below_then B2.out B2.out.size hb3)
      clear hb3
      go_wp2_with fail
      go_ret
      exact ⟨rfl, B3.out⟩
  have M := Lib.hid m
  clear HC m
  go_wp2_with fail
  refine (small35_any (· < w.heap.size) (· < w.heap.size) w1 n o _ _ _ l1 l2 roots (HI.out.r1.fresh B1.out) (HI.out.r2.fresh B1.out) (HR.out.fresh B1.out)).mono ?_
  rintro e w2 ⟨hb2, b, rfl, hsm⟩
  have B2 := Lib.hid (below_then B1.out B1.out.size hb2)
  have D2 := Lib.hid hb2
  have SM := Lib.hid hsm
  clear hb2 cy hsm
  cases b with
  | false =>
    go_wp2_with fail
    refine (awake_any _).mono ?_
    rintro e w3 ⟨rfl, hb3⟩
    have B3 := Lib.hid (below_then B2.out B2.out.size hb3)
    clear hb3
    go_wp2_with fail
    go_ret
    exact ⟨rfl, B3.out⟩
  | true =>
  have P2 := Lib.hid ((M.out.pair (SM.out rfl)).fresh D2.out)
  have RL := Lib.hid (SM.out rfl).c
  have zz2 := D2.out.size
  have zb2 := B2.out.size
  have HR2 := Lib.hid (HR.out.fresh B2.out)
  clear SM M HI X62 Y62 HR B0 B1 D1 D2
  go_wp2_with fail
  refine (clone39_any w2 h y a H P2.out.two.p P2.out.wel.ky P2.out.wel.ka).mono ?_
  rintro e w3 ⟨kh, ky, ka, ly, la, rfl, hp3, py, pa, b1, b2, b3, hb3⟩
  have L3 := Lib.hid (And.intro hp3 (And.intro py pa))
  have E3 := Lib.hid hb3
  have zz3 := hb3.size
  clear hp3 py pa hb3
  go_wp2_with fail
  refine (rclone2_any wx.heap.size w3 r NV AV R (P2.out.two.q.fresh E3.out)).mono ?_
  rintro e w4 ⟨kr, KN, KA, KR, rfl, hq4, hR4, b4, hb4⟩
  have C4' := clone_pair P2.out L3.out.1 L3.out.2.1 L3.out.2.2 b1 b2 b3 E3.out.size hb4 hq4 hR4 b4
  obtain ⟨K, C4''⟩ : ∃ K, Pair w2.heap.size w4 kh ky ka kr KN KA K KR := ⟨_, C4'⟩
  have C4 := Lib.hid C4''
  have E4 := Lib.hid (below_then E3.out E3.out.size hb4)
  have P4 := Lib.hid (P2.out.fresh E4.out)
  have B4 := Lib.hid (B2.out.trans (E4.out.mono (by omega)))
  have HR4 := Lib.hid (HR2.out.fresh E4.out)
  have zz4 := E4.out.size
  have kl4 := C4''.two.lt
  have kb4 : w2.heap.size ≤ kh ∧ w2.heap.size ≤ ky ∧ w2.heap.size ≤ ka ∧ w2.heap.size ≤ kr := ⟨C4''.two.bh, C4''.two.bY, C4''.two.ba, C4''.two.br⟩
  clear hb4 hq4 hR4 C4' C4'' L3 E3
  go_wp2_with fail
  refine (pair_minor _ P4.out HR4.out (fun k hk => by omega) RL.out).mono ?_
  rintro e w5 ⟨ht5, ⟨H', t5, g5⟩, v5, rfl, i5⟩
  obtain ⟨A5, c5, rfl⟩ := i5.shape
  have T5 := Lib.hid t5
  have G5 := Lib.hid g5
  have I5 := Lib.hid i5
  have B5 := Lib.hid (B4.out.trans ((P4.out.two.pb ht5 (by omega)).mono (by omega)))
  have HR5 := Lib.hid (HR4.out.turn ht5 (fun k hk e => by have := P4.out.lowH k e; omega))
  have C5 := Lib.hid (C4.out.aside ht5 (fun k e => (P2.out.lowH k e).2) P4.out.two.p.notRow)
  have zz5 := ht5.size
  clear ht5 t5 g5 i5
  unfold gret
  obtain ⟨w6, hws, hb6⟩ : ∃ W, W = w5.alloc (.cells #[.int .i64 0, .int .i64 0, .int .i64 0, .int .i64 0, .int .i64 (gp (H.minor roots) 1), .int .i64 (gp (H.minor roots) 0), .int .i64 (gp (H.minor roots) (H.minor roots).2.length), .int .i64 (gp (H.minor roots) (H.mix (H.minor roots).2).length)] 75) ∧ Below w5.heap.size w5 W := ⟨_, rfl, (Below.refl _ _).alloc (Nat.le_refl _) _⟩
  have hbz : w6.heap[w5.heap.size]? = some (.cells #[.int .i64 0, .int .i64 0, .int .i64 0, .int .i64 0, .int .i64 (gp (H.minor roots) 1), .int .i64 (gp (H.minor roots) 0), .int .i64 (gp (H.minor roots) (H.minor roots).2.length), .int .i64 (gp (H.minor roots) (H.mix (H.minor roots).2).length)] 75) := by rw [hws]; exact new0 _ _
  have zw6 : w6.heap.size = w5.heap.size + 1 := by rw [hws]; simp
  go_upto_region 6 with (fail)
  rw [← hws]
  clear hws
  have S6 := Lib.hid hbz
  have T6 := Lib.hid (T5.out.fresh hb6)
  have I6 := Lib.hid (I5.out.fresh hb6)
  have C6 := Lib.hid (C5.out.fresh hb6)
  have B6 := Lib.hid (B5.out.trans (hb6.mono (by have := B5.out.size; omega)))
  have HR6 := Lib.hid (HR5.out.fresh hb6)
  clear hbz hb6
  go_wp2_with fail
  refine (half_minor _ T6.out P2.out.sim P2.out.wel P2.out.rwel P2.out.bnd G5.out (by omega) HR6.out RL.out).mono ?_
  rintro e w7 ⟨ht7, ⟨NV', AV', R', p7⟩, v7, rfl, i7⟩
  obtain ⟨A7, c7, rfl⟩ := i7.shape
  have P7 := Lib.hid p7
  have B7 := Lib.hid (B6.out.trans ((T6.out.rb ht7 (by omega)).mono (by omega)))
  have S7 := Lib.hid (T6.out.keepR ht7 S6.out (by decide) (by decide))
  have I57 := Lib.hid (I6.out.turn ht7 (fun k hk e => by have := P2.out.lowR k e; omega))
  have C7 := Lib.hid (C6.out.aside ht7 (fun k e => (P2.out.lowR k e).2) T6.out.q.notRB3)
  have HR7 := Lib.hid (HR6.out.turn ht7 (fun k hk e => by have := P2.out.lowR k e; omega))
  have zz7 := ht7.size
  have I7 := Lib.hid i7
  clear ht7 p7 i7
  unfold gret
  obtain ⟨w8, hws, hb8⟩ : ∃ W, W = w7.alloc (.cells #[.int .i64 0, .int .i64 0, .int .i64 0, .int .i64 0, .int .i64 (gp (H.minor roots) 1), .int .i64 (gp (H.minor roots) 0), .int .i64 (gp (H.minor roots) (H.minor roots).2.length), .int .i64 (gp (H.minor roots) (H.mix (H.minor roots).2).length)] 75) ∧ Below w7.heap.size w7 W := ⟨_, rfl, (Below.refl _ _).alloc (Nat.le_refl _) _⟩
  have hbz : w8.heap[w7.heap.size]? = some (.cells #[.int .i64 0, .int .i64 0, .int .i64 0, .int .i64 0, .int .i64 (gp (H.minor roots) 1), .int .i64 (gp (H.minor roots) 0), .int .i64 (gp (H.minor roots) (H.minor roots).2.length), .int .i64 (gp (H.minor roots) (H.mix (H.minor roots).2).length)] 75) := by rw [hws]; exact new0 _ _
  have zw8 : w8.heap.size = w7.heap.size + 1 := by rw [hws]; simp
  go_upto_region 7 with (fail)
  rw [← hws]
  clear hws
  have S8 := Lib.hid hbz
  have S78 := Lib.hid (rowB hb8 S7.out (heap_lt S7.out))
  have P8 := Lib.hid (P7.out.fresh hb8)
  have C8 := Lib.hid (C7.out.fresh hb8)
  have B8 := Lib.hid (B7.out.trans (hb8.mono (by have := B7.out.size; omega)))
  have HR8 := Lib.hid (HR7.out.fresh hb8)
  have I8 := Lib.hid (I57.out.fresh hb8)
  have J8 := Lib.hid (I7.out.fresh hb8)
  clear hbz hb8
  go_wp2_with fail
  refine (sameInts_any _ _ w8 _ _ _ I8.out J8.out).mono ?_
  rintro e w9 ⟨rfl, n9, rfl⟩
  have D9 := Lib.hid (below_drewN (Below.refl w8.heap.size w8) n9)
  generalize w8.drewN n9 = w9 at *
  have P9 := Lib.hid (P8.out.fresh D9.out)
  have B9 := Lib.hid (B8.out.trans (D9.out.mono (by have := B8.out.size; omega)))
  have cz := cellsH (rowB D9.out S8.out (heap_lt S8.out))
  have cx := cellsH (rowB D9.out S78.out (heap_lt S78.out))
  have zz9 := D9.out.size
  go_wp2_with fail
  refine (like_any _ w9 h y a r NV' AV' H' R' P9.out.two P9.out.alike).mono ?_
  rintro e w10 ⟨rfl, hb10⟩
  have D10 := Lib.hid (below_then D9.out D9.out.size hb10)
  have B10 := Lib.hid (B9.out.trans (hb10.mono (by have := B9.out.size; omega)))
  have C10 := Lib.hid (C8.out.fresh D10.out)
  have HR10 := Lib.hid (HR8.out.fresh D10.out)
  have S10 := Lib.hid (rowB D10.out S78.out (heap_lt S78.out))
  have U10 := Lib.hid (rowB D10.out S8.out (heap_lt S8.out))
  have zz10 := D10.out.size
  clear cz cx hb10
  go_wp2_with fail
  refine (pair_auto _ C10.out HR10.out (fun k hk => by omega) RL.out).mono ?_
  rintro e w11 ⟨ht11, ⟨K', t11, g11⟩, v11, rfl, i11⟩
  obtain ⟨A11, c11, rfl⟩ := i11.shape
  have B11 := Lib.hid (B10.out.trans ((C10.out.two.pb ht11 (by omega)).mono (by omega)))
  have S11 := Lib.hid (C10.out.two.keepP ht11 S10.out (by decide))
  have U11 := Lib.hid (C10.out.two.keepP ht11 U10.out (by decide))
  have HR11 := Lib.hid (HR10.out.turn ht11 (fun k hk e => by have := C10.out.two.bh; have := C10.out.two.bY; have := C10.out.two.ba; rcases e with e | e | e <;> omega))
  have T11 := Lib.hid t11
  have G11 := Lib.hid g11
  have I11 := Lib.hid i11
  have zz11 := ht11.size
  clear ht11 t11 g11 i11
  unfold gret
  obtain ⟨w12, hws, ht12⟩ : ∃ W, W = set8 w11 w5.heap.size (.int .i64 0) (.int .i64 0) (.int .i64 0) (.int .i64 0) (.int .i64 (gp (K.autoS roots) (K.autoI roots))) (.int .i64 (gp (K.autoS roots) (K.autoA roots))) (.int .i64 (gp (K.autoS roots) (K.autoS roots).2.length)) (.int .i64 (gp (K.autoS roots) (K.autoM roots).length)) ∧ Turn (fun k => k = w5.heap.size) w11 W := ⟨_, rfl, set8_turn (S := fun k => k = w5.heap.size) (Turn.refl _ _) rfl _ _ _ _ _ _ _ _⟩
  have hbz : w12.heap[w5.heap.size]? = some (.cells #[.int .i64 0, .int .i64 0, .int .i64 0, .int .i64 0, .int .i64 (gp (K.autoS roots) (K.autoI roots)), .int .i64 (gp (K.autoS roots) (K.autoA roots)), .int .i64 (gp (K.autoS roots) (K.autoS roots).2.length), .int .i64 (gp (K.autoS roots) (K.autoM roots).length)] 75) := by rw [hws]; exact set8_row S11.out _ _ _ _ _ _ _ _
  have cx := cellsH S11.out
  have fx := freeH S11.out
  unfold set8 set5 at hws
  go_upto_region 10 with (fail)
  rw [← hws]
  clear hws cx fx
  have S12 := Lib.hid hbz
  have U12 := Lib.hid (rowT ht12 U11.out (by omega))
  have T12 := Lib.hid (T11.out.box S11.out (by omega) (by omega) (by omega) (by omega) ht12)
  have I12 := Lib.hid (I11.out.turn ht12 (fun k hk e => by omega))
  have HR12 := Lib.hid (HR11.out.turn ht12 (fun k hk e => by omega))
  have B12 := Lib.hid (B11.out.trans (ht12.below (by have := B11.out.size; omega) (fun k e => by omega)))
  have zz12 := ht12.size
  clear hbz ht12
  go_wp2_with fail
  refine (half_auto _ T12.out C10.out.sim C10.out.wel C10.out.rwel C10.out.bnd G11.out (by omega) HR12.out (fun k hk => by omega) RL.out).mono ?_
  rintro e w13 ⟨ht13, ⟨KN', KA', KR', p13⟩, v13, rfl, i13⟩
  obtain ⟨A13, c13, rfl⟩ := i13.shape
  have P13 := Lib.hid p13
  have B13 := Lib.hid (B12.out.trans ((T12.out.rb ht13 (by omega)).mono (by omega)))
  have S13 := Lib.hid (T12.out.keepR ht13 S12.out (by decide) (by decide))
  have U13 := Lib.hid (T12.out.keepR ht13 U12.out (by decide) (by decide))
  have J13 := Lib.hid (I12.out.turn ht13 (fun k hk e => by have := C10.out.lowR k e; omega))
  have zz13 := ht13.size
  have I13 := Lib.hid i13
  clear ht13 p13 i13
  unfold gret
  obtain ⟨w14, hws, ht14⟩ : ∃ W, W = set8 w13 w7.heap.size (.int .i64 0) (.int .i64 0) (.int .i64 0) (.int .i64 0) (.int .i64 (gp (K.autoS roots) (K.autoI roots))) (.int .i64 (gp (K.autoS roots) (K.autoA roots))) (.int .i64 (gp (K.autoS roots) (K.autoS roots).2.length)) (.int .i64 (gp (K.autoS roots) (K.autoM roots).length)) ∧ Turn (fun k => k = w7.heap.size) w13 W := ⟨_, rfl, set8_turn (S := fun k => k = w7.heap.size) (Turn.refl _ _) rfl _ _ _ _ _ _ _ _⟩
  have hbz : w14.heap[w7.heap.size]? = some (.cells #[.int .i64 0, .int .i64 0, .int .i64 0, .int .i64 0, .int .i64 (gp (K.autoS roots) (K.autoI roots)), .int .i64 (gp (K.autoS roots) (K.autoA roots)), .int .i64 (gp (K.autoS roots) (K.autoS roots).2.length), .int .i64 (gp (K.autoS roots) (K.autoM roots).length)] 75) := by rw [hws]; exact set8_row U13.out _ _ _ _ _ _ _ _
  have cx := cellsH U13.out
  have fx := freeH U13.out
  unfold set8 set5 at hws
  go_upto_region 11 with (fail)
  rw [← hws]
  clear hws cx fx
  have U14 := Lib.hid hbz
  have S14 := Lib.hid (rowT ht14 S13.out (by omega))
  have P14 := Lib.hid (P13.out.box U13.out (by omega) (by omega) (by omega) (by omega) ht14)
  have I14 := Lib.hid (I13.out.turn ht14 (fun k hk e => by omega))
  have J14 := Lib.hid (J13.out.turn ht14 (fun k hk e => by omega))
  have B14 := Lib.hid (B13.out.trans (ht14.below (by have := B13.out.size; omega) (fun k e => by omega)))
  clear hbz ht14
  go_wp2_with fail
  refine (sameInts_any _ _ w14 _ _ _ J14.out I14.out).mono ?_
  rintro e w15 ⟨rfl, n15, rfl⟩
  have D15 := Lib.hid (below_drewN (Below.refl w14.heap.size w14) n15)
  generalize w14.drewN n15 = w15 at *
  have P15 := Lib.hid (P14.out.fresh D15.out)
  have B15 := Lib.hid (B14.out.trans (D15.out.mono (by have := B14.out.size; omega)))
  have cz := cellsH (rowB D15.out S14.out (heap_lt S14.out))
  have cx := cellsH (rowB D15.out U14.out (heap_lt U14.out))
  go_wp2_with fail
  refine (like_any _ w15 kh ky ka kr KN' KA' K' KR' P15.out.two P15.out.alike).mono ?_
  rintro e w16 ⟨rfl, hb16⟩
  have B16 := Lib.hid (B15.out.trans (hb16.mono (by have := B15.out.size; omega)))
  clear cz cx hb16
  go_wp2_with fail
  refine (awake_any _).mono ?_
  rintro e w17 ⟨rfl, hb17⟩
  have B17 := Lib.hid (B16.out.trans (hb17.mono (by have := B16.out.size; omega)))
  clear hb17
  go_wp2_with fail
  go_ret
  exact ⟨rfl, B17.out⟩
end Go.Proofs.Ytobniolmielikaa

/- The statement CollectMinor, where what it reads is of bulk at most 1048576: for every heap and roots the call answers true and turns nothing; no other condition. -/
namespace Go.Proofs.Ytobniolmielikaa
open Go.ChangeShapes Go.WideShapes Go.ChangeAt Go.RowKit Go.Joins

set_option maxRecDepth 100000 in
theorem collectMinor_lifted (os : Os) (started : os.Started) (H : Type) (enc : TypeId × Value → H) (F : Stop.Interp) :
    ReturnsInHanded {} Try.checked os 12 .any ((Rows.OpenSpec.upto Rows.collectMinorSpec).pre6 enc Try.prog Try.f12 Rows.collectMinorUptoRow.domain false) (((Rows.OpenSpec.upto Rows.collectMinorSpec).at F).post enc Try.prog Try.f12 false true false false) :=
  law_upto (s := Rows.collectMinorSpec) os started enc F (by kernel_rfl) Try.func12 rfl Try.underlying4 (by kernel_rfl) rfl
    (fun ds h => by match ds, h with | [_, _], _ => rfl)
    (OpenSpec.witness (enc := enc) (C := Try.checked) (s := Rows.OpenSpec.upto Rows.collectMinorSpec) (k := Rows.uptoSmall) rfl false ⟨#[], #[.agg #[.int .i64 0, .int .i64 0, .slice none 0 0, .slice none 0 0], .slice none 0 0], []⟩ 8 (by kernel_rfl) (by kernel_rfl) (by kernel_rfl)
      (x := ([.agg [.agg [.lit (.int .i64 0), .lit (.int .i64 0)], .nil, .nil], .nil], [], [])) (by kernel_rfl) rfl (by kernel_rfl))
    (fun W base args ds p hval hA hsz hb => by
      rw [Try.params12] at hA hval hsz
      obtain ⟨v0, vs0, d0, ds0, p0, q0, hargs, rfl, rfl, h0, r0⟩ := trodAll_cons hA
      obtain ⟨v1, vs1, d1, ds1, p1, q1, rfl, rfl, rfl, h1, r1⟩ := trodAll_cons r0
      obtain ⟨rfl, rfl, rfl⟩ := trodAll_nil r1
      obtain rfl : args = #[v0, v1] := by cases args; simp_all
      obtain ⟨cs, rfl, hcs⟩ := okWide_struct Try.underlying62 (hval 0 62 v0 rfl rfl)
      obtain ⟨f0, hf0⟩ := h0
      obtain ⟨f1, hf1⟩ := h1
      have hw : ∀ n ∈ DataW.weightsEach Try.prog [62, 23] [d0, d1], n ≤ reachBytes := by simpa using hsz
      simp only [Rows.uptoBulkAll] at hb
      obtain ⟨n, o, v2, v3, l1, l2, e, hi⟩ := heap_of_trod hf0 (fits_each (j := 0) hw rfl rfl) (show Rows.uptoBulk d0 ≤ 1048576 by omega)
      obtain ⟨v, xs, e1, hr⟩ := roots_of_trod hf1 (fits_each (j := 1) hw rfl rfl)
      obtain rfl : cs = #[.int .i64 n, .int .i64 o, v2, v3] := by
        cases cs
        simpa [Value.cells] using e
      obtain ⟨A, len, c, rfl⟩ := okWide_slice Try.underlying23 (hval 1 23 v1 rfl rfl)
      obtain rfl : v = .slice A len c := by simpa [Value.cells] using e1.symm
      exact collectMinor_law W n o v2 v3 _ l1 l2 xs hi hr)

theorem collectMinor_holds : Rows.CollectMinorUptoSaid :=
  OpenClaim.holds_of_cond 12 Try.f12 rfl rfl rfl rfl rfl rfl rfl ⟨rfl, rfl, rfl, rfl, rfl⟩ rfl rfl rfl rfl rfl (by kernel_rfl) Try.func12 (by kernel_rfl)
    (of_decide_eq_true (by kernel_rfl)) (by unfold Func.isWrapper; rw [if_neg (of_decide_eq_false (by kernel_rfl))]; exact ⟨rfl, rfl⟩)
    (fun os started H enc _ F => collectMinor_lifted os started H enc F)

#print axioms collectMinor_holds
end Go.Proofs.Ytobniolmielikaa

