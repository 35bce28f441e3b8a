/- Texts of the collector's proof, joined: Awk, Auto, AutoM, Lev3, Open, Open2, Frame. -/
import Derived.Test.YtobniolmielikaaZar
import Derived.Test.YtobniolmielikaaZap
import Derived.Test.YtobniolmielikaaZae
import Derived.ProofKit
import Derived.SizedLaws
import Derived.Deep.Slices
import Derived.Test.YtobniolmielikaaZag
import Derived.Test.YtobniolmielikaaRows
import Derived.OpenShut
import Derived.ShutString
import Derived.ChangeOld
import Derived.Below
/- The collector's law: awake; no condition. -/
namespace Go.Proofs.Ytobniolmielikaa
open Go.RowKit

set_option maxRecDepth 100000 in
set_option maxHeartbeats 8000000 in
theorem awake_any (w : World) : Calls Try.prog 36 #[] w fun e w' => e = .returned (.bool true) ∧ Below w.heap.size w w' := by
  go_enter Try.func36, Try.ntmps36
  go_wp2_with fail
  refine (integer_any _ _).mono ?_
  rintro e w1 ⟨rfl, hb1⟩
  have B1 := Lib.hid hb1
  clear hb1
  go_wp2_with fail
  refine (integer_any _ _).mono ?_
  rintro e w2 ⟨rfl, hb2⟩
  have G2 := Lib.hid (rowB hb2 (new0 w1 _) (by simp))
  have B2 := Lib.hid (below_then (B1.out.alloc B1.out.size _) (by have := B1.out.size; simp; omega) hb2)
  clear hb2
  go_wp2_with fail
  obtain ⟨X0, hX0⟩ : ∃ X : Obj, Obj.cells #[.int .i64 0, .int .i64 1, .int .i64 7, .int .i64 0, .slice none 0 0, .slice none 0 0, .int .i64 1, .int .i64 7, .int .i64 0, .int .i64 0, .slice (some ⟨w1.heap.size, 0, none⟩) 1 1, .slice none 0 0, .int .i64 2, .int .i64 1, .int .i64 8, .int .i64 0, .slice none 0 0, .slice none 0 0] 97 = X := ⟨_, rfl⟩
  rw [hX0]
  have RW := Lib.hid (ex_raw (W := w2.alloc X0) (old1 G2.out _) (by rw [hX0]; exact new0 w2 X0))
  have BX := Lib.hid (B2.out.alloc B2.out.size X0)
  clear hX0
  have zx := BX.out.size
  generalize w2.alloc X0 = wx at *
  refine (made34_any (· < wx.heap.size) wx 5 5 _ _ (exL w1.heap.size) [] RW.out.1 (raw_nil _ _) RW.out.2 (fun x hx => by cases hx) (fun k hk => hk) (by simp [exL])).mono ?_
  intro e w3 hm
  unfold MadeEnd at hm
  obtain ⟨hb3, ⟨_, hno⟩ | ⟨h, y, a, r, NV, AV, H, R, rfl, m⟩⟩ := hm
  · exact absurd hno (ex_yes _)
  have EX := Lib.hid (ex_of m)
  have HW := Lib.hid m.wel
  have HH3 := Lib.hid m.two.p
  have bh : wx.heap.size ≤ h := m.two.bh
  have bY : wx.heap.size ≤ y := m.two.bY
  have ba : wx.heap.size ≤ a := m.two.ba
  have hlt3 := m.two.p.lt
  have B3 := Lib.hid (below_then BX.out BX.out.size hb3)
  clear hb3 m RW G2
  go_wp2_with fail
  refine (ex_rea _ _ h y a H _ (HH3.out.alloc _) HW.out EX.out (ints_one _ _ (by decide))).mono ?_
  rintro e w4 ⟨hb4, v4, rfl, i4⟩
  obtain ⟨A4, c4, rfl⟩ := i4.shape
  have I4 := Lib.hid i4
  have B34 := Lib.hid (((Below.refl w3.heap.size w3).alloc (Nat.le_refl _) _).trans (hb4.mono (by simp)))
  have B4 := Lib.hid (below_then B3.out B3.out.size B34.out)
  have HH4 := Lib.hid (HH3.out.fresh B34.out)
  have z4 := B34.out.size
  have hz4 := hb4.size
  simp only [World.size_alloc] at hz4
  clear hb4 i4
  go_wp2_with fail
  refine (ex_gra _ _ h y a H _ (HH4.out.alloc _) HW.out EX.out (ints_one _ _ (by decide))).mono ?_
  rintro e w5 ⟨hb5, v5, u5, l5, rfl, i5, o5, hl5, x5, hx5, hn5⟩
  obtain ⟨A5, c5, rfl⟩ := i5.shape
  obtain ⟨U5, k5, rfl⟩ := o5.shape
  have O5 := Lib.hid o5
  have I5 := Lib.hid i5
  have X5 := Lib.hid (And.intro hx5 hn5)
  have B45 := Lib.hid (((Below.refl w4.heap.size w4).alloc (Nat.le_refl _) _).trans (hb5.mono (by simp)))
  have B5 := Lib.hid (below_then B4.out B4.out.size B45.out)
  have HH5 := Lib.hid (HH4.out.fresh B45.out)
  have I45 := Lib.hid (I4.out.fresh B45.out)
  have z5 := B45.out.size
  have hz5 := hb5.size
  simp only [World.size_alloc] at hz5
  rw [hl5]
  clear hb5 i5 o5 hx5 hn5
  go_wp2_with fail
  refine (ex_min _ _ h y a H _ (HH5.out.alloc _) HW.out EX.out (ints_oneNew _ _ (by decide)) (fun k hk e => by subst hk; rcases e with e | e | e <;> omega)).mono ?_
  rintro e w6 ⟨ht6, ⟨H6, hH6, g3, g2, g4⟩, v6, rfl, i6⟩
  obtain ⟨A6, c6, rfl⟩ := i6.shape
  have T56 := Lib.hid ((below_turn ((Below.refl w5.heap.size w5).alloc (Nat.le_refl _) (.cells #[.int .i64 1] 3)) (HB h y a)).trans ht6)
  have I6 := Lib.hid i6
  have HH6 := Lib.hid hH6
  have G3 := Lib.hid g3
  have G2 := Lib.hid (show H6.get 2 = (⟨0, 0, 0, [], []⟩, 35) from g2)
  have G4 := Lib.hid g4
  have z6 := T56.out.size
  have hz6 := ht6.size
  simp only [World.size_alloc] at hz6
  have I46 := Lib.hid (I45.out.turn T56.out (fun k hk e => by rcases e with e | e | e <;> (simp at hk; omega)))
  have I56 := Lib.hid (I5.out.turn T56.out (fun k hk e => by rcases e with e | e | e <;> (simp at hk; omega)))
  have O6 := Lib.hid (OwnO.kept O5.out (fun g hg => T56.out.block g (by obtain ⟨_, cs, f, hr⟩ := OwnO.row O5.out hg; exact heap_lt hr) (fun e => by have h1 := (OwnO.row O5.out hg).1; simp at h1; rcases e with e | e | e <;> omega)))
  have B6 := Lib.hid (Turn.belowH B5.out T56.out (by have := B5.out.size; omega) (by omega) (by omega) (by omega))
  clear ht6 hH6 g3 g2 g4 i6
  obtain ⟨w7, hws, hbs⟩ : ∃ W, W = w6.alloc (.cells #[.int .i64 0, .int .i64 0, .int .i64 0, .int .i64 0, .int .i64 1, .int .i64 0, .int .i64 2, .int .i64 2] 75) ∧ Below w6.heap.size w6 W := ⟨_, rfl, (Below.refl _ _).alloc (Nat.le_refl _) _⟩
  have hbz : w7.heap[w6.heap.size]? = some (.cells #[.int .i64 0, .int .i64 0, .int .i64 0, .int .i64 0, .int .i64 1, .int .i64 0, .int .i64 2, .int .i64 2] 75) := by rw [hws]; exact new0 _ _
  go_upto_region 7 with (fail)
  rw [← hws]
  clear hws
  have S7 := Lib.hid hbz
  have D7 := Lib.hid hbs
  have B7 := Lib.hid (below_then B6.out B6.out.size hbs)
  have HH7 := Lib.hid (HH6.out.fresh hbs)
  have zz7 := hbs.size
  have zs7 := heap_lt hbz
  clear hbz hbs
  go_wp2_with fail
  refine (get_any w7 h y a H6 3 HH7.out).mono ?_
  rintro e w8 ⟨v8, rfl, ho8, hb8⟩
  rw [G3.out] at ho8 ⊢
  obtain ⟨rv8, wv8, rfl, hr8, hw8⟩ := ho8
  obtain ⟨A8, c8, e8⟩ := Ints.shape hr8
  obtain ⟨V8, d8, e8'⟩ := Ints.shape hw8
  simp only [List.length_cons, List.length_nil, Nat.zero_add] at e8 e8'
  subst e8 e8'
  have R8 := Lib.hid (show Ints (fun b => w7.heap.size ≤ b ∧ IsRow 3 w8 b) w8 _ [4] from hr8)
  have D8 := Lib.hid hb8
  have B8 := Lib.hid (below_then B7.out B7.out.size hb8)
  have HH8 := Lib.hid (HH7.out.fresh hb8)
  have zz8 := hb8.size
  clear hr8 hw8 hb8
  obtain ⟨w9, hws, hbs⟩ : ∃ W, W = w8.alloc (.cells #[.int .i64 7, .int .i64 0, .int .i64 0, .slice A8 1 c8, .slice V8 0 d8] 25) ∧ Below w8.heap.size w8 W := ⟨_, rfl, (Below.refl _ _).alloc (Nat.le_refl _) _⟩
  have hbz : w9.heap[w8.heap.size]? = some (.cells #[.int .i64 7, .int .i64 0, .int .i64 0, .slice A8 1 c8, .slice V8 0 d8] 25) := by rw [hws]; exact new0 _ _
  go_upto_region 8 with (fail)
  rw [← hws]
  clear hws
  have S9 := Lib.hid hbz
  have D9 := Lib.hid hbs
  have B9 := Lib.hid (below_then B8.out B8.out.size hbs)
  have HH9 := Lib.hid (HH8.out.fresh hbs)
  have zz9 := hbs.size
  have zs9 := heap_lt hbz
  clear hbz hbs
  go_wp2_with fail
  refine (get_any w9 h y a H6 2 HH9.out).mono ?_
  rintro e w10 ⟨v10, rfl, ho10, hb10⟩
  rw [G2.out] at ho10 ⊢
  obtain ⟨rv10, wv10, rfl, hr10, hw10⟩ := ho10
  obtain ⟨A10, c10, e10⟩ := Ints.shape hr10
  obtain ⟨V10, d10, e10'⟩ := Ints.shape hw10
  simp only [List.length_nil] at e10 e10'
  subst e10 e10'
  have D10 := Lib.hid hb10
  have B10 := Lib.hid (below_then B9.out B9.out.size hb10)
  have HH10 := Lib.hid (HH9.out.fresh hb10)
  have zz10 := hb10.size
  clear hr10 hw10 hb10
  obtain ⟨w11, hws, hbs⟩ : ∃ W, W = w10.alloc (.cells #[.int .i64 0, .int .i64 0, .int .i64 0, .slice A10 0 c10, .slice V10 0 d10] 25) ∧ Below w10.heap.size w10 W := ⟨_, rfl, (Below.refl _ _).alloc (Nat.le_refl _) _⟩
  have hbz : w11.heap[w10.heap.size]? = some (.cells #[.int .i64 0, .int .i64 0, .int .i64 0, .slice A10 0 c10, .slice V10 0 d10] 25) := by rw [hws]; exact new0 _ _
  go_upto_region 9 with (fail)
  rw [← hws]
  clear hws
  have D11 := Lib.hid hbs
  have B11 := Lib.hid (below_then B10.out B10.out.size hbs)
  have HH11 := Lib.hid (HH10.out.fresh hbs)
  have zz11 := hbs.size
  clear hbz hbs
  go_wp2_with fail
  refine (minor_nil w11).mono ?_
  rintro e w12 ⟨rfl, hb12⟩
  have D12 := Lib.hid hb12
  have B12 := Lib.hid (below_then B11.out B11.out.size hb12)
  have HH12 := Lib.hid (HH11.out.fresh hb12)
  have zz12 := hb12.size
  clear hb12
  obtain ⟨w13, hws, hbs⟩ : ∃ W, W = w12.alloc (.cells #[.int .i64 0, .int .i64 0, .int .i64 0, .int .i64 0, .int .i64 0, .int .i64 0, .int .i64 0, .int .i64 0] 75) ∧ Below w12.heap.size w12 W := ⟨_, rfl, (Below.refl _ _).alloc (Nat.le_refl _) _⟩
  have hbz : w13.heap[w12.heap.size]? = some (.cells #[.int .i64 0, .int .i64 0, .int .i64 0, .int .i64 0, .int .i64 0, .int .i64 0, .int .i64 0, .int .i64 0] 75) := by rw [hws]; exact new0 _ _
  have B13 := Lib.hid (below_then B12.out B12.out.size hbs)
  have D13 := Lib.hid ((((((D7.out.trans (D8.out.mono (by omega))).trans (D9.out.mono (by omega))).trans (D10.out.mono (by omega))).trans (D11.out.mono (by omega))).trans (D12.out.mono (by omega))).trans (hbs.mono (by omega)))
  have S13 := Lib.hid (rowB hbs (rowB D12.out (rowB D11.out (rowB D10.out (rowB D9.out (rowB D8.out S7.out (by omega)) (by omega)) (by omega)) (by omega)) (by omega)) (by omega))
  have Q13 := Lib.hid (rowB hbs (rowB D12.out (rowB D11.out (rowB D10.out S9.out (by omega)) (by omega)) (by omega)) (by omega))
  have R13 := Lib.hid (((((R8.out.fresh D9.out).fresh D10.out).fresh D11.out).fresh D12.out).fresh hbs)
  have HH13 := Lib.hid (HH12.out.fresh hbs)
  have zz13 := hbs.size
  clear hbz hbs
  have O13 := Lib.hid (OwnO.fresh O6.out D13.out)
  have I4d := Lib.hid (I46.out.fresh D13.out)
  have I5d := Lib.hid (I56.out.fresh D13.out)
  have I6d := Lib.hid (I6.out.fresh D13.out)
  clear I4 I5 I45 I46 I56 I6 O5 O6 R8 S7 S9 D7 D8 D9 D10 D11 D12 D13 HH3 HH4 HH5 HH6 HH7 HH8 HH9 HH10 HH11 HH12 T56 B34 B45
  go_wp2_with fail
  rw [← hws]
  have hsz : w12.heap.size + 1 = w13.heap.size := by rw [hws]; simp
  rw [hsz]
  clear hws hsz
  refine (sameInts_any _ _ (w13.alloc _) _ _ [0, 1] (I4d.out.alloc _) (ints_twoNew _ _ _ (by decide) (by decide))).mono ?_
  rintro e w14 ⟨rfl, n14, rfl⟩
  have E14 := Lib.hid (below_drewN ((Below.refl w13.heap.size w13).alloc (Nat.le_refl _) (.cells #[.int .i64 0, .int .i64 1] 3)) n14)
  generalize (w13.alloc (.cells #[.int .i64 0, .int .i64 1] 3)).drewN n14 = w14 at *
  have zz14 := E14.out.size
  go_wp2_with fail
  refine (sameInts_any _ _ (w14.alloc _) _ _ [0] ((I5d.out.fresh E14.out).alloc _) (ints_one _ _ (by decide))).mono ?_
  rintro e w15 ⟨rfl, n15, rfl⟩
  have E15 := Lib.hid (E14.out.trans ((below_drewN ((Below.refl w14.heap.size w14).alloc (Nat.le_refl _) (.cells #[.int .i64 0] 3)) n15).mono zz14))
  generalize (w14.alloc (.cells #[.int .i64 0] 3)).drewN n15 = w15 at *
  have zz15 := E15.out.size
  have O15 := OwnO.fresh O13.out E15.out
  obtain ⟨gU, rfl, -, cU, -⟩ := OwnO.cell O15 X5.out.1
  rw [X5.out.2] at cU
  simp only [Nat.one_mul] at cU
  have cU' : w15.cell? ⟨gU, 6, none⟩ = some (.int .i64 7) := cU
  clear O15 cU
  go_wp2_with fail
  refine (sameInts_any _ _ (w15.alloc _) _ _ [3] ((I6d.out.fresh E15.out).alloc _) (ints_one _ _ (by decide))).mono ?_
  rintro e w16 ⟨rfl, n16, rfl⟩
  have E16 := Lib.hid (E15.out.trans ((below_drewN ((Below.refl w15.heap.size w15).alloc (Nat.le_refl _) (.cells #[.int .i64 3] 3)) n16).mono zz15))
  clear cU'
  generalize (w15.alloc (.cells #[.int .i64 3] 3)).drewN n16 = w16 at *
  have zz16 := E16.out.size
  have cS := cellsH (rowB E16.out S13.out (heap_lt S13.out))
  have cQ := cellsH (rowB E16.out Q13.out (heap_lt Q13.out))
  go_wp2_with fail
  refine (sameInts_any _ _ (w16.alloc _) _ _ [4] ((R13.out.fresh E16.out).alloc _) (ints_one _ _ (by decide))).mono ?_
  rintro e w17 ⟨rfl, n17, rfl⟩
  have E17 := Lib.hid (E16.out.trans ((below_drewN ((Below.refl w16.heap.size w16).alloc (Nat.le_refl _) (.cells #[.int .i64 4] 3)) n17).mono zz16))
  clear cS cQ
  generalize (w16.alloc (.cells #[.int .i64 4] 3)).drewN n17 = w17 at *
  have zz17 := E17.out.size
  go_wp2_with fail
  refine (old_any w17 h y a H6 4 (HH13.out.fresh E17.out)).mono ?_
  rintro e w18 ⟨rfl, hb18⟩
  rw [G4.out]
  have B18 := Lib.hid (below_then (below_then B13.out B13.out.size E17.out) (by have := B13.out.size; omega) hb18)
  clear hb18
  go_wp2_with fail
  go_ret
  exact ⟨rfl, B18.out⟩
end Go.Proofs.Ytobniolmielikaa

/- The collector's Auto; no condition. -/
namespace Go.Proofs.Ytobniolmielikaa
open Go.RowKit

/-- What Auto makes: its error and what it moves, whether it was a Major. -/
def HM.autoMajor (H : HM) (roots : List Int) : Bool := (H.minor roots).1 == 33

set_option maxRecDepth 100000 in
set_option maxHeartbeats 2000000 in
theorem auto_major (ok : Nat → Prop) (w : World) (h y a : Nat) (H : HM) (rv : Value) (roots : List Int) (hh : HeapAt w h y a H) (hW : Wel H) (hr : Ints ok w rv roots) (hok : ∀ k, ok k → ¬ HB h y a k) (hvol : H.fuel roots ≤ 500000) (hm : (H.minor roots).1 = 33) :
    Calls Try.prog 46 #[.pointer (some ⟨h, 0, none⟩), rv] w fun e w' => GcEnd w h y a H roots (H.major roots) 0 1 (H.major roots).2.length (H.news (H.major roots).2) e w' := by
  obtain ⟨A, c, rfl⟩ := hr.shape
  obtain ⟨Z, hZ⟩ : ∃ Z : Obj, Obj.cells (statA 0 0 0 0) 75 = Z := ⟨_, rfl⟩
  have HBX := Lib.hid (show (w.alloc Z).heap[w.heap.size]? = some (.cells (statA 0 0 0 0) 75) by rw [new0, ← hZ])
  have HM := Lib.hid (minor_any (fun k => k < w.heap.size ∧ ok k) (w.alloc Z) h y a H _ roots (hh.alloc Z) hW ((hr.mono (fun k h1 h2 => ⟨h1, h2⟩)).alloc Z) (fun k hk => hok k hk.2) hvol)
  have HE := Lib.hid hm
  have HROK := Lib.hid (hr.mono (ok' := fun k => k < w.heap.size ∧ ok k) (fun k h1 h2 => ⟨h1, h2⟩))
  have HOK := Lib.hid hok
  have HH := Lib.hid hh
  have hhl := hh.lt
  clear hh hr hm hok
  go_enter Try.func46, Try.ntmps46
  go_wp2_with fail
  refine HM.out.mono ?_
  rintro e w1 ⟨ht, ⟨H', hH', hg⟩, hno, -⟩
  have he := hno (by rw [HE.out]; decide)
  rw [HE.out] at he
  subst he
  have hHH : H' = H := hg.no (by rw [HE.out]; decide)
  subst hHH
  have hz1 := ht.size
  simp only [World.size_alloc] at hz1
  have hbx1 := rowT ht HBX.out (by rintro (e | e | e) <;> omega)
  have hzr : (w1.alloc Z).heap[w1.heap.size]? = some (.cells (statA 0 0 0 0) 75) := by rw [new0, ← hZ]
  obtain ⟨ws, hws, hbs⟩ : ∃ W, W = set8 (w1.alloc Z) w1.heap.size (.int .i64 0) (.int .i64 0) (.int .i64 0) (.int .i64 0) (.int .i64 0) (.int .i64 0) (.int .i64 0) (.int .i64 0) ∧ Below w1.heap.size w1 W :=
    ⟨_, rfl, ((Below.refl _ _).alloc (Nat.le_refl _) Z).trans ((set8_turn (S := fun q => q = w1.heap.size) (Turn.refl _ _) rfl _ _ _ _ _ _ _ _).below (by simp) (fun q e => by omega))⟩
  unfold set8 set5 at hws
  have cz := cellsH hzr
  have fz := freeH hzr
  have T1 := Lib.hid ((below_turn ((Below.refl w.heap.size w).alloc (Nat.le_refl _) Z) (HB h y a)).trans ht)
  have HS := Lib.hid (hH'.fresh hbs)
  have HBXs := Lib.hid (rowB hbs hbx1 (heap_lt hbx1))
  have TS := Lib.hid (T1.out.then hbs)
  have HRs := Lib.hid ((HROK.out.turn T1.out (fun k hk => HOK.out k hk.2)).fresh hbs)
  clear ht hH' hg hbx1 hzr hno
  go_upto_region 2 with (fail)
  rw [← hws]
  clear cz fz hws hZ
  go_wp2_with fail
  refine (major_any _ ws h y a H' _ roots HS.out hW HRs.out (fun k hk => HOK.out k hk.2) (by omega)).mono ?_
  rintro e w2 ⟨ht2, hh2, hno2, hyes2⟩
  have HBX2 := Lib.hid (rowT ht2 HBXs.out (by rintro (e | e | e) <;> omega))
  have T2 := Lib.hid (TS.out.trans ht2)
  have hzs := TS.out.size
  have HH2 := Lib.hid hh2
  have hzb := heap_lt HBXs.out
  clear ht2 hh2
  by_cases h0 : (H'.major roots).1 = 0
  · obtain ⟨v, he, hi⟩ := hyes2 h0
    obtain ⟨Av, cv, rfl⟩ := hi.shape
    have HI := Lib.hid (hi.mono (ok' := fun k => w.heap.size ≤ k ∧ k ≠ w.heap.size) (fun k _ hk => by omega))
    have H0 := Lib.hid h0
    subst he
    have cx := cellsH HBX2.out
    have fx := freeH HBX2.out
    clear hno2 hyes2 hi h0
    go_wp2_with fail
    clear cx fx
    have c := cellsH (set8_row HBX2.out (.int .i64 0) (.int .i64 0) (.int .i64 0) (.int .i64 0) (.int .i64 0) (.int .i64 1) (.int .i64 (H'.major roots).2.length) (.int .i64 (H'.major roots).2.length))
    unfold set8 set5 at c
    refine bodyPost_ret (v := .tuple #[.slice Av (roots.map (mv (H'.major roots).2 H'.top)).length cv, .agg (statA 0 1 (H'.major roots).2.length (H'.major roots).2.length), .int .i64 0]) (by simp [results, Try.results46, go_sem, c]) rfl ?_
    exact gcEnd_yes (r := H'.major roots) (m := H'.news (H'.major roots).2) (roots := roots) (mi := 0) (ma := 1) (pe := (H'.major roots).2.length) hhl T2.out HH2.out HBX2.out H0.out HI.out (.int .i64 0) (.int .i64 0) (.int .i64 0) (.int .i64 0) (.int .i64 0) (.int .i64 1) (.int .i64 (H'.major roots).2.length) (.int .i64 (H'.major roots).2.length)
  · have he := hno2 h0
    have H0 := Lib.hid h0
    subst he
    have cx := cellsH HBX2.out
    have fx := freeH HBX2.out
    clear hno2 hyes2 h0
    go_wp2_with fail
    clear cx fx
    have c := cellsH (set8_row HBX2.out (.int .i64 0) (.int .i64 0) (.int .i64 0) (.int .i64 0) (.int .i64 0) (.int .i64 0) (.int .i64 0) (.int .i64 0))
    unfold set8 set5 at c
    refine bodyPost_ret (v := .tuple #[.slice none 0 0, .agg (statA 0 0 0 0), .int .i64 (H'.major roots).1]) (by simp [results, Try.results46, go_sem, c]) rfl ?_
    exact gcEnd_no (r := H'.major roots) (m := H'.news (H'.major roots).2) (roots := roots) (mi := 0) (ma := 1) (pe := (H'.major roots).2.length) hhl T2.out HH2.out HBX2.out H0.out (.int .i64 0) (.int .i64 0) (.int .i64 0) (.int .i64 0) (.int .i64 0) (.int .i64 0) (.int .i64 0) (.int .i64 0)
end Go.Proofs.Ytobniolmielikaa

/- The collector's Auto where Minor is enough; no condition. -/
namespace Go.Proofs.Ytobniolmielikaa
open Go.RowKit

theorem GcEnd.fresh {w W W' : World} {h y a : Nat} {H : HM} {roots : List Int} {r : Int × List Int} {mi ma pe : Int} {m : List (Int × Ob)} {e : Ending} (g : GcEnd w h y a H roots r mi ma pe m e W) (hb : Below W.heap.size W W') : GcEnd w h y a H roots r mi ma pe m e W' :=
  ⟨g.turn.then hb, by obtain ⟨H', a1, a2⟩ := g.heap; exact ⟨H', a1.fresh hb, a2⟩, g.no, fun h => by obtain ⟨v, e, i⟩ := g.yes h; exact ⟨v, e, i.fresh hb⟩⟩
set_option maxRecDepth 100000 in
set_option maxHeartbeats 2000000 in
theorem auto_minor (ok : Nat → Prop) (w : World) (h y a : Nat) (H : HM) (rv : Value) (roots : List Int) (hh : HeapAt w h y a H) (hW : Wel H) (hr : Ints ok w rv roots) (hok : ∀ k, ok k → ¬ HB h y a k) (hvol : H.fuel roots ≤ 500000) (hm : (H.minor roots).1 ≠ 33) :
    Calls Try.prog 46 #[.pointer (some ⟨h, 0, none⟩), rv] w fun e w' => GcEnd w h y a H roots (H.minor roots) 1 0 (H.mix (H.minor roots).2).length (H.mix (H.minor roots).2) e w' := by
  obtain ⟨A, c, rfl⟩ := hr.shape
  obtain ⟨Z, hZ⟩ : ∃ Z : Obj, Obj.cells (statA 0 0 0 0) 75 = Z := ⟨_, rfl⟩
  have HBX := Lib.hid (show (w.alloc Z).heap[w.heap.size]? = some (.cells (statA 0 0 0 0) 75) by rw [new0, ← hZ])
  have HM := Lib.hid (minor_any (fun k => k < w.heap.size ∧ ok k) (w.alloc Z) h y a H _ roots (hh.alloc Z) hW ((hr.mono (fun k h1 h2 => ⟨h1, h2⟩)).alloc Z) (fun k hk => hok k hk.2) hvol)
  have HE := Lib.hid hm
  have HH := Lib.hid hh
  have hhl := hh.lt
  clear hh hr hm hok
  go_enter Try.func46, Try.ntmps46
  go_wp2_with fail
  refine HM.out.mono ?_
  rintro e w1 ⟨ht, hh1, hno, hyes⟩
  have hz1 := ht.size
  simp only [World.size_alloc] at hz1
  have hbx1 := rowT ht HBX.out (by rintro (e | e | e) <;> omega)
  have hzr : (w1.alloc Z).heap[w1.heap.size]? = some (.cells (statA 0 0 0 0) 75) := by rw [new0, ← hZ]
  have T1 := Lib.hid ((below_turn ((Below.refl w.heap.size w).alloc (Nat.le_refl _) Z) (HB h y a)).trans ht)
  have HH1 := Lib.hid hh1
  have cz := cellsH hzr
  have fz := freeH hzr
  clear hh1
  by_cases h0 : (H.minor roots).1 = 0
  · obtain ⟨v, he, hi⟩ := hyes h0
    obtain ⟨Av, cv, rfl⟩ := hi.shape
    have HI := Lib.hid (hi.mono (ok' := fun k => w.heap.size ≤ k ∧ k ≠ w.heap.size) (fun k _ hk => by simp at hk; omega))
    have H0 := Lib.hid h0
    subst he
    clear hno hyes hi h0
    obtain ⟨ws, hws, hbs⟩ : ∃ W, W = set8 (w1.alloc Z) w1.heap.size (.int .i64 0) (.int .i64 0) (.int .i64 0) (.int .i64 0) (.int .i64 1) (.int .i64 0) (.int .i64 (H.minor roots).2.length) (.int .i64 (H.mix (H.minor roots).2).length) ∧ Below w1.heap.size w1 W :=
      ⟨_, rfl, ((Below.refl _ _).alloc (Nat.le_refl _) Z).trans ((set8_turn (S := fun q => q = w1.heap.size) (Turn.refl _ _) rfl _ _ _ _ _ _ _ _).below (by simp) (fun q e => by omega))⟩
    have hbz : ws.heap[w1.heap.size]? = some (.cells #[.int .i64 0, .int .i64 0, .int .i64 0, .int .i64 0, .int .i64 1, .int .i64 0, .int .i64 (H.minor roots).2.length, .int .i64 (H.mix (H.minor roots).2).length] 75) := by rw [hws]; exact set8_row hzr _ _ _ _ _ _ _ _
    unfold set8 set5 at hws
    go_upto_region 4 with (fail)
    rw [← hws]
    clear cz fz hws hZ
    have hbw := rowB hbs hbx1 (heap_lt hbx1)
    have TS := Lib.hid (T1.out.then hbs)
    have HBW := Lib.hid hbw
    have HBS := Lib.hid hbs
    have cz := cellsH hbz
    have cx := cellsH hbw
    have fx := freeH hbw
    clear ht hbx1 hzr hbs hbz hbw
    go_region_with (fail)
    clear cx fx cz
    have HH2 := Lib.hid (by obtain ⟨H', a1, a2⟩ := HH1.out; exact (⟨H', a1.fresh HBS.out, a2⟩ : ∃ H', HeapAt ws h y a H' ∧ Gone H (H.minor roots).1 (H.mix (H.minor roots).2) H'))
    have HI2 := Lib.hid (HI.out.fresh HBS.out)
    go_wp2_with fail
    have c := cellsH (set8_row HBW.out (.int .i64 0) (.int .i64 0) (.int .i64 0) (.int .i64 0) (.int .i64 1) (.int .i64 0) (.int .i64 (H.minor roots).2.length) (.int .i64 (H.mix (H.minor roots).2).length))
    unfold set8 set5 at c
    refine bodyPost_ret (v := .tuple #[.slice Av (roots.map (mv (H.minor roots).2 H.top)).length cv, .agg (statA 1 0 (H.minor roots).2.length (H.mix (H.minor roots).2).length), .int .i64 0]) (by simp [results, Try.results46, go_sem, c]) rfl ?_
    refine GcEnd.fresh ?_ ((Below.refl _ _).drew)
    exact gcEnd_yes (r := H.minor roots) (m := H.mix (H.minor roots).2) (roots := roots) (mi := 1) (ma := 0) (pe := (H.mix (H.minor roots).2).length) hhl TS.out HH2.out HBW.out H0.out HI2.out (.int .i64 0) (.int .i64 0) (.int .i64 0) (.int .i64 0) (.int .i64 1) (.int .i64 0) (.int .i64 (H.minor roots).2.length) (.int .i64 (H.mix (H.minor roots).2).length)
  · have he := hno h0
    have H0 := Lib.hid h0
    have E0 := Lib.hid (show ((H.minor roots).1 == 33) = false by simpa using HE.out)
    have e0 := E0.out
    subst he
    clear hno hyes h0
    obtain ⟨ws, hws, hbs⟩ : ∃ W, W = set8 (w1.alloc Z) w1.heap.size (.int .i64 0) (.int .i64 0) (.int .i64 0) (.int .i64 0) (.int .i64 0) (.int .i64 0) (.int .i64 0) (.int .i64 0) ∧ Below w1.heap.size w1 W :=
      ⟨_, rfl, ((Below.refl _ _).alloc (Nat.le_refl _) Z).trans ((set8_turn (S := fun q => q = w1.heap.size) (Turn.refl _ _) rfl _ _ _ _ _ _ _ _).below (by simp) (fun q e => by omega))⟩
    have hbz : ws.heap[w1.heap.size]? = some (.cells #[.int .i64 0, .int .i64 0, .int .i64 0, .int .i64 0, .int .i64 0, .int .i64 0, .int .i64 0, .int .i64 0] 75) := by rw [hws]; exact set8_row hzr _ _ _ _ _ _ _ _
    unfold set8 set5 at hws
    go_upto_region 4 with (fail)
    rw [← hws]
    clear cz fz hws hZ
    have hbw := rowB hbs hbx1 (heap_lt hbx1)
    have TS := Lib.hid (T1.out.then hbs)
    have HBW := Lib.hid hbw
    have HBS := Lib.hid hbs
    have cz := cellsH hbz
    have cx := cellsH hbw
    have fx := freeH hbw
    clear ht hbx1 hzr hbs hbz hbw
    go_region_with (fail)
    clear cx fx cz
    have HH2 := Lib.hid (by obtain ⟨H', a1, a2⟩ := HH1.out; exact (⟨H', a1.fresh HBS.out, a2⟩ : ∃ H', HeapAt ws h y a H' ∧ Gone H (H.minor roots).1 (H.mix (H.minor roots).2) H'))
    go_wp2_with fail
    have c := cellsH (set8_row HBW.out (.int .i64 0) (.int .i64 0) (.int .i64 0) (.int .i64 0) (.int .i64 0) (.int .i64 0) (.int .i64 0) (.int .i64 0))
    unfold set8 set5 at c
    refine bodyPost_ret (v := .tuple #[.slice none 0 0, .agg (statA 0 0 0 0), .int .i64 (H.minor roots).1]) (by simp [results, Try.results46, go_sem, c]) rfl ?_
    refine GcEnd.fresh ?_ ((Below.refl _ _).drew)
    exact gcEnd_no (r := H.minor roots) (m := H.mix (H.minor roots).2) (roots := roots) (mi := 1) (ma := 0) (pe := (H.mix (H.minor roots).2).length) hhl TS.out HH2.out HBW.out H0.out (.int .i64 0) (.int .i64 0) (.int .i64 0) (.int .i64 0) (.int .i64 0) (.int .i64 0) (.int .i64 0) (.int .i64 0)
end Go.Proofs.Ytobniolmielikaa

/- Both heaps and a collection of each, as the laws use them; no condition. -/
namespace Go.Proofs.Ytobniolmielikaa
open Go.RowKit

/-- The program's heap and the reference's, alike. -/
structure Pair (B : Nat) (w : World) (h y a r : Nat) (NV AV : Value) (H : HM) (R : RM) : Prop where
  two : Two B w h y a r NV AV H R
  sim : Sim H R.abs
  wel : Wel H
  rwel : RWel R
  bnd : Bnd H
theorem Pair.fresh {B : Nat} {w w' : World} {h y a r : Nat} {NV AV : Value} {H : HM} {R : RM} (p : Pair B w h y a r NV AV H R) (hb : Below w.heap.size w w') : Pair B w' h y a r NV AV H R :=
  ⟨p.two.fresh hb, p.sim, p.wel, p.rwel, p.bnd⟩
theorem Pair.alike {B : Nat} {w : World} {h y a r : Nat} {NV AV : Value} {H : HM} {R : RM} (p : Pair B w h y a r NV AV H R) : Alike H R := p.sim.alike p.wel p.rwel
theorem MadeAt.pair {w w' : World} {n o : Int} {l1 l2 : List It} {h y a r : Nat} {NV AV : Value} {H : HM} {R : RM} (m : MadeAt w w' n o l1 l2 h y a r NV AV H R) {roots : List Int} (hs : SmallAt l1 l2 roots) : Pair w.heap.size w' h y a r NV AV H R :=
  ⟨m.two, m.sim, m.wel, m.rwel, m.bnd hs⟩
theorem Pair.lowR {B : Nat} {w : World} {h y a r : Nat} {NV AV : Value} {H : HM} {R : RM} (p : Pair B w h y a r NV AV H R) : ∀ k, RB r NV AV k → B ≤ k ∧ k < w.heap.size := by
  rintro k (rfl | e | e)
  · exact ⟨p.two.br, p.two.q.lt⟩
  · exact ⟨(p.two.q.nown.row e).1, (p.two.q.nown.lt k e).2⟩
  · exact ⟨(p.two.q.aown.row e).1, (p.two.q.aown.lt k e).2⟩
theorem Pair.lowH {B : Nat} {w : World} {h y a r : Nat} {NV AV : Value} {H : HM} {R : RM} (p : Pair B w h y a r NV AV H R) : ∀ k, HB h y a k → B ≤ k ∧ k < w.heap.size := by
  have := p.two.lt
  have h1 := p.two.bh
  have h2 := p.two.bY
  have h3 := p.two.ba
  rintro k (rfl | rfl | rfl) <;> omega

def gp (s : Int × List Int) (x : Int) : Int := if s.1 = 0 then x else 0
def gxs (s : Int × List Int) (top : Int) (roots : List Int) : List Int := if s.1 = 0 then roots.map (mv s.2 top) else []
/-- What a collection answers. -/
def gret (s : Int × List Int) (mi ma pe : Int) (v : Value) : Ending := .returned (.tuple #[v, .agg (statA (gp s mi) (gp s ma) (gp s s.2.length) (gp s pe)), .int .i64 s.1])

/-- Behind the program's collection. -/
structure GcP (B : Nat) (w : World) (h y a r : Nat) (NV AV : Value) (H : HM) (R : RM) (roots : List Int) (s : Int × List Int) (mi ma pe : Int) (m : List (Int × Ob)) (e : Ending) (w' : World) : Prop where
  turn : Turn (HB h y a) w w'
  two : ∃ H', Two B w' h y a r NV AV H' R ∧ Gone H s.1 m H'
  ret : ∃ v, e = gret s mi ma pe v ∧ Ints (w.heap.size ≤ ·) w' v (gxs s H.top roots)
theorem gcP_of {B : Nat} {w w' : World} {h y a r : Nat} {NV AV : Value} {H : HM} {R : RM} {roots : List Int} {s : Int × List Int} {mi ma pe : Int} {m : List (Int × Ob)} {e : Ending} (t : Two B w h y a r NV AV H R) (g : GcEnd w h y a H roots s mi ma pe m e w') : GcP B w h y a r NV AV H R roots s mi ma pe m e w' := by
  obtain ⟨H', h1, h2⟩ := g.heap
  refine ⟨g.turn, ⟨H', t.prog g.turn h1, h2⟩, ?_⟩
  unfold gret gp gxs
  by_cases h0 : s.1 = 0
  · simp only [h0, if_true]
    obtain ⟨v, e1, i⟩ := g.yes h0
    exact ⟨v, e1, i⟩
  · simp only [h0, if_false]
    exact ⟨_, g.no h0, Ints.nil _ _⟩

/-- Behind the reference's, too. -/
structure GcQ (B : Nat) (w : World) (h y a r : Nat) (NV AV : Value) (H H' : HM) (roots : List Int) (s : Int × List Int) (mi ma pe : Int) (e : Ending) (w' : World) : Prop where
  turn : Turn (RB r NV AV) w w'
  pair : ∃ NV' AV' R', Pair B w' h y a r NV' AV' H' R'
  ret : ∃ v, e = gret s mi ma pe v ∧ Ints (w.heap.size ≤ ·) w' v (gxs s H.top roots)
theorem gcQ_of {B : Nat} {w w' : World} {h y a r : Nat} {NV AV : Value} {H H' : HM} {R : RM} {roots : List Int} {s : Int × List Int} {mi ma pe : Int} {m m' : List (Int × Ob)} {e : Ending} (t : Two B w h y a r NV AV H' R) (sm : Sim H R.abs) (hW : Wel H) (hR : RWel R) (hB : Bnd H) (g : Gone H s.1 m H')
    (q : RGcEnd B w r NV AV R roots s mi ma pe m' e w') (hp : m.Perm m') (c : s.1 = 0 → Col H m) : GcQ B w h y a r NV AV H H' roots s mi ma pe e w' := by
  obtain ⟨NV', AV', R', h1, h2, h3⟩ := q.heap
  obtain ⟨k1, k2⟩ := gone_both sm hW hR g h2 h3 hp c
  refine ⟨q.turn, ⟨NV', AV', R', t.ref q.turn h1, k1, g.wel hW c, k2, g.bnd hB c⟩, ?_⟩
  unfold gret gp gxs
  by_cases h0 : s.1 = 0
  · simp only [h0, if_true]
    obtain ⟨v, e1, i⟩ := q.yes h0
    rw [← sm.top] at i
    exact ⟨v, e1, i⟩
  · simp only [h0, if_false]
    exact ⟨_, q.no h0, Ints.nil _ _⟩

theorem pair_major {B : Nat} {ok : Nat → Prop} {w : World} {h y a r : Nat} {NV AV : Value} {H : HM} {R : RM} (rv : Value) {roots : List Int} (p : Pair B w h y a r NV AV H R) (hr : Ints ok w rv roots) (hok : ∀ k, ok k → k < B) (hl : roots.length ≤ 20) :
    Calls Try.prog 43 #[.pointer (some ⟨h, 0, none⟩), rv] w (GcP B w h y a r NV AV H R roots (H.major roots) 0 1 (H.major roots).2.length (H.news (H.major roots).2)) := by
  refine (major_any ok w h y a H rv roots p.two.p p.wel hr (fun k hk e => by have h1 := hok k hk; have h2 := p.lowH k e; omega) (by have := p.bnd.fuel hl; omega)).mono ?_
  exact fun e w' g => gcP_of p.two g
theorem half_major {B : Nat} {ok : Nat → Prop} {w : World} {h y a r : Nat} {NV AV : Value} {H H' : HM} {R : RM} (rv : Value) {roots : List Int} (t : Two B w h y a r NV AV H' R) (sm : Sim H R.abs) (hW : Wel H) (hR : RWel R) (hB : Bnd H) (g : Gone H (H.major roots).1 (H.news (H.major roots).2) H') (hbase : B ≤ w.heap.size) (hr : Ints ok w rv roots) (hl : roots.length ≤ 20) :
    Calls Try.prog 44 #[.pointer (some ⟨r, 0, none⟩), rv] w (GcQ B w h y a r NV AV H H' roots (H.major roots) 0 1 (H.major roots).2.length) := by
  refine (rmajor_any B ok w r NV AV R rv roots t.q hR hbase hr (by rw [← sm.fuel]; have := hB.fuel hl; omega)).mono ?_
  intro e w' q
  rw [← sm.major, ← sm.news] at q
  exact gcQ_of t sm hW hR hB g q (.refl _) (major_col hW)
theorem pair_minor {B : Nat} {ok : Nat → Prop} {w : World} {h y a r : Nat} {NV AV : Value} {H : HM} {R : RM} (rv : Value) {roots : List Int} (p : Pair B w h y a r NV AV H R) (hr : Ints ok w rv roots) (hok : ∀ k, ok k → k < B) (hl : roots.length ≤ 20) :
    Calls Try.prog 45 #[.pointer (some ⟨h, 0, none⟩), rv] w (GcP B w h y a r NV AV H R roots (H.minor roots) 1 0 (H.mix (H.minor roots).2).length (H.mix (H.minor roots).2)) := by
  refine (minor_any ok w h y a H rv roots p.two.p p.wel hr (fun k hk e => by have h1 := hok k hk; have h2 := p.lowH k e; omega) (by have := p.bnd.fuel hl; omega)).mono ?_
  exact fun e w' g => gcP_of p.two g
theorem half_minor {B : Nat} {ok : Nat → Prop} {w : World} {h y a r : Nat} {NV AV : Value} {H H' : HM} {R : RM} (rv : Value) {roots : List Int} (t : Two B w h y a r NV AV H' R) (sm : Sim H R.abs) (hW : Wel H) (hR : RWel R) (hB : Bnd H) (g : Gone H (H.minor roots).1 (H.mix (H.minor roots).2) H') (hbase : B ≤ w.heap.size) (hr : Ints ok w rv roots) (hl : roots.length ≤ 20) :
    Calls Try.prog 48 #[.pointer (some ⟨r, 0, none⟩), rv] w (GcQ B w h y a r NV AV H H' roots (H.minor roots) 1 0 (H.mix (H.minor roots).2).length) := by
  refine (rminor_any B ok w r NV AV R rv roots t.q hR hbase hr (by rw [← sm.fuel]; have := hB.fuel hl; omega)).mono ?_
  intro e w' q
  rw [← sm.minor, ← sm.mixR] at q
  have hl : (H.mixR (H.minor roots).2).length = (H.mix (H.minor roots).2).length := (mix_perm H _).length_eq.symm
  rw [hl] at q
  exact gcQ_of t sm hW hR hB g q (mix_perm H _) (minor_col hW)
end Go.Proofs.Ytobniolmielikaa

/- How the arguments of this seat's laws read, said in this seat's words: slices of ints, heap objects; no condition. -/
namespace Go.Proofs.Ytobniolmielikaa
open Go.RowKit Go.ChangeShapes Go.WideShapes Go.ChangeAt

section
variable {H : Type} {enc : TypeId × Value → H} {w : World} {fuel : Nat} {cs : List Value} {x : DataW H × List MemPlace}

theorem cells3 : Try.prog.cellsOf 3 = 1 := by kernel_rfl
theorem cells22 : Try.prog.cellsOf 22 = 1 := by kernel_rfl
theorem cells23 : Try.prog.cellsOf 23 = 1 := by kernel_rfl
theorem cells25 : Try.prog.cellsOf 25 = 5 := by kernel_rfl
theorem bytes3 : Try.prog.bytesOf 3 = 8 := by kernel_rfl

/-- All weights are within the form's reach. -/
def Fits (P : Program) (t : TypeId) (d : DataW H) : Prop := ∀ n ∈ d.weights P t, n ≤ reachBytes

theorem ints_of_trod (h : DataW.trod enc Try.prog w 0 (fun _ => true) true fuel 23 cs = some x) (hf : Fits Try.prog 23 x.1) : ∃ v xs, cs = [v] ∧ Ints (fun _ => True) w v xs := by
  rcases open_ints Try.underlying23 Try.underlying3 cells3 h with ⟨rfl, rfl⟩ | ⟨a, len, cap, zs, rfl, _, hl, hm, hz, rfl, hc, hw⟩
  · exact ⟨_, [], rfl, Ints.nil _ _⟩
  · have hz' : zs.length = cap := by simpa using hz
    have hb : zs.length * 8 ≤ reachBytes := by
      have := hf ((lits IntKind.i64 (zs.take len)).length * 8 + (lits (H := H) IntKind.i64 (zs.drop len)).length * 8) (by
        simp only [DataW.weights, Try.underlying23, bytes3, Nat.add_mul]
        exact List.mem_cons_self)
      simp [lits] at this
      omega
    have hr : reachBytes ≤ 140737488355328 := by decide
    have hlen : (zs.take len).length = len := by simp; omega
    refine ⟨_, zs.take len, rfl, ⟨some a, cap, by rw [hlen], by omega, hm, (fun h => by cases h), fun h0 => ⟨a, rfl, trivial, ?_, ?_⟩, by omega, fun z hz => hw z (List.mem_of_mem_take hz)⟩⟩
    · have h1 := hc 0 (by omega)
      have := World.block_lt_of_cell? _ _ h1
      rwa [addr_block] at this
    · intro i y hy
      rw [List.getElem?_take] at hy
      split at hy
      · rename_i hi
        have hi' : i < zs.length := (List.getElem?_eq_some_iff.1 hy).1
        rw [hc i hi']
        simp [List.getD_eq_getElem?_getD, hy]
      · cases hy

theorem list5 {α : Type} : ∀ {l : List α}, l.length = 5 → ∃ a b c d e, l = [a, b, c, d, e]
  | [a, b, c, d, e], _ => ⟨a, b, c, d, e, rfl⟩
theorem list6 {α : Type} : ∀ {l : List α}, l.length = 6 → ∃ a b c d e f, l = [a, b, c, d, e, f]
  | [a, b, c, d, e, f], _ => ⟨a, b, c, d, e, f, rfl⟩
theorem fits_each {P : Program} : ∀ {ts : List TypeId} {ds : List (DataW H)} {j : Nat} {t : TypeId} {d : DataW H}, (∀ n ∈ DataW.weightsEach P ts ds, n ≤ reachBytes) → ts[j]? = some t → ds[j]? = some d → Fits P t d :=
  fun h ht hd n hn => h n (DataW.weights_mem_each ht hd n hn)

theorem ob_of_trod (h : DataW.trod enc Try.prog w 0 (fun _ => true) true fuel 25 cs = some x) (hf : Fits Try.prog 25 x.1) : ∃ o, ObAt (fun _ => True) w (.agg cs.toArray) o := by
  obtain ⟨ys, n, rfl, rfl, hlen, hyl, hat⟩ := DataW.trod_struct Try.underlying25 h
  rw [cells25] at hlen
  obtain ⟨c0, c1, c2, c3, c4, rfl⟩ := list5 hlen
  have hfs : ∀ n ∈ DataW.weightsEach Try.prog [22, 3, 3, 23, 23] (ys.map (·.1)), n ≤ reachBytes := by
    intro n hn
    refine hf n ?_
    rw [DataW.weights, Try.underlying25]
    exact hn
  have a0 : DataW.trod enc Try.prog w 0 (fun _ => true) true n 22 [c0] = ys[0]? := by
    have : DataW.trod enc Try.prog w 0 (fun _ => true) true n 22 (([c0, c1, c2, c3, c4].drop 0).take (Try.prog.cellsOf 22)) = ys[0]? := hat 0 _ rfl
    rw [cells22] at this
    exact this
  have a1 : DataW.trod enc Try.prog w 0 (fun _ => true) true n 3 [c1] = ys[1]? := by
    have : DataW.trod enc Try.prog w 0 (fun _ => true) true n 3 (([c0, c1, c2, c3, c4].drop 1).take (Try.prog.cellsOf 3)) = ys[1]? := hat 1 _ rfl
    rw [cells3] at this
    exact this
  have a2 : DataW.trod enc Try.prog w 0 (fun _ => true) true n 3 [c2] = ys[2]? := by
    have : DataW.trod enc Try.prog w 0 (fun _ => true) true n 3 (([c0, c1, c2, c3, c4].drop 2).take (Try.prog.cellsOf 3)) = ys[2]? := hat 2 _ rfl
    rw [cells3] at this
    exact this
  have a3 : DataW.trod enc Try.prog w 0 (fun _ => true) true n 23 [c3] = ys[3]? := by
    have : DataW.trod enc Try.prog w 0 (fun _ => true) true n 23 (([c0, c1, c2, c3, c4].drop 3).take (Try.prog.cellsOf 23)) = ys[3]? := hat 3 _ rfl
    rw [cells23] at this
    exact this
  have a4 : DataW.trod enc Try.prog w 0 (fun _ => true) true n 23 [c4] = ys[4]? := by
    have : DataW.trod enc Try.prog w 0 (fun _ => true) true n 23 (([c0, c1, c2, c3, c4].drop 4).take (Try.prog.cellsOf 23)) = ys[4]? := hat 4 _ rfl
    rw [cells23] at this
    exact this
  obtain ⟨y0, y1, y2, y3, y4, rfl⟩ := list5 (l := ys) hyl
  obtain ⟨op, e0, _, _⟩ := DataW.trod_int Try.underlying22 a0
  obtain ⟨nn, e1, _, _⟩ := DataW.trod_int Try.underlying3 a1
  obtain ⟨ar, e2, _, _⟩ := DataW.trod_int Try.underlying3 a2
  obtain ⟨v3, rs, e3, h3⟩ := ints_of_trod a3 (fits_each hfs (j := 3) rfl rfl)
  obtain ⟨v4, ws, e4, h4⟩ := ints_of_trod a4 (fits_each hfs (j := 4) rfl rfl)
  simp only [List.cons.injEq, and_true] at e0 e1 e2 e3 e4
  subst e0 e1 e2 e3 e4
  exact ⟨⟨op, nn, ar, rs, ws⟩, _, _, rfl, h3, h4⟩
end
end Go.Proofs.Ytobniolmielikaa

/- How a script reads, said in this seat's words; no condition. -/
namespace Go.Proofs.Ytobniolmielikaa
open Go.RowKit Go.ChangeShapes Go.WideShapes Go.ChangeAt Go.Deep

section
variable {H : Type} {enc : TypeId × Value → H} {w : World} {fuel : Nat} {cs : List Value} {x : DataW H × List MemPlace}

theorem cells60 : Try.prog.cellsOf 60 = 1 := by kernel_rfl
theorem cells39 : Try.prog.cellsOf 39 = 1 := by kernel_rfl
theorem cells97 : Try.prog.cellsOf 97 = 6 := by kernel_rfl
theorem cells85 : Try.prog.cellsOf 85 = 9 := by kernel_rfl
theorem cells41 : Try.prog.cellsOf 41 = 3 := by kernel_rfl
theorem bytes97 : Try.prog.bytesOf 97 = 80 := by kernel_rfl
theorem bytes85 : Try.prog.bytesOf 85 = 136 := by kernel_rfl

theorem spot_none {w : World} {a : Addr} {v : Value} (h : w.cell? (a.add 0) = some v) : a.spot = none := by
  have : a.add 0 = a := by unfold Addr.add; simp
  rw [this] at h
  unfold World.cell? at h
  split at h
  · split at h
    · cases h
    · rename_i hs
      simpa using hs
  · cases h
theorem weights_mem_all {P : Program} {e : TypeId} : ∀ {ds : List (DataW H)} {d : DataW H}, d ∈ ds → ∀ n ∈ d.weights P e, n ∈ DataW.weightsAll P e ds
  | d0 :: ds, d, hd, n, hn => by
    simp only [DataW.weightsAll, List.mem_append]
    rcases List.mem_cons.1 hd with rfl | hd
    · exact .inl hn
    · exact .inr (weights_mem_all hd n hn)
theorem list2 {α : Type} : ∀ {l : List α}, l.length = 2 → ∃ a b, l = [a, b]
  | [a, b], _ => ⟨a, b, rfl⟩
theorem list3 {α : Type} : ∀ {l : List α}, l.length = 3 → ∃ a b c, l = [a, b, c]
  | [a, b, c], _ => ⟨a, b, c, rfl⟩
theorem list9 {α : Type} : ∀ {l : List α}, l.length = 9 → ∃ a b c d e f g h i, l = [a, b, c, d, e, f, g, h, i]
  | [a, b, c, d, e, f, g, h, i], _ => ⟨a, b, c, d, e, f, g, h, i, rfl⟩
theorem ob_below {o : Ob} {v : Value} (h : ObAt (fun _ => True) w v o) : ObAt (· < w.heap.size) w v o := h.mono fun _ hb _ => hb

theorem it_of_trod (h : DataW.trod enc Try.prog w 0 (fun _ => true) true fuel 97 cs = some x) (hf : Fits Try.prog 97 x.1) : ∃ y : It, cs = y.cells ∧ ObAt (· < w.heap.size) w y.val y.o := by
  obtain ⟨ys, n, rfl, rfl, hlen, hyl, hat⟩ := DataW.trod_struct Try.underlying97 h
  rw [cells97] at hlen
  obtain ⟨c0, c1, c2, c3, c4, c5, rfl⟩ := list6 hlen
  have hfs : ∀ n ∈ DataW.weightsEach Try.prog [3, 25] (ys.map (·.1)), n ≤ reachBytes := by
    intro n hn
    refine hf n ?_
    rw [DataW.weights, Try.underlying97]
    exact hn
  have a0 : DataW.trod enc Try.prog w 0 (fun _ => true) true n 3 [c0] = ys[0]? := by
    have : DataW.trod enc Try.prog w 0 (fun _ => true) true n 3 (([c0, c1, c2, c3, c4, c5].drop 0).take (Try.prog.cellsOf 3)) = ys[0]? := hat 0 _ rfl
    rw [cells3] at this
    exact this
  have a1 : DataW.trod enc Try.prog w 0 (fun _ => true) true n 25 [c1, c2, c3, c4, c5] = ys[1]? := by
    have : DataW.trod enc Try.prog w 0 (fun _ => true) true n 25 (([c0, c1, c2, c3, c4, c5].drop 1).take (Try.prog.cellsOf 25)) = ys[1]? := hat 1 _ rfl
    rw [cells25] at this
    exact this
  obtain ⟨y0, y1, rfl⟩ := list2 (l := ys) hyl
  obtain ⟨ad, e0, _, _⟩ := DataW.trod_int Try.underlying3 a0
  obtain ⟨o, ho⟩ := ob_of_trod a1 (fits_each hfs (j := 1) rfl rfl)
  obtain ⟨rv, wv, ev, h1, h2⟩ := ho
  obtain ⟨ra, rc, rfl⟩ := h1.shape
  obtain ⟨wa, wc, rfl⟩ := h2.shape
  simp only [List.cons.injEq, and_true] at e0
  subst e0
  have e5 : [c1, c2, c3, c4, c5] = [.int .i64 o.op, .int .i64 o.n, .int .i64 o.ar, .slice ra o.refs.length rc, .slice wa o.words.length wc] := by simpa using ev
  simp only [List.cons.injEq, and_true] at e5
  obtain ⟨rfl, rfl, rfl, rfl, rfl⟩ := e5
  exact ⟨⟨ad, o, ra, rc, wa, wc⟩, rfl, ob_below ⟨_, _, rfl, h1, h2⟩⟩

theorem its_of_trod (h : DataW.trod enc Try.prog w 0 (fun _ => true) true fuel 60 cs = some x) (hf : Fits Try.prog 60 x.1) : ∃ v l, cs = [v] ∧ Raw (· < w.heap.size) w v l ∧ ∀ y ∈ l, ObAt (· < w.heap.size) w y.val y.o := by
  rcases open_slice Try.underlying60 h with ⟨rfl, rfl⟩ | ⟨a, len, cap, m, n, D, Pl, rfl, _, hl, hm, hmm, rfl, hi⟩
  · exact ⟨_, [], rfl, ⟨none, 0, rfl, by simp, by simp [maxLen], fun _ => rfl, fun h => by simp at h, by simp⟩, fun y hy => by cases hy⟩
  · simp at hmm
    subst hmm
    have hb : m * 80 ≤ reachBytes := by
      have := hf (len * 80 + (m - len) * 80) (by
        simp only [DataW.weights, Try.underlying60, bytes97, Nat.add_mul, List.length_map, List.length_range]
        exact List.mem_cons_self)
      omega
    have hr : reachBytes ≤ 140737488355328 := by decide
    have hfit : ∀ i, i < len → Fits Try.prog 97 (D i) := by
      intro i hil k hk
      refine hf k ?_
      rw [DataW.weights, Try.underlying60]
      exact List.mem_cons_of_mem _ (List.mem_append_left _ (weights_mem_all (List.mem_map_of_mem (List.mem_range.2 hil)) k hk))
    rw [cells97] at hi
    have each : ∀ i : Nat, ∃ y : It, i < len → (∀ j, j < 6 → w.cell? (a.add (i * 6 + j)) = y.cells[j]?) ∧ ObAt (· < w.heap.size) w y.val y.o := by
      intro i
      by_cases him : i < len
      · obtain ⟨cs', hc, ht⟩ := hi i (by omega)
        obtain ⟨y, rfl, hy⟩ := it_of_trod ht (hfit i him)
        obtain ⟨_, _, hat⟩ := World.cells?_some hc
        refine ⟨y, fun _ => ⟨fun j hj => ?_, hy⟩⟩
        have := hat j hj
        rw [Go.Deep.add_add] at this
        exact this
      · exact ⟨⟨0, ob0, none, 0, none, 0⟩, fun h => absurd h him⟩
    obtain ⟨E, hE⟩ := Classical.axiomOfChoice each
    have hlen : ((List.range len).map E).length = len := by simp
    refine ⟨_, (List.range len).map E, rfl, ⟨some a, m, by rw [hlen], by rw [hlen]; exact hl, hm, (fun h => by cases h), fun h0 => ?_, by rw [hlen]; omega⟩, ?_⟩
    · rw [hlen] at h0
      have hc0 : w.cell? (a.add 0) = some (.int .i64 (E 0).a) := (hE 0 h0).1 0 (by omega)
      have hs := spot_none hc0
      have hlt := World.block_lt_of_cell? _ _ hc0
      rw [addr_block] at hlt
      obtain ⟨b, o, s⟩ := a
      simp at hs
      subst hs
      refine ⟨b, o, rfl, hlt, hlt, fun k y hk => ?_⟩
      simp only [List.getElem?_map, Option.map_eq_some_iff] at hk
      obtain ⟨j, hj, rfl⟩ := hk
      obtain ⟨hj1, hj2⟩ := List.getElem?_eq_some_iff.1 hj
      simp at hj1 hj2
      subst hj2
      have hh := (hE k (by omega)).1
      simp only [Addr.add_lit, ← Nat.add_assoc] at hh
      exact ⟨hh 0 (by omega), hh 1 (by omega), hh 2 (by omega), hh 3 (by omega), hh 4 (by omega), hh 5 (by omega)⟩
    · intro y hy
      simp only [List.mem_map, List.mem_range] at hy
      obtain ⟨i, hi', rfl⟩ := hy
      exact (hE i hi').2

theorem opn_of_trod (h : DataW.trod enc Try.prog w 0 (fun _ => true) true fuel 85 cs = some x) (hf : Fits Try.prog 85 x.1) : ∃ p : Opn, cs = p.arr.toList ∧ OpOk w.heap.size w p := by
  obtain ⟨ys, n, rfl, rfl, hlen, hyl, hat⟩ := DataW.trod_struct Try.underlying85 h
  rw [cells85] at hlen
  obtain ⟨c0, c1, c2, c3, c4, c5, c6, c7, c8, rfl⟩ := list9 hlen
  have hfs : ∀ n ∈ DataW.weightsEach Try.prog [3, 3, 25, 60, 60] (ys.map (·.1)), n ≤ reachBytes := by
    intro n hn
    refine hf n ?_
    rw [DataW.weights, Try.underlying85]
    exact hn
  have a0 : DataW.trod enc Try.prog w 0 (fun _ => true) true n 3 [c0] = ys[0]? := by
    have : DataW.trod enc Try.prog w 0 (fun _ => true) true n 3 (([c0, c1, c2, c3, c4, c5, c6, c7, c8].drop 0).take (Try.prog.cellsOf 3)) = ys[0]? := hat 0 _ rfl
    rw [cells3] at this
    exact this
  have a1 : DataW.trod enc Try.prog w 0 (fun _ => true) true n 3 [c1] = ys[1]? := by
    have : DataW.trod enc Try.prog w 0 (fun _ => true) true n 3 (([c0, c1, c2, c3, c4, c5, c6, c7, c8].drop 1).take (Try.prog.cellsOf 3)) = ys[1]? := hat 1 _ rfl
    rw [cells3] at this
    exact this
  have a2 : DataW.trod enc Try.prog w 0 (fun _ => true) true n 25 [c2, c3, c4, c5, c6] = ys[2]? := by
    have : DataW.trod enc Try.prog w 0 (fun _ => true) true n 25 (([c0, c1, c2, c3, c4, c5, c6, c7, c8].drop 2).take (Try.prog.cellsOf 25)) = ys[2]? := hat 2 _ rfl
    rw [cells25] at this
    exact this
  have a3 : DataW.trod enc Try.prog w 0 (fun _ => true) true n 60 [c7] = ys[3]? := by
    have : DataW.trod enc Try.prog w 0 (fun _ => true) true n 60 (([c0, c1, c2, c3, c4, c5, c6, c7, c8].drop 7).take (Try.prog.cellsOf 60)) = ys[3]? := hat 3 _ rfl
    rw [cells60] at this
    exact this
  have a4 : DataW.trod enc Try.prog w 0 (fun _ => true) true n 60 [c8] = ys[4]? := by
    have : DataW.trod enc Try.prog w 0 (fun _ => true) true n 60 (([c0, c1, c2, c3, c4, c5, c6, c7, c8].drop 8).take (Try.prog.cellsOf 60)) = ys[4]? := hat 4 _ rfl
    rw [cells60] at this
    exact this
  obtain ⟨y0, y1, y2, y3, y4, rfl⟩ := list5 (l := ys) hyl
  obtain ⟨kd, e0, _, _⟩ := DataW.trod_int Try.underlying3 a0
  obtain ⟨ad, e1, _, _⟩ := DataW.trod_int Try.underlying3 a1
  obtain ⟨o, ho⟩ := ob_of_trod a2 (fits_each hfs (j := 2) rfl rfl)
  obtain ⟨v1, l1, e7, r1, i1⟩ := its_of_trod a3 (fits_each hfs (j := 3) rfl rfl)
  obtain ⟨v2, l2, e8, r2, i2⟩ := its_of_trod a4 (fits_each hfs (j := 4) rfl rfl)
  obtain ⟨rv, wv, ev, h1, h2⟩ := ho
  obtain ⟨ra, rc, rfl⟩ := h1.shape
  obtain ⟨wa, wc, rfl⟩ := h2.shape
  obtain ⟨na, nc, rfl⟩ := r1.shape
  obtain ⟨oa, oc, rfl⟩ := r2.shape
  simp only [List.cons.injEq, and_true] at e0 e1 e7 e8
  subst e0 e1 e7 e8
  have e5 : [c2, c3, c4, c5, c6] = [.int .i64 o.op, .int .i64 o.n, .int .i64 o.ar, .slice ra o.refs.length rc, .slice wa o.words.length wc] := by simpa using ev
  simp only [List.cons.injEq, and_true] at e5
  obtain ⟨rfl, rfl, rfl, rfl, rfl⟩ := e5
  refine ⟨⟨kd, ad, o, ra, rc, wa, wc, l1, na, nc, l2, oa, oc⟩, rfl, ⟨ob_below ⟨_, _, rfl, h1, h2⟩, r1, r2, fun y hy => ?_⟩⟩
  rcases List.mem_append.1 hy with hy | hy
  · exact i1 y hy
  · exact i2 y hy

theorem ops_of_trod (h : DataW.trod enc Try.prog w 0 (fun _ => true) true fuel 39 cs = some x) (hf : Fits Try.prog 39 x.1) : ∃ v l, cs = [v] ∧ Ops w.heap.size w v l := by
  rcases open_slice Try.underlying39 h with ⟨rfl, rfl⟩ | ⟨a, len, cap, m, n, D, Pl, rfl, _, hl, hm, hmm, rfl, hi⟩
  · exact ⟨_, [], rfl, ⟨none, 0, rfl, by simp, by simp [maxLen], fun h => by simp at h, (fun p hp => by cases hp), by simp⟩⟩
  · simp at hmm
    subst hmm
    have hb : m * 136 ≤ reachBytes := by
      have := hf (len * 136 + (m - len) * 136) (by
        simp only [DataW.weights, Try.underlying39, bytes85, Nat.add_mul, List.length_map, List.length_range]
        exact List.mem_cons_self)
      omega
    have hr : reachBytes ≤ 140737488355328 := by decide
    have hfit : ∀ i, i < len → Fits Try.prog 85 (D i) := by
      intro i hil k hk
      refine hf k ?_
      rw [DataW.weights, Try.underlying39]
      exact List.mem_cons_of_mem _ (List.mem_append_left _ (weights_mem_all (List.mem_map_of_mem (List.mem_range.2 hil)) k hk))
    rw [cells85] at hi
    have each : ∀ i : Nat, ∃ p : Opn, i < len → (∀ j, j < 9 → w.cell? (a.add (i * 9 + j)) = p.arr.toList[j]?) ∧ OpOk w.heap.size w p := by
      intro i
      by_cases him : i < len
      · obtain ⟨cs', hc, ht⟩ := hi i (by omega)
        obtain ⟨p, rfl, hp⟩ := opn_of_trod ht (hfit i him)
        obtain ⟨_, _, hat⟩ := World.cells?_some hc
        refine ⟨p, fun _ => ⟨fun j hj => ?_, hp⟩⟩
        have := hat j hj
        rw [Go.Deep.add_add] at this
        exact this
      · exact ⟨⟨0, 0, ob0, none, 0, none, 0, [], none, 0, [], none, 0⟩, fun h => absurd h him⟩
    obtain ⟨E, hE⟩ := Classical.axiomOfChoice each
    have hlen : ((List.range len).map E).length = len := by simp
    refine ⟨_, (List.range len).map E, rfl, ⟨some a, m, by rw [hlen], by rw [hlen]; exact hl, hm, fun h0 => ?_, ?_, by rw [hlen]; omega⟩⟩
    · rw [hlen] at h0
      have hc0 : w.cell? (a.add 0) = some (.int .i64 (E 0).kind) := (hE 0 h0).1 0 (by omega)
      have hs := spot_none hc0
      have hlt := World.block_lt_of_cell? _ _ hc0
      rw [addr_block] at hlt
      obtain ⟨b, o, s⟩ := a
      simp at hs
      subst hs
      refine ⟨b, o, rfl, hlt, fun k p hk => ?_⟩
      simp only [List.getElem?_map, Option.map_eq_some_iff] at hk
      obtain ⟨j, hj, rfl⟩ := hk
      obtain ⟨hj1, hj2⟩ := List.getElem?_eq_some_iff.1 hj
      simp at hj1 hj2
      subst hj2
      have hh := (hE k (by omega)).1
      simp only [Addr.add_lit, ← Nat.add_assoc] at hh
      exact ⟨hh 0 (by omega), hh 1 (by omega), hh 2 (by omega), hh 3 (by omega), hh 4 (by omega), hh 5 (by omega), hh 6 (by omega), hh 7 (by omega), hh 8 (by omega)⟩
    · intro p hp
      simp only [List.mem_map, List.mem_range] at hp
      obtain ⟨i, hi', rfl⟩ := hp
      exact (hE i hi').2

/-- A script. -/
theorem script_of_trod (h : DataW.trod enc Try.prog w 0 (fun _ => true) true fuel 41 cs = some x) (hf : Fits Try.prog 41 x.1) : ∃ (n m : Int) (v : Value) (l : List Opn), cs = [.int .i64 n, .int .i64 m, v] ∧ Ops w.heap.size w v l := by
  obtain ⟨ys, n, rfl, rfl, hlen, hyl, hat⟩ := DataW.trod_struct Try.underlying41 h
  rw [cells41] at hlen
  obtain ⟨c0, c1, c2, rfl⟩ := list3 hlen
  have hfs : ∀ n ∈ DataW.weightsEach Try.prog [3, 3, 39] (ys.map (·.1)), n ≤ reachBytes := by
    intro n hn
    refine hf n ?_
    rw [DataW.weights, Try.underlying41]
    exact hn
  have a0 : DataW.trod enc Try.prog w 0 (fun _ => true) true n 3 [c0] = ys[0]? := by
    have : DataW.trod enc Try.prog w 0 (fun _ => true) true n 3 (([c0, c1, c2].drop 0).take (Try.prog.cellsOf 3)) = ys[0]? := hat 0 _ rfl
    rw [cells3] at this
    exact this
  have a1 : DataW.trod enc Try.prog w 0 (fun _ => true) true n 3 [c1] = ys[1]? := by
    have : DataW.trod enc Try.prog w 0 (fun _ => true) true n 3 (([c0, c1, c2].drop 1).take (Try.prog.cellsOf 3)) = ys[1]? := hat 1 _ rfl
    rw [cells3] at this
    exact this
  have a2 : DataW.trod enc Try.prog w 0 (fun _ => true) true n 39 [c2] = ys[2]? := by
    have : DataW.trod enc Try.prog w 0 (fun _ => true) true n 39 (([c0, c1, c2].drop 2).take (Try.prog.cellsOf 39)) = ys[2]? := hat 2 _ rfl
    rw [cells39] at this
    exact this
  obtain ⟨y0, y1, y2, rfl⟩ := list3 (l := ys) hyl
  obtain ⟨n1, e0, _, _⟩ := DataW.trod_int Try.underlying3 a0
  obtain ⟨n2, e1, _, _⟩ := DataW.trod_int Try.underlying3 a1
  obtain ⟨v, l, e2, hl⟩ := ops_of_trod a2 (fits_each hfs (j := 2) rfl rfl)
  simp only [List.cons.injEq, and_true] at e0 e1 e2
  subst e0 e1 e2
  exact ⟨n1, n2, _, l, rfl, hl⟩
end
end Go.Proofs.Ytobniolmielikaa

/- The frame that every law of this seat shares: what a walk that answers true and turns nothing old gives the row; no condition. -/
namespace Go.Proofs.Ytobniolmielikaa
open Go.ChangeShapes Go.WideShapes Go.ChangeAt Go.RowKit

theorem own : ownKnob Try.prog.godebug = none := by kernel_rfl
theorem laidOut : laidOutB Try.prog = true := by kernel_rfl

/-- Every argument reads as it did where nothing old has turned. -/
theorem trodAll_below {H : Type} {enc : TypeId × Value → H} {P : Program} (hl : laidOutB P = true) {W W' : World} (hb : Below W.heap.size W W') :
    ∀ (ts : List TypeId) (vs : List Value) (ds : List (DataW H)) (ps : List MemPlace), ts.all (fun t => P.readableRec t && decide (t < P.types.size)) = true →
      DataW.TrodAll enc P W 0 (fun _ => true) true ts vs ds ps → DataW.TrodAll enc P W' 0 (fun b => decide (b < W.heap.size)) true ts vs ds ps
  | [], [], [], _, _, h => h
  | t :: ts, v :: vs, d :: ds, ps, hr, h => by
    obtain ⟨p, q, h1, h2, h3⟩ := h
    simp only [List.all_cons, Bool.and_eq_true, decide_eq_true_eq] at hr
    refine ⟨p, q, ?_, trodAll_below hl hb ts vs ds q hr.2 h2, h3⟩
    exact Below.trod hl hr.1.1 hr.1.2 h1 hb (by obtain ⟨m, hm⟩ := h1; exact DataW.trod_lt m _ _ _ hm)
  | [], [], _ :: _, _, _, h => h.elim
  | [], _ :: _, [], _, _, h => h.elim
  | [], _ :: _, _ :: _, _, _, h => h.elim
  | _ :: _, [], [], _, _, h => h.elim
  | _ :: _, [], _ :: _, _, _, h => h.elim
  | _ :: _, _ :: _, [], _, _, h => h.elim

theorem trodAll_length {H : Type} {enc : TypeId × Value → H} {P : Program} {W : World} {b : Nat} {sp : Nat → Bool} {held : Bool} :
    ∀ (ts : List TypeId) (vs : List Value) (ds : List (DataW H)) (ps : List MemPlace), DataW.TrodAll enc P W b sp held ts vs ds ps → ds.length = ts.length
  | [], [], [], _, _ => rfl
  | t :: ts, v :: vs, d :: ds, ps, h => by
    obtain ⟨p, q, h1, h2, h3⟩ := h
    simp [trodAll_length ts vs ds q h2]
  | [], [], _ :: _, _, h => h.elim
  | [], _ :: _, [], _, h => h.elim
  | [], _ :: _, _ :: _, _, h => h.elim
  | _ :: _, [], [], _, h => h.elim
  | _ :: _, [], _ :: _, _, h => h.elim
  | _ :: _, _ :: _, [], _, h => h.elim

set_option maxRecDepth 100000 in
/-- A law: from its walk to what its row asks of it. -/
theorem law_lifted {f : FuncId} {fn : Func} {s : ChangeSpec} {rt : TypeId} (os : Os) (started : os.Started) {H : Type} (enc : TypeId × Value → H)
    (hni : Try.checked.prog.inits.idxOf? f = none) (hfn : Try.checked.prog.funcs[f]? = some fn)
    (hrt : fn.resultTypes = #[rt]) (hbool : Try.prog.underlying rt = some .bool)
    (hpar : fn.params.toList.all (fun t => Try.prog.readableRec t && decide (t < Try.prog.types.size)) = true)
    (hvars : s.vars = []) (hspec : ∀ ds : List (DataW H), ds.length = fn.params.toList.length → s.fn H (ds ++ []) = { results := [.lit (.bool true)], args := ds })
    (witness : ∃ (w : World) (tape : Tape) (i : Input), w.os = os ∧ (w.forCall tape i).Shaped Try.checked.prog ∧ i.vars = [] ∧ Input.okWide Try.checked.prog (w.forCall tape i) .any w.heap.size f i ∧
      s.pre6 enc Try.checked.prog fn [] false (w.forCall tape i).memory i.args ∧ ({ modest := false } : Assume).holds Try.checked.prog (lone (Frame.enter Try.checked.prog f i.args .normal) [] (w.forCall tape i)))
    (walk : ∀ (W : World) (base : Nat) (args : Array Value) (ds : List (DataW H)) (p : List MemPlace),
      (∀ (j : Nat) t v, fn.params[j]? = some t → args[j]? = some v → Value.okWide Try.prog W .any base t v) →
      DataW.TrodAll enc Try.prog W 0 (fun _ => true) true fn.params.toList args.toList ds p →
      (DataW.weightsEach Try.prog fn.params.toList ds).all (· ≤ reachBytes) = true →
      Calls Try.prog f args W fun e W' => e = .returned (.bool true) ∧ Below W.heap.size W W') :
    ReturnsInHanded {} Try.checked os f .any (s.pre6 enc Try.prog fn [] false) (s.post enc Try.prog fn false true false false) := by
  refine returnsInHanded_of_change_sized (C := Try.checked) own started hni hfn witness ?_
  intro W base args ds gs before hval0 hW hcnd hsz0 _
  have hval : ∀ (j : Nat) t v, fn.params[j]? = some t → args[j]? = some v → Value.okWide Try.prog W .any base t v := hval0
  have hW' := hW
  obtain ⟨p, q, hA0, hV, rfl, hfz, hnd⟩ := hW
  have hA : DataW.TrodAll enc Try.prog W 0 (fun _ => true) true fn.params.toList args.toList ds p := hA0
  rw [hvars] at hV
  obtain ⟨rfl, rfl⟩ := trodVars_none hV
  have hvt : s.plain.varTypes Try.prog = [] := by
    have h0 : s.plain.vars = [] := hvars
    simp [DataSpec.varTypes, h0]
  have hsz : (DataW.weightsEach Try.prog fn.params.toList ds).all (· ≤ reachBytes) = true := by
    have h1 : (DataW.weightsEach Try.prog (fn.params.toList ++ s.plain.varTypes Try.prog) (ds ++ [])).all (· ≤ reachBytes) = true := hsz0
    rw [hvt, List.append_nil, List.append_nil] at h1
    exact h1
  refine (walk W base args ds p hval hA hsz).mono fun e W' ⟨he, bel⟩ => ?_
  subst he
  have hlen := trodAll_length _ _ _ _ hA
  have hsp := hspec ds hlen
  refine ⟨_, rfl, ds, [], p ++ [], [], p, [], hW', ?_, ?_, ?_, bel.frame _, fun h => by cases h⟩
  · rw [hsp, hrt]
    exact trodAll_mk1 (shut_bool hbool _)
  · rw [hsp]
    exact trodAll_below laidOut bel _ _ _ _ hpar hA
  · rw [hsp, hvars]
    exact rfl
end Go.Proofs.Ytobniolmielikaa

