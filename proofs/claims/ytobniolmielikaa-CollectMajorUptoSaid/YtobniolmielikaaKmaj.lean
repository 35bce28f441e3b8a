/- The statement CollectMajor, where what it reads is of bulk at most 1048576: for every heap and roots the call answers true and turns nothing; no other condition. -/
import Derived.Test.YtobniolmielikaaZas
import Derived.Test.YtobniolmielikaaZat
import Derived.Lib.SmallJoins
/- The walk of the law CollectMajor; no condition. -/
namespace Go.Proofs.Ytobniolmielikaa
open Go.RowKit

set_option maxRecDepth 100000 in
set_option maxHeartbeats 8000000 in
theorem collectMajor_law (w : World) (n o : Int) (v1 v2 rv : Value) (l1 l2 : List It) (roots : List Int) (hi : HeapIn w v1 v2 l1 l2) (hr : Ints (· < w.heap.size) w rv roots) :
    Calls Try.prog 10 #[.agg #[.int .i64 n, .int .i64 o, v1, v2], rv] w fun e w' => e = .returned (.bool true) ∧ Below w.heap.size w w' := by
  obtain ⟨A1, c1, rfl⟩ := hi.r1.shape
  obtain ⟨A2, c2, rfl⟩ := hi.r2.shape
  obtain ⟨A, c, rfl⟩ := hr.shape
  have HI := Lib.hid hi
  have HR := Lib.hid hr
  clear hi hr
  obtain ⟨X0, hX0⟩ : ∃ X : Obj, Obj.cells #[.int .i64 n, .int .i64 o, .slice A1 l1.length c1, .slice A2 l2.length c2] 62 = X := ⟨_, rfl⟩
  have B0 := Lib.hid ((Below.refl w.heap.size w).alloc (Nat.le_refl _) X0)
  have X62 := Lib.hid (show (w.alloc X0).heap[w.heap.size]? = some (.cells #[.int .i64 n, .int .i64 o, .slice A1 l1.length c1, .slice A2 l2.length c2] 62) by rw [hX0]; exact new0 _ _)
  have zx : (w.alloc X0).heap.size = w.heap.size + 1 := by simp
  go_enter Try.func10, Try.ntmps10
  go_upto_region 1 with (fail)
  clear hX0
  generalize w.alloc X0 = wx at *
  have cx := box62 X62.out
  go_wp2_with fail
  refine (made34_any (· < w.heap.size) wx n o _ _ l1 l2 (HI.out.r1.fresh B0.out) (HI.out.r2.fresh B0.out) (fun x hx => (HI.out.o1 x hx).fresh B0.out) (fun x hx => (HI.out.o2 x hx).fresh B0.out) (fun k hk => by omega) HI.out.room).mono ?_
  intro e w1 hm
  unfold MadeEnd at hm
  obtain ⟨hb1, hc⟩ := hm
  have B1 := Lib.hid (below_then B0.out B0.out.size hb1)
  have Y62 := Lib.hid (rowB hb1 X62.out (heap_lt X62.out))
  have D1 := Lib.hid hb1
  have zz1 := hb1.size
  clear hb1 cx
  have cy := box62 Y62.out
  have HC := Lib.hid hc
  clear hc
  rcases HC.out with ⟨rfl, -⟩ | ⟨h, y, a, r, NV, AV, H, R, rfl, m⟩
  · clear HC
    go_wp2_with fail
    refine (small35_any (· < w.heap.size) (· < w.heap.size) w1 n o _ _ _ l1 l2 roots (HI.out.r1.fresh B1.out) (HI.out.r2.fresh B1.out) (HR.out.fresh B1.out)).mono ?_
    rintro e w2 ⟨hb2, b, rfl, -⟩
    have B2 := Lib.hid (below_then B1.out B1.out.size hb2)
    clear hb2 cy
    cases b <;>
    · go_wp2_with fail
      refine (awake_any _).mono ?_
      rintro e w3 ⟨rfl, hb3⟩
      have B3 := Lib.hid (below_then B2.out B2.out.size hb3)
      clear hb3
      go_wp2_with fail
      go_ret
      exact ⟨rfl, B3.out⟩
  have M := Lib.hid m
  clear HC m
  go_wp2_with fail
  refine (small35_any (· < w.heap.size) (· < w.heap.size) w1 n o _ _ _ l1 l2 roots (HI.out.r1.fresh B1.out) (HI.out.r2.fresh B1.out) (HR.out.fresh B1.out)).mono ?_
  rintro e w2 ⟨hb2, b, rfl, hsm⟩
  have B2 := Lib.hid (below_then B1.out B1.out.size hb2)
  have D2 := Lib.hid hb2
  have SM := Lib.hid hsm
  clear hb2 cy hsm
  cases b with
  | false =>
    go_wp2_with fail
    refine (awake_any _).mono ?_
    rintro e w3 ⟨rfl, hb3⟩
    have B3 := Lib.hid (below_then B2.out B2.out.size hb3)
    clear hb3
    go_wp2_with fail
    go_ret
    exact ⟨rfl, B3.out⟩
  | true =>
  have P2 := Lib.hid ((M.out.pair (SM.out rfl)).fresh D2.out)
  have RL := Lib.hid (SM.out rfl).c
  have zz2 := D2.out.size
  have zb2 := B2.out.size
  have HR2 := Lib.hid (HR.out.fresh B2.out)
  clear SM M HI X62 Y62 HR B0 B1 D1 D2
  go_wp2_with fail
  refine (pair_major _ P2.out HR2.out (fun k hk => by omega) RL.out).mono ?_
  rintro e w3 ⟨ht3, ⟨H', t3, g3⟩, v3, rfl, i3⟩
  obtain ⟨A3, c3, rfl⟩ := i3.shape
  have T3 := Lib.hid t3
  have G3 := Lib.hid g3
  have I3 := Lib.hid i3
  have B3 := Lib.hid (B2.out.trans ((P2.out.two.pb ht3 (by omega)).mono (by omega)))
  have HR3 := Lib.hid (HR2.out.turn ht3 (fun k hk e => by have := P2.out.lowH k e; omega))
  have zz3 := ht3.size
  clear ht3 t3 g3 i3
  unfold gret
  obtain ⟨w4, hws, hb4⟩ : ∃ W, W = w3.alloc (.cells #[.int .i64 0, .int .i64 0, .int .i64 0, .int .i64 0, .int .i64 (gp (H.major roots) 0), .int .i64 (gp (H.major roots) 1), .int .i64 (gp (H.major roots) (H.major roots).2.length), .int .i64 (gp (H.major roots) (H.major roots).2.length)] 75) ∧ Below w3.heap.size w3 W := ⟨_, rfl, (Below.refl _ _).alloc (Nat.le_refl _) _⟩
  have hbz : w4.heap[w3.heap.size]? = some (.cells #[.int .i64 0, .int .i64 0, .int .i64 0, .int .i64 0, .int .i64 (gp (H.major roots) 0), .int .i64 (gp (H.major roots) 1), .int .i64 (gp (H.major roots) (H.major roots).2.length), .int .i64 (gp (H.major roots) (H.major roots).2.length)] 75) := by rw [hws]; exact new0 _ _
  go_upto_region 5 with (fail)
  rw [← hws]
  clear hws
  have S4 := Lib.hid hbz
  have T4 := Lib.hid (T3.out.fresh hb4)
  have I4 := Lib.hid (I3.out.fresh hb4)
  have B4 := Lib.hid (B3.out.trans (hb4.mono (by have := B3.out.size; omega)))
  have HR4 := Lib.hid (HR3.out.fresh hb4)
  have zz4 := hb4.size
  clear hbz hb4
  go_wp2_with fail
  refine (half_major _ T4.out P2.out.sim P2.out.wel P2.out.rwel P2.out.bnd G3.out (by omega) HR4.out RL.out).mono ?_
  rintro e w5 ⟨ht5, ⟨NV', AV', R', p5⟩, v5, rfl, i5⟩
  obtain ⟨A5, c5, rfl⟩ := i5.shape
  have P5 := Lib.hid p5
  have B5 := Lib.hid (B4.out.trans ((T4.out.rb ht5 (by omega)).mono (by omega)))
  have S5 := Lib.hid (T4.out.keepR ht5 S4.out (by decide) (by decide))
  have I35 := Lib.hid (I4.out.turn ht5 (fun k hk e => by have := P2.out.lowR k e; omega))
  have zz5 := ht5.size
  have I5 := Lib.hid i5
  clear ht5 p5 i5
  unfold gret
  obtain ⟨w6, hws, hb6⟩ : ∃ W, W = w5.alloc (.cells #[.int .i64 0, .int .i64 0, .int .i64 0, .int .i64 0, .int .i64 (gp (H.major roots) 0), .int .i64 (gp (H.major roots) 1), .int .i64 (gp (H.major roots) (H.major roots).2.length), .int .i64 (gp (H.major roots) (H.major roots).2.length)] 75) ∧ Below w5.heap.size w5 W := ⟨_, rfl, (Below.refl _ _).alloc (Nat.le_refl _) _⟩
  have hbz : w6.heap[w5.heap.size]? = some (.cells #[.int .i64 0, .int .i64 0, .int .i64 0, .int .i64 0, .int .i64 (gp (H.major roots) 0), .int .i64 (gp (H.major roots) 1), .int .i64 (gp (H.major roots) (H.major roots).2.length), .int .i64 (gp (H.major roots) (H.major roots).2.length)] 75) := by rw [hws]; exact new0 _ _
  go_upto_region 6 with (fail)
  rw [← hws]
  clear hws
  have S6 := Lib.hid hbz
  have S56 := Lib.hid (rowB hb6 S5.out (heap_lt S5.out))
  have P6 := Lib.hid (P5.out.fresh hb6)
  have B6 := Lib.hid (B5.out.trans (hb6.mono (by have := B5.out.size; omega)))
  have I6 := Lib.hid (I35.out.fresh hb6)
  have J6 := Lib.hid (I5.out.fresh hb6)
  have zz6 := hb6.size
  clear hbz hb6
  go_wp2_with fail
  refine (sameInts_any _ _ w6 _ _ _ I6.out J6.out).mono ?_
  rintro e w7 ⟨rfl, n7, rfl⟩
  have D7 := Lib.hid (below_drewN (Below.refl w6.heap.size w6) n7)
  generalize w6.drewN n7 = w7 at *
  have P7 := Lib.hid (P6.out.fresh D7.out)
  have B7 := Lib.hid (B6.out.trans (D7.out.mono (by have := B6.out.size; omega)))
  have cz := cellsH (rowB D7.out S6.out (heap_lt S6.out))
  have cx := cellsH (rowB D7.out S56.out (heap_lt S56.out))
  go_wp2_with fail
  refine (like_any _ w7 h y a r NV' AV' H' R' P7.out.two P7.out.alike).mono ?_
  rintro e w8 ⟨rfl, hb8⟩
  have B8 := Lib.hid (B7.out.trans (hb8.mono (by have := B7.out.size; omega)))
  clear cz cx hb8
  go_wp2_with fail
  refine (awake_any _).mono ?_
  rintro e w9 ⟨rfl, hb9⟩
  have B9 := Lib.hid (B8.out.trans (hb9.mono (by have := B8.out.size; omega)))
  clear hb9
  go_wp2_with fail
  go_ret
  exact ⟨rfl, B9.out⟩
end Go.Proofs.Ytobniolmielikaa

/- The statement CollectMajor, where what it reads is of bulk at most 1048576: for every heap and roots the call answers true and turns nothing; no other condition. -/
namespace Go.Proofs.Ytobniolmielikaa
open Go.ChangeShapes Go.WideShapes Go.ChangeAt Go.RowKit Go.Joins

set_option maxRecDepth 100000 in
theorem collectMajor_lifted (os : Os) (started : os.Started) (H : Type) (enc : TypeId × Value → H) (F : Stop.Interp) :
    ReturnsInHanded {} Try.checked os 10 .any ((Rows.OpenSpec.upto Rows.collectMajorSpec).pre6 enc Try.prog Try.f10 Rows.collectMajorUptoRow.domain false) (((Rows.OpenSpec.upto Rows.collectMajorSpec).at F).post enc Try.prog Try.f10 false true false false) :=
  law_upto (s := Rows.collectMajorSpec) os started enc F (by kernel_rfl) Try.func10 rfl Try.underlying4 (by kernel_rfl) rfl
    (fun ds h => by match ds, h with | [_, _], _ => rfl)
    (OpenSpec.witness (enc := enc) (C := Try.checked) (s := Rows.OpenSpec.upto Rows.collectMajorSpec) (k := Rows.uptoSmall) rfl false ⟨#[], #[.agg #[.int .i64 0, .int .i64 0, .slice none 0 0, .slice none 0 0], .slice none 0 0], []⟩ 8 (by kernel_rfl) (by kernel_rfl) (by kernel_rfl)
      (x := ([.agg [.agg [.lit (.int .i64 0), .lit (.int .i64 0)], .nil, .nil], .nil], [], [])) (by kernel_rfl) rfl (by kernel_rfl))
    (fun W base args ds p hval hA hsz hb => by
      rw [Try.params10] at hA hval hsz
      obtain ⟨v0, vs0, d0, ds0, p0, q0, hargs, rfl, rfl, h0, r0⟩ := trodAll_cons hA
      obtain ⟨v1, vs1, d1, ds1, p1, q1, rfl, rfl, rfl, h1, r1⟩ := trodAll_cons r0
      obtain ⟨rfl, rfl, rfl⟩ := trodAll_nil r1
      obtain rfl : args = #[v0, v1] := by cases args; simp_all
      obtain ⟨cs, rfl, hcs⟩ := okWide_struct Try.underlying62 (hval 0 62 v0 rfl rfl)
      obtain ⟨f0, hf0⟩ := h0
      obtain ⟨f1, hf1⟩ := h1
      have hw : ∀ n ∈ DataW.weightsEach Try.prog [62, 23] [d0, d1], n ≤ reachBytes := by simpa using hsz
      simp only [Rows.uptoBulkAll] at hb
      obtain ⟨n, o, v2, v3, l1, l2, e, hi⟩ := heap_of_trod hf0 (fits_each (j := 0) hw rfl rfl) (show Rows.uptoBulk d0 ≤ 1048576 by omega)
      obtain ⟨v, xs, e1, hr⟩ := roots_of_trod hf1 (fits_each (j := 1) hw rfl rfl)
      obtain rfl : cs = #[.int .i64 n, .int .i64 o, v2, v3] := by
        cases cs
        simpa [Value.cells] using e
      obtain ⟨A, len, c, rfl⟩ := okWide_slice Try.underlying23 (hval 1 23 v1 rfl rfl)
      obtain rfl : v = .slice A len c := by simpa [Value.cells] using e1.symm
      exact collectMajor_law W n o v2 v3 _ l1 l2 xs hi hr)

theorem collectMajor_holds : Rows.CollectMajorUptoSaid :=
  OpenClaim.holds_of_cond 10 Try.f10 rfl rfl rfl rfl rfl rfl rfl ⟨rfl, rfl, rfl, rfl, rfl⟩ rfl rfl rfl rfl rfl (by kernel_rfl) Try.func10 (by kernel_rfl)
    (of_decide_eq_true (by kernel_rfl)) (by unfold Func.isWrapper; rw [if_neg (of_decide_eq_false (by kernel_rfl))]; exact ⟨rfl, rfl⟩)
    (fun os started H enc _ F => collectMajor_lifted os started H enc F)

#print axioms collectMajor_holds
end Go.Proofs.Ytobniolmielikaa

