/- The chapter's example on the heap, and the first statement's walk; no condition. -/
import Derived.Test.YtobniolmielikaaHeap4
namespace Go.Proofs.Ytobniolmielikaa
open Go.RowKit

theorem ints_one (w : World) (x : Int) (hx : (Lit.int .i64 x).wf = true) : Ints (fun _ => True) (w.alloc (.cells #[.int .i64 x] 3)) (.slice (some ⟨w.heap.size, 0, none⟩) 1 1) [x] := by
  refine ⟨_, 1, rfl, by simp, by simp [maxLen], (fun h => by cases h), fun _ => ⟨_, rfl, trivial, by simp, ?_⟩, by simp, by simpa using hx⟩
  intro i y hy
  match i, hy with
  | 0, hy =>
    simp at hy
    subst hy
    exact cellsH (new0 w _) 0
theorem ints0 (ok : Nat → Prop) (w : World) : Ints ok w (.slice none 0 0) [] := Ints.nil _ _
theorem Turn.belowH {w0 w w' : World} {h y a : Nat} {B : Nat} (hb : Below B w0 w) (ht : Turn (HB h y a) w w') (hB : B ≤ w.heap.size) (h1 : B ≤ h) (h2 : B ≤ y) (h3 : B ≤ a) : Below B w0 w' :=
  hb.trans (ht.below hB (fun k hk => by rcases hk with rfl | rfl | rfl <;> assumption))

theorem room_val (w : World) (h y a : Nat) (H : HM) (hh : HeapAt w h y a H) (r : Int) (hr : wrap64 (H.nur - H.ly.length) = r) :
    Calls Try.prog 20 #[.pointer (some ⟨h, 0, none⟩)] w fun e w' => e = .returned (.int .i64 r) ∧ ∃ n, w' = w.drewN n := by
  subst hr
  exact room_any w h y a H hh

set_option maxHeartbeats 400000 in
theorem example_any (w : World) : Calls Try.prog 22 #[] w fun e w' => e = .returned (.bool true) ∧ Below w.heap.size w w' := by
  go_enter Try.func22, Try.ntmps22
  go_wp2_with fail
  refine (new_yes 2 5 _ (by decide)).mono ?_
  rintro e w1 ⟨h, y, a, rfl, hh, z1, z2, z3, hb1⟩
  have HH := Lib.hid hh
  have hb1s := hb1.size
  have B1 := Lib.hid hb1
  clear hh hb1
  go_wp2_with fail
  refine (alloc_any (fun _ => True) _ h y a _ _ ⟨1, 7, 0, [], []⟩ HH.out ⟨_, _, rfl, ints0 _ _, ints0 _ _⟩).mono ?_
  rintro e w2 ⟨rfl, hh2, ht2⟩
  have e2 : (⟨2, 5, 0, [], []⟩ : HM).alloc ⟨1, 7, 0, [], []⟩ = (0, 0, ⟨2, 5, 1, [(0, ⟨1, 7, 0, [], []⟩)], []⟩) := by kernel_rfl
  rw [e2] at hh2 ⊢
  have HH2 := Lib.hid hh2
  have z4 := ht2.size
  have B2 := Lib.hid (Turn.belowH B1.out ht2 hb1s z1 z2 z3)
  clear hh2 ht2 e2
  go_wp2_with fail
  refine (alloc_any (fun _ => True) _ h y a _ _ ⟨7, 0, 0, [0], []⟩ (HH2.out.fresh ((Below.refl _ _).alloc (Nat.le_refl _) _)) ⟨_, _, rfl, ints_one _ _ (by decide), ints0 _ _⟩).mono ?_
  rintro e w3 ⟨rfl, hh3, ht3⟩
  have e3 : (⟨2, 5, 1, [(0, ⟨1, 7, 0, [], []⟩)], []⟩ : HM).alloc ⟨7, 0, 0, [0], []⟩ = (1, 0, ⟨2, 5, 2, [(0, ⟨1, 7, 0, [], []⟩), (1, ⟨7, 0, 0, [0], []⟩)], []⟩) := by kernel_rfl
  rw [e3] at hh3 ⊢
  have HH3 := Lib.hid hh3
  have z5 := ht3.size
  have B3 := Lib.hid (Turn.belowH (B2.out.alloc (by omega) _) ht3 (by simp; omega) z1 z2 z3)
  clear hh3 ht3 e3
  go_wp2_with fail
  refine (alloc_any (fun _ => True) _ h y a _ _ ⟨1, 0, 0, [], []⟩ HH3.out ⟨_, _, rfl, ints0 _ _, ints0 _ _⟩).mono ?_
  rintro e w4 ⟨rfl, hh4, ht4⟩
  have e4 : (⟨2, 5, 2, [(0, ⟨1, 7, 0, [], []⟩), (1, ⟨7, 0, 0, [0], []⟩)], []⟩ : HM).alloc ⟨1, 0, 0, [], []⟩ = (0, 33, ⟨2, 5, 2, [(0, ⟨1, 7, 0, [], []⟩), (1, ⟨7, 0, 0, [0], []⟩)], []⟩) := by kernel_rfl
  rw [e4] at hh4 ⊢
  have HH4 := Lib.hid hh4
  have z6 := ht4.size
  have B4 := Lib.hid (Turn.belowH B3.out ht4 (by simp at z5; omega) z1 z2 z3)
  clear hh4 ht4 e4
  go_wp2_with fail
  refine (room_val _ h y a _ HH4.out 0 (by kernel_rfl)).mono ?_
  rintro e w5 ⟨rfl, n, rfl⟩
  go_wp2_with fail
  go_ret
  exact ⟨rfl, below_drewN B4.out n⟩

theorem alloc_v {o : Ob} (hv : vld o = true) (n e x : Int) (l m : List (Int × Ob)) (hf : ¬ n ≤ l.length) : (⟨n, e, x, l, m⟩ : HM).alloc o = (x, 0, ⟨n, e, wrap64 (x + 1), put l x o, m⟩) := by simp [HM.alloc, hv, hf]
theorem alloc_i {o : Ob} (hv : vld o = false) (H : HM) : H.alloc o = (0, 1, H) := by simp [HM.alloc, hv]
theorem set_i {o : Ob} (hv : vld o = false) (H : HM) (k : Int) : H.set k o = (1, H) := by simp [HM.set, hv]

set_option maxHeartbeats 1000000 in
theorem heapValid_law (ok : Nat → Prop) (w : World) (v : Value) (o : Ob) (ho : ObAt ok w v o) : Calls Try.prog 3 #[v] w fun e w' => e = .returned (.bool true) ∧ Below w.heap.size w w' := by
  have ho0 := ho
  obtain ⟨rv, wv, rfl, h1, h2⟩ := ho
  obtain ⟨ra, rc, rfl⟩ := h1.shape
  obtain ⟨wa, wc, rfl⟩ := h2.shape
  have HO := Lib.hid ho0
  clear ho0 h1 h2
  have OK := Lib.hid (show ∀ w', Below w.heap.size w w' → ObAt ok w' _ o from fun w' hb => HO.out.fresh hb)
  clear HO
  go_enter Try.func3, Try.ntmps3
  go_wp2_with fail
  refine (new_yes 2 1 _ (by decide)).mono ?_
  rintro e w1 ⟨h, y, a, rfl, hh, z1, z2, z3, hb1⟩
  simp only [World.size_alloc] at z1 z2 z3
  have HH := Lib.hid hh
  have hx := rowB hb1 (new0 _ _) (by simp)
  have X1 := Lib.hid hx
  have hb1' := below_then ((Below.refl w.heap.size w).alloc (Nat.le_refl _) _) (by simp) hb1
  have z4 := hb1'.size
  have B1 := Lib.hid hb1'
  clear hh hb1 hx hb1'
  go_wp2_with fail
  refine (alloc_any (fun _ => True) _ h y a _ _ ⟨1, 3, 0, [], []⟩ HH.out ⟨_, _, rfl, ints0 _ _, ints0 _ _⟩).mono ?_
  rintro e w2 ⟨rfl, hh2, ht2⟩
  have e2 : (⟨2, 1, 0, [], []⟩ : HM).alloc ⟨1, 3, 0, [], []⟩ = (0, 0, ⟨2, 1, 1, [(0, ⟨1, 3, 0, [], []⟩)], []⟩) := by kernel_rfl
  rw [e2] at hh2 ⊢
  have HH2 := Lib.hid hh2
  have z5 := ht2.size
  have B2 := Lib.hid (Turn.belowH B1.out ht2 z4 (by omega) (by omega) (by omega))
  have hx := rowT ht2 X1.out (fun e => by rcases e with e | e | e <;> omega)
  have X2 := Lib.hid hx
  clear hh2 ht2 e2 X1
  have c2 := cellsH hx
  clear hx
  go_wp2_with fail
  refine (set_any ok _ h y a _ 0 _ o HH2.out (OK.out _ B2.out)).mono ?_
  rintro e w3 ⟨rfl, hh3, ht3⟩
  have HH3 := Lib.hid hh3
  have z6 := ht3.size
  have B3 := Lib.hid (Turn.belowH B2.out ht3 (by omega) (by omega) (by omega) (by omega))
  have hx := rowT ht3 X2.out (fun e => by rcases e with e | e | e <;> omega)
  have X3 := Lib.hid hx
  clear hh3 ht3 X2 c2
  have c2 := cellsH hx
  clear hx
  go_wp2_with fail
  refine (alloc_any ok _ h y a _ _ o HH3.out (OK.out _ B3.out)).mono ?_
  rintro e w4 ⟨rfl, hh4, ht4⟩
  have HH4 := Lib.hid hh4
  have z7 := ht4.size
  have B4 := Lib.hid (Turn.belowH B3.out ht4 (by omega) (by omega) (by omega) (by omega))
  have hx := rowT ht4 X3.out (fun e => by rcases e with e | e | e <;> omega)
  have X4 := Lib.hid hx
  clear hh4 ht4 X3 c2
  have c2 := cellsH hx
  clear hx
  go_wp2_with fail
  refine (get_any _ h y a _ 0 HH4.out).mono ?_
  rintro e w5 ⟨u, rfl, hu, hb5⟩
  obtain ⟨ua, uc, va, vc, rfl⟩ := hu.open
  have HU := Lib.hid hu
  have z8 := hb5.size
  have HH5 := Lib.hid (HH4.out.fresh hb5)
  have B5 := Lib.hid (below_then B4.out (by omega) hb5)
  have hx := rowB hb5 X4.out (heap_lt X4.out)
  have X5 := Lib.hid hx
  clear hu hb5 X4 c2
  have c2 := cellsH hx
  clear hx
  have hxa := fun p => cellsH (old1 X5.out p)
  by_cases hv : vld o = true
  · have e3 : (⟨2, 1, 1, [(0, ⟨1, 3, 0, [], []⟩)], []⟩ : HM).set 0 o = (0, ⟨2, 1, 1, [(0, o)], []⟩) := by simp [HM.set, hv, Go.Proofs.Ytobniolmielikaa.get, ix, put]
    have e4 : (⟨2, 1, 1, [(0, o)], []⟩ : HM).alloc o = (1, 0, ⟨2, 1, 2, [(0, o), (1, o)], []⟩) := by
      rw [alloc_v hv _ _ _ _ _ (by simp)]
      have : wrap64 2 = 2 := by kernel_rfl
      simp [put, ix, this]
    have e5 : (⟨2, 1, 2, [(0, o), (1, o)], []⟩ : HM).get 0 = (o, 0) := by simp [HM.get, Go.Proofs.Ytobniolmielikaa.get, ix]
    simp only [e3, e4, e5] at *
    go_wp2_with fail
    have hb5a := B5.out.alloc (by omega) (.cells #[.int .i64 o.op, .int .i64 o.n, .int .i64 o.ar, .slice ua o.refs.length uc, .slice va o.words.length vc] 25)
    refine (refValid_any ok _ o _ (OK.out _ hb5a)).mono ?_
    rintro e w6 ⟨rfl, hb6⟩
    have hx6 := rowB hb6 (old1 X5.out _) (heap_lt (old1 X5.out _))
    have hu6 := rowB hb6 (new0 w5 _) (by simp)
    have HU6 := Lib.hid ((HU.out.fresh ((Below.refl _ _).alloc (Nat.le_refl _) _)).fresh hb6)
    have z9 := hb6.size
    simp only [World.size_alloc] at z9
    have B6 := Lib.hid (below_then hb5a (by simp; omega) hb6)
    have HH6 := Lib.hid ((HH5.out.fresh ((Below.refl _ _).alloc (Nat.le_refl _) _)).fresh hb6)
    clear hxa hb5a hb6 c2
    have d1 := cellsH hx6
    have d2 := cellsH hu6
    clear hx6 hu6
    rw [hv]
    go_wp2_with fail
    refine (sameObj_any _ ok _ _ _ o HU6.out.at (OK.out _ B6.out)).mono ?_
    rintro e w7 ⟨rfl, hb7⟩
    have z10 := hb7.size
    have B7 := Lib.hid (below_then B6.out (by omega) hb7)
    clear hb7
    go_wp2_with fail
    refine (example_any _).mono ?_
    rintro e w8 ⟨rfl, hb8⟩
    go_wp2_with fail
    go_ret
    exact ⟨rfl, below_then B7.out (by omega) hb8⟩
  · have hv : vld o = false := by simpa using hv
    have e5 : (⟨2, 1, 1, [(0, ⟨1, 3, 0, [], []⟩)], []⟩ : HM).get 0 = (⟨1, 3, 0, [], []⟩, 0) := by simp [HM.get, Go.Proofs.Ytobniolmielikaa.get, ix]
    simp only [set_i hv, alloc_i hv, e5] at *
    have eO : (⟨1, 3, 0, [], []⟩ : Ob).refs.length = 0 := rfl
    go_wp2_with fail
    have hb5a := B5.out.alloc (by omega) (.cells #[.int .i64 (⟨1, 3, 0, [], []⟩ : Ob).op, .int .i64 (⟨1, 3, 0, [], []⟩ : Ob).n, .int .i64 (⟨1, 3, 0, [], []⟩ : Ob).ar, .slice ua (⟨1, 3, 0, [], []⟩ : Ob).refs.length uc, .slice va (⟨1, 3, 0, [], []⟩ : Ob).words.length vc] 25)
    refine (refValid_any ok _ o _ (OK.out _ hb5a)).mono ?_
    rintro e w6 ⟨rfl, hb6⟩
    have hx6 := rowB hb6 (old1 X5.out _) (heap_lt (old1 X5.out _))
    have hu6 := rowB hb6 (new0 w5 _) (by simp)
    have HU6 := Lib.hid ((HU.out.fresh ((Below.refl _ _).alloc (Nat.le_refl _) _)).fresh hb6)
    have z9 := hb6.size
    simp only [World.size_alloc] at z9
    have B6 := Lib.hid (below_then hb5a (by simp; omega) hb6)
    have HH6 := Lib.hid ((HH5.out.fresh ((Below.refl _ _).alloc (Nat.le_refl _) _)).fresh hb6)
    clear hxa hb5a hb6 c2
    have d1 := cellsH hx6
    have d2 := cellsH hu6
    clear hx6 hu6
    rw [hv]
    go_wp2_with fail
    refine (room_val _ h y a _ HH6.out 1 (by kernel_rfl)).mono ?_
    rintro e w7 ⟨rfl, n, rfl⟩
    go_wp2_with fail
    have HU7 : ObR w4.heap.size (w6.drewN n) _ ⟨1, 3, 0, [], []⟩ := HU6.out.fresh (below_drewN (Below.refl _ _) n)
    have B6n := below_drewN B6.out n
    refine (sameObj_any _ (fun _ => True) _ _ _ ⟨1, 3, 0, [], []⟩ HU7.at ⟨_, _, rfl, ints0 _ _, ints0 _ _⟩).mono ?_
    rintro e w7 ⟨rfl, hb7⟩
    have z10 := hb7.size
    have z11 := B6n.size
    have B7 := Lib.hid (below_then B6n z11 hb7)
    clear hb7 B6n HU7
    go_wp2_with fail
    refine (example_any _).mono ?_
    rintro e w8 ⟨rfl, hb8⟩
    go_wp2_with fail
    go_ret
    exact ⟨rfl, below_then B7.out (by omega) hb8⟩
end Go.Proofs.Ytobniolmielikaa
