/- The walk of the law CostPrefix; no condition but that the arguments are values. -/
import Derived.Test.YtngdchahahabpaaOrders
import Derived.Test.YtngdchahahabpaaCost10
import Derived.Deep.CutRange
namespace Go.Proofs.Ytngdchahahabpaa
open Go.RowKit

theorem chk_take : ∀ (l : List Ev) (xs : List Int) (last : Int) (k : Nat), chk xs last l = 0 → chk xs last (l.take k) = 0
  | _, _, _, 0, _ => rfl
  | [], _, _, k + 1, _ => rfl
  | e :: r, xs, last, k + 1, h => by
    rw [List.take_succ_cons]
    unfold chk at h ⊢
    by_cases c1 : e.op < 1 ∨ 7 < e.op ∨ e.step < 0
    · rw [if_pos c1] at h
      omega
    rw [if_neg c1] at h ⊢
    by_cases c2 : e.step < last
    · rw [if_pos c2] at h
      omega
    rw [if_neg c2] at h ⊢
    by_cases c3 : e.op = 1
    · rw [if_pos c3] at h ⊢
      by_cases c4 : e.id = xs.length
      · rw [if_pos c4] at h ⊢
        exact chk_take r _ _ k h
      · rw [if_neg c4] at h
        omega
    rw [if_neg c3] at h ⊢
    by_cases c4 : e.id < 0 ∨ (xs.length : Int) ≤ e.id
    · rw [if_pos c4] at h
      omega
    rw [if_neg c4] at h ⊢
    by_cases c5 : (mv (xs.getD e.id.toNat 0) e.op).2 = true
    · rw [if_pos c5] at h ⊢
      exact chk_take r _ _ k h
    · rw [if_neg c5] at h
      omega

theorem Evs.take {w : World} {A : Option Addr} {n c : Nat} {l : List Ev} (h : Evs w (.slice A n c) l) {k : Nat} (hk : k ≤ l.length) : Evs w (.slice A k c) (l.take k) := by
  obtain ⟨A', cap, e, h1, h2, h3, h4, h5⟩ := h
  cases e
  have hlen : (l.take k).length = k := by simp; omega
  refine ⟨A, c, by rw [hlen], by omega, h2, fun h0 => ?_, by omega, fun e he => h5 e (List.mem_of_mem_take he)⟩
  obtain ⟨ad, rfl, hl, hc⟩ := h3 (by omega)
  refine ⟨ad, rfl, hl, fun i e he => hc i e ?_⟩
  rw [List.getElem?_take] at he
  split at he
  · exact he
  · cases he

theorem add_add' (a : Addr) (i j : Nat) : (a.add i).add j = a.add (i + j) := Go.Deep.add_add ..
theorem size51 (W : World) : (sizeOf (Try.prog.elem 31)).run Try.prog W = .ok 3 W := by kernel_rfl
theorem Evs.drop {w : World} {A : Option Addr} {n c : Nat} {l : List Ev} (h : Evs w (.slice A n c) l) {k : Nat} (hk : k ≤ l.length) : Evs w (.slice (if c = k then A else A.map (·.add (k * 3))) (l.length - k) (c - k)) (l.drop k) := by
  obtain ⟨A', cap, e, h1, h2, h3, h4, h5⟩ := h
  cases e
  have hlen : (l.drop k).length = l.length - k := by simp
  refine ⟨_, _, by rw [hlen], by omega, by omega, fun h0 => ?_, by omega, fun e he => h5 e (List.mem_of_mem_drop he)⟩
  obtain ⟨ad, rfl, hl, hc⟩ := h3 (by omega)
  rw [if_neg (by omega)]
  refine ⟨ad.add (k * 3), rfl, by rw [addr_block]; exact hl, fun i e he => ?_⟩
  rw [List.getElem?_drop] at he
  obtain ⟨x1, x2, x3⟩ := hc (k + i) e he
  rw [add_add', add_add', add_add']
  exact ⟨by rw [← x1]; congr 2; omega, by rw [← x2]; congr 2; omega, by rw [← x3]; congr 2; omega⟩
/-- A slice of events cut in two. -/
theorem cut_both {w : World} {A : Option Addr} {c : Nat} {l : List Ev} (h : Evs w (.slice A l.length c) l) {k : Nat} (hk : k ≤ l.length) :
    ∃ B1 B2, Evs w (.slice B1 k c) (l.take k) ∧ Evs w (.slice B2 (l.length - k) (c - k)) (l.drop k) ∧
      (∀ W, (Instr.slice 31 (.slice A l.length c) none (some (.int .i64 k)) none).run Try.prog W = .ok (.slice B1 k c) W) ∧
      (∀ W, (Instr.slice 31 (.slice A l.length c) (some (.int .i64 k)) none none).run Try.prog W = .ok (.slice B2 (l.length - k) (c - k)) W) := by
  have hcap : l.length ≤ c := by
    obtain ⟨A', cap, e, h1, _⟩ := h
    cases e
    exact h1
  have hel : Try.prog.underlying 31 = some (.slice (Try.prog.elem 31)) := by kernel_rfl
  refine ⟨A, _, h.take hk, h.drop hk, fun W => ?_, fun W => ?_⟩
  · rw [run_slice_h W 31 A l.length c hel .i64 k (by omega) (by omega), size51]
    simp only [Result.andThen, sliced, Int.toNat_natCast, Nat.sub_zero]
    have : ∀ a : Addr, a.add 0 = a := fun a => by unfold Addr.add; simp
    cases A <;> simp [this]
  · rw [run_slice_l W 31 A l.length c hel .i64 k (by omega) (by omega), size51]
    simp only [Result.andThen, sliced, Int.toNat_natCast]

theorem counts_arr (w : World) (v : Value) (l : List Ev) (h : Evs w v l) :
    Calls Try.prog 21 #[v] w fun e w' => e = .returned (.agg #[.int .i64 (cnf l 0), .int .i64 (cnf l 1), .int .i64 (cnf l 2), .int .i64 (cnf l 3), .int .i64 (cnf l 4), .int .i64 (cnf l 5), .int .i64 (cnf l 6), .int .i64 (cnf l 7)]) ∧ Below w.heap.size w w' := counts_any w v l h

/-- How many events are counted below k. -/
def csm (l : List Ev) : Nat → Nat
  | 0 => 0
  | k + 1 => csm l k + cn l k
theorem csm_all : ∀ l : List Ev, csm l 8 = l.length
  | [] => rfl
  | e :: r => by
    have ih := csm_all r
    have h1 : ∀ j, cn (e :: r) j = (if slot e = j then 1 else 0) + cn r j := by
      intro j
      have := cn_append [e] r j
      rw [List.singleton_append] at this
      rw [this]
      congr 1
      simp only [cn, List.filter_cons, List.filter_nil, beq_iff_eq]
      split <;> rfl
    simp only [csm, h1] at ih ⊢
    rw [List.length_cons]
    have hs := slot_lt e
    have hc : slot e = 0 ∨ slot e = 1 ∨ slot e = 2 ∨ slot e = 3 ∨ slot e = 4 ∨ slot e = 5 ∨ slot e = 6 ∨ slot e = 7 := by omega
    clear hs h1
    rcases hc with h | h | h | h | h | h | h | h <;> rw [h] <;> simp <;> omega
theorem csm_le (l : List Ev) : ∀ k, csm l k ≤ k * l.length
  | 0 => by simp [csm]
  | k + 1 => by
    have := csm_le l k
    have := cn_le l k
    simp only [csm, Nat.succ_mul]
    omega
theorem cn_cut (l : List Ev) (k j : Nat) : cnf (l.take k) j + cnf (l.drop k) j = cnf l j := by
  have := cn_append (l.take k) (l.drop k) j
  rw [List.take_append_drop] at this
  simp only [cnf]
  omega

/-- Where the region stands: which operations have run, what they have left. -/
def PreInv (R1 R2 R3 : Array Value) (w0 : World) (S K S1 S2 : Value) (x2 x3 x4 x8 x9 x10 x11 x12 x13 x14 x15 x16 x17 x18 x19 x20 x21 x22 x23 x24 x25 x26 x27 x28 x29 x30 x31 x32 x33 x44 x45 x46 x47 x48 x49 x50 x51 x52 x53 x54 x55 x56 x57 x58 x59 x60 x61 x62 x63 x64 x65 x66 x67 x68 x69 x70 : Value) (listed : Array Bool) (a : Act) (w : World) : Prop :=
  ∃ (b0 b1 b2 b3 b4 b5 b6 b7 b8 b9 b10 b11 b12 b13 b14 b15 : Bool) (v5 v6 v7 v34 v35 v36 v37 v38 v39 v40 v41 v42 v43 : Value) (g5 g6 g7 : Nat), listed = #[b0, b1, b2, b3, b4, b5, b6, b7, b8, b9, b10, b11, b12, b13, b14, b15] ∧ a = ⟨#[S, K, x2, x3, x4, v5, v6, v7, x8, x9, x10, x11, x12, x13, x14, x15, x16, x17, x18, x19, x20, x21, x22, x23, x24, x25, x26, x27, x28, x29, x30, x31, x32, x33, v34, v35, v36, v37, v38, v39, v40, v41, v42, v43, x44, x45, x46, x47, x48, x49, x50, x51, x52, x53, x54, x55, x56, x57, x58, x59, x60, x61, x62, x63, x64, x65, x66, x67, x68, x69, x70], []⟩ ∧
    (b0 = true → v34 = S) ∧ (b1 = true → v35 = K) ∧ (b2 = true → v36 = S1) ∧ (b3 = true → v37 = .agg R1) ∧ (b4 = true → v38 = S) ∧ (b5 = true → v39 = K) ∧ (b6 = true → v40 = S2) ∧ (b7 = true → v41 = .agg R2) ∧ (b8 = true → v42 = S) ∧ (b9 = true → v43 = .agg R3) ∧ (b10 = true → v5 = .pointer (some ⟨g5, 0, none⟩) ∧ w0.heap.size ≤ g5 ∧ w.heap[g5]? = some (.cells (if b13 = true then R1 else rowC fun _ => 0) 44)) ∧ (b13 = true → b10 = true) ∧ (b11 = true → v6 = .pointer (some ⟨g6, 0, none⟩) ∧ w0.heap.size ≤ g6 ∧ w.heap[g6]? = some (.cells (if b14 = true then R2 else rowC fun _ => 0) 44)) ∧ (b14 = true → b11 = true) ∧ (b12 = true → v7 = .pointer (some ⟨g7, 0, none⟩) ∧ w0.heap.size ≤ g7 ∧ w.heap[g7]? = some (.cells (if b15 = true then R3 else rowC fun _ => 0) 44)) ∧ (b15 = true → b12 = true) ∧ (b10 = true → b11 = true → g5 ≠ g6) ∧ (b10 = true → b12 = true → g5 ≠ g7) ∧ (b11 = true → b12 = true → g6 ≠ g7) ∧ Below w0.heap.size w0 w

set_option maxHeartbeats 10000000 in
theorem costPrefix_law (w : World) (v : Value) (l : List Ev) (n : Int) (h : Evs w v l) :
    Calls Try.prog 8 #[v, .int .i64 n] w fun e w' => e = .returned (.bool true) ∧ Below w.heap.size w w' := by
  obtain ⟨A, c, rfl⟩ := h.shape
  have H := Lib.hid h
  clear h
  by_cases hbig : 300 < l.length ∨ n < 0 ∨ (l.length : Int) < n
  · have hg : 300 < l.length ∨ (l.length ≤ 300 ∧ n < 0) ∨ (l.length ≤ 300 ∧ 0 ≤ n ∧ (l.length : Int) < n) := by omega
    clear hbig
    rcases hg with g | ⟨g1, g2⟩ | ⟨g1, g2, g3⟩ <;>
    · go_enter Try.func8, Try.ntmps8
      go_wp2_with fail
      refine (example_any _).mono ?_
      rintro e w1 ⟨rfl, hb⟩
      have HB := Lib.hid hb
      clear hb
      go_wp2_with fail
      go_ret
      exact ⟨rfl, HB.out⟩
  · obtain ⟨k, rfl⟩ : ∃ k : Nat, n = k := ⟨n.toNat, by omega⟩
    have g1 : l.length ≤ 300 := by omega
    have g2 : k ≤ l.length := by omega
    have hcap : l.length ≤ c := by
      obtain ⟨A', cap, e, h1, _⟩ := H.out
      cases e
      exact h1
    clear hbig
    obtain ⟨B1, B2, hB1, hB2, hs1, hs2⟩ := cut_both H.out g2
    have H1 := Lib.hid hB1
    have H2 := Lib.hid hB2
    clear hB1 hB2
    go_enter Try.func8, Try.ntmps8
    go_upto_region 3 with (fail)
    go_cut [33] from 10 to 33 (fun s33 wx => s33 = Value.bool false ∧ Below w.heap.size w wx)
    case first =>
      go_wp2_with fail
      refine (check_any _ _ l H.out).mono ?_
      rintro e w1 ⟨rfl, hb⟩
      have HB := Lib.hid hb
      clear hb
      by_cases hz : chk [] 0 l = 0
      · have hz' := chk_take l [] 0 k hz
        rw [hz]
        go_wp2_with fail
        refine (check_any _ _ _ (H1.out.fresh HB.out)).mono ?_
        rintro e w2 ⟨rfl, hb⟩
        rw [hz']
        have HB2 := Lib.hid (below_then HB.out HB.out.size hb)
        clear hb hz hz'
        go_wp2_with fail
        go_meet
        case rel => exact ⟨rfl, HB2.out⟩
      · have hz2 : (chk [] 0 l == 0) = false := by simp [hz]
        go_wp2_with fail
        go_meet
        case rel => exact ⟨rfl, HB.out⟩
    case rest =>
      obtain ⟨rfl, hbc⟩ := hcut
      have HB2 := Lib.hid hbc
      clear hbc
      go_upto_region 5 with (fail)
      refine wp_region_any (by kernel_rfl) ?_
      refine wpAny_inv (PreInv (rowC (cnf (l.take k))) (rowC (cnf (l.drop k))) (rowC (cnf l)) wc (.slice A l.length c) (.int .i64 k) (.slice B1 k c) (.slice B2 (l.length - k) (c - k)) undef undef (.bool false) undef undef u10 u11 u12 u13 u14 u15 u16 u17 u18 u19 u20 u21 u22 u23 u24 u25 u26 u27 u28 u29 u30 u31 u32 (.bool false) undef undef undef undef undef undef undef undef undef undef undef undef undef undef undef undef undef undef undef undef undef undef undef undef undef undef undef) ?_ ?_ ?_ _ _ _ _ ?_ ?_
      rotate_left 3
      · exact Nat.le_refl 16
      · refine ⟨false, false, false, false, false, false, false, false, false, false, false, false, false, false, false, false, undef, undef, undef, undef, undef, undef, undef, undef, undef, undef, undef, undef, undef, 0, 0, 0, rfl, rfl, ?_⟩
        simp
        exact (Below.refl _ _).drew
      · rintro listed a w1 ⟨b0, b1, b2, b3, b4, b5, b6, b7, b8, b9, b10, b11, b12, b13, b14, b15, _, _, _, _, _, _, _, _, _, _, _, _, _, _, _, _, rfl, _⟩
        rfl
      · rintro listed a w1 ⟨b0, b1, b2, b3, b4, b5, b6, b7, b8, b9, b10, b11, b12, b13, b14, b15, v5, v6, v7, v34, v35, v36, v37, v38, v39, v40, v41, v42, v43, g5, g6, g7, rfl, rfl, i0, i1, i2, i3, i4, i5, i6, i7, i8, i9, p10, q13, p11, q14, p12, q15, d56, d57, d67, hb⟩ i hi
        have hi16 : i < 16 := by
          have := (List.mem_filter.1 hi).1
          simpa using this
        have hr := (List.mem_filter.1 hi).2
        clear hi
        have hcase : i = 0 ∨ i = 1 ∨ i = 2 ∨ i = 3 ∨ i = 4 ∨ i = 5 ∨ i = 6 ∨ i = 7 ∨ i = 8 ∨ i = 9 ∨ i = 10 ∨ i = 11 ∨ i = 12 ∨ i = 13 ∨ i = 14 ∨ i = 15 := by omega
        clear hi16
        rcases hcase with rfl | rfl | rfl | rfl | rfl | rfl | rfl | rfl | rfl | rfl | rfl | rfl | rfl | rfl | rfl | rfl
        · simp [Region.binds] at hr
          refine wpOp_mine rfl (fun K' hK => ?_)
          go_simp
          refine hK _ _ ?_
          refine ⟨true, b1, b2, b3, b4, b5, b6, b7, b8, b9, b10, b11, b12, b13, b14, b15, v5, v6, v7, (.slice A l.length c), v35, v36, v37, v38, v39, v40, v41, v42, v43, g5, g6, g7, rfl, rfl, fun _ => rfl, i1, i2, i3, i4, i5, i6, i7, i8, i9, p10, q13, p11, q14, p12, q15, d56, d57, d67, hb⟩
        · simp [Region.binds] at hr
          refine wpOp_mine rfl (fun K' hK => ?_)
          go_simp
          refine hK _ _ ?_
          refine ⟨b0, true, b2, b3, b4, b5, b6, b7, b8, b9, b10, b11, b12, b13, b14, b15, v5, v6, v7, v34, (.int .i64 k), v36, v37, v38, v39, v40, v41, v42, v43, g5, g6, g7, rfl, rfl, i0, fun _ => rfl, i2, i3, i4, i5, i6, i7, i8, i9, p10, q13, p11, q14, p12, q15, d56, d57, d67, hb⟩
        · simp [Region.binds] at hr
          obtain ⟨_, h1, h2⟩ := hr
          have e1 := i0 h1
          have e2 := i1 h2
          subst e1 e2
          refine wpOp_mine rfl (fun K' hK => ?_)
          go_simp
          refine hK _ _ ?_
          refine ⟨b0, b1, true, b3, b4, b5, b6, b7, b8, b9, b10, b11, b12, b13, b14, b15, v5, v6, v7, (.slice A l.length c), (.int .i64 k), (.slice B1 k c), v37, v38, v39, v40, v41, v42, v43, g5, g6, g7, rfl, rfl, i0, i1, fun _ => rfl, i3, i4, i5, i6, i7, i8, i9, p10, q13, p11, q14, p12, q15, d56, d57, d67, hb⟩
        · simp [Region.binds] at hr
          obtain ⟨_, h1⟩ := hr
          have e1 := i2 h1
          subst e1
          refine wpOp_mine rfl (fun K' hK => ?_)
          go_simp
          refine (counts_any _ _ (l.take k) (H1.out.fresh (below_then HB2.out HB2.out.size hb))).mono ?_
          rintro e w3 ⟨rfl, hb3⟩
          refine hK _ _ ?_
          refine ⟨b0, b1, b2, true, b4, b5, b6, b7, b8, b9, b10, b11, b12, b13, b14, b15, v5, v6, v7, v34, v35, (.slice B1 k c), (.agg (rowC (cnf (l.take k)))), v38, v39, v40, v41, v42, v43, g5, g6, g7, rfl, rfl, i0, i1, i2, fun _ => rfl, i4, i5, i6, i7, i8, i9, fun h => ⟨(p10 h).1, (p10 h).2.1, rowB hb3 (p10 h).2.2 (heap_lt (p10 h).2.2)⟩, q13, fun h => ⟨(p11 h).1, (p11 h).2.1, rowB hb3 (p11 h).2.2 (heap_lt (p11 h).2.2)⟩, q14, fun h => ⟨(p12 h).1, (p12 h).2.1, rowB hb3 (p12 h).2.2 (heap_lt (p12 h).2.2)⟩, q15, d56, d57, d67, below_then hb hb.size hb3⟩
        · simp [Region.binds] at hr
          refine wpOp_mine rfl (fun K' hK => ?_)
          go_simp
          refine hK _ _ ?_
          refine ⟨b0, b1, b2, b3, true, b5, b6, b7, b8, b9, b10, b11, b12, b13, b14, b15, v5, v6, v7, v34, v35, v36, v37, (.slice A l.length c), v39, v40, v41, v42, v43, g5, g6, g7, rfl, rfl, i0, i1, i2, i3, fun _ => rfl, i5, i6, i7, i8, i9, p10, q13, p11, q14, p12, q15, d56, d57, d67, hb⟩
        · simp [Region.binds] at hr
          refine wpOp_mine rfl (fun K' hK => ?_)
          go_simp
          refine hK _ _ ?_
          refine ⟨b0, b1, b2, b3, b4, true, b6, b7, b8, b9, b10, b11, b12, b13, b14, b15, v5, v6, v7, v34, v35, v36, v37, v38, (.int .i64 k), v40, v41, v42, v43, g5, g6, g7, rfl, rfl, i0, i1, i2, i3, i4, fun _ => rfl, i6, i7, i8, i9, p10, q13, p11, q14, p12, q15, d56, d57, d67, hb⟩
        · simp [Region.binds] at hr
          obtain ⟨_, h1, h2⟩ := hr
          have e1 := i4 h1
          have e2 := i5 h2
          subst e1 e2
          refine wpOp_mine rfl (fun K' hK => ?_)
          go_simp
          refine hK _ _ ?_
          refine ⟨b0, b1, b2, b3, b4, b5, true, b7, b8, b9, b10, b11, b12, b13, b14, b15, v5, v6, v7, v34, v35, v36, v37, (.slice A l.length c), (.int .i64 k), (.slice B2 (l.length - k) (c - k)), v41, v42, v43, g5, g6, g7, rfl, rfl, i0, i1, i2, i3, i4, i5, fun _ => rfl, i7, i8, i9, p10, q13, p11, q14, p12, q15, d56, d57, d67, hb⟩
        · simp [Region.binds] at hr
          obtain ⟨-, h1, -⟩ := hr
          have e1 := i6 h1
          subst e1
          refine wpOp_mine rfl (fun K' hK => ?_)
          go_simp
          refine (counts_any _ _ (l.drop k) (H2.out.fresh (below_then HB2.out HB2.out.size hb))).mono ?_
          rintro e w3 ⟨rfl, hb3⟩
          refine hK _ _ ?_
          refine ⟨b0, b1, b2, b3, b4, b5, b6, true, b8, b9, b10, b11, b12, b13, b14, b15, v5, v6, v7, v34, v35, v36, v37, v38, v39, (.slice B2 (l.length - k) (c - k)), (.agg (rowC (cnf (l.drop k)))), v42, v43, g5, g6, g7, rfl, rfl, i0, i1, i2, i3, i4, i5, i6, fun _ => rfl, i8, i9, fun h => ⟨(p10 h).1, (p10 h).2.1, rowB hb3 (p10 h).2.2 (heap_lt (p10 h).2.2)⟩, q13, fun h => ⟨(p11 h).1, (p11 h).2.1, rowB hb3 (p11 h).2.2 (heap_lt (p11 h).2.2)⟩, q14, fun h => ⟨(p12 h).1, (p12 h).2.1, rowB hb3 (p12 h).2.2 (heap_lt (p12 h).2.2)⟩, q15, d56, d57, d67, below_then hb hb.size hb3⟩
        · simp [Region.binds] at hr
          refine wpOp_mine rfl (fun K' hK => ?_)
          go_simp
          refine hK _ _ ?_
          refine ⟨b0, b1, b2, b3, b4, b5, b6, b7, true, b9, b10, b11, b12, b13, b14, b15, v5, v6, v7, v34, v35, v36, v37, v38, v39, v40, v41, (.slice A l.length c), v43, g5, g6, g7, rfl, rfl, i0, i1, i2, i3, i4, i5, i6, i7, fun _ => rfl, i9, p10, q13, p11, q14, p12, q15, d56, d57, d67, hb⟩
        · simp [Region.binds] at hr
          obtain ⟨-, h1, -⟩ := hr
          have e1 := i8 h1
          subst e1
          refine wpOp_mine rfl (fun K' hK => ?_)
          go_simp
          refine (counts_any _ _ l (H.out.fresh (below_then HB2.out HB2.out.size hb))).mono ?_
          rintro e w3 ⟨rfl, hb3⟩
          refine hK _ _ ?_
          refine ⟨b0, b1, b2, b3, b4, b5, b6, b7, b8, true, b10, b11, b12, b13, b14, b15, v5, v6, v7, v34, v35, v36, v37, v38, v39, v40, v41, (.slice A l.length c), (.agg (rowC (cnf l))), g5, g6, g7, rfl, rfl, i0, i1, i2, i3, i4, i5, i6, i7, i8, fun _ => rfl, fun h => ⟨(p10 h).1, (p10 h).2.1, rowB hb3 (p10 h).2.2 (heap_lt (p10 h).2.2)⟩, q13, fun h => ⟨(p11 h).1, (p11 h).2.1, rowB hb3 (p11 h).2.2 (heap_lt (p11 h).2.2)⟩, q14, fun h => ⟨(p12 h).1, (p12 h).2.1, rowB hb3 (p12 h).2.2 (heap_lt (p12 h).2.2)⟩, q15, d56, d57, d67, below_then hb hb.size hb3⟩
        · simp [Region.binds] at hr
          have h13 : b13 = false := by
            cases hx : b13 with
            | false => rfl
            | true => have := q13 hx; rw [hr] at this; cases this
          refine wpOp_mine rfl (fun K' hK => ?_)
          go_simp
          refine hK _ _ ?_
          refine ⟨b0, b1, b2, b3, b4, b5, b6, b7, b8, b9, true, b11, b12, b13, b14, b15, (.pointer (some ⟨w1.heap.size, 0, none⟩)), v6, v7, v34, v35, v36, v37, v38, v39, v40, v41, v42, v43, w1.heap.size, g6, g7, rfl, rfl, i0, i1, i2, i3, i4, i5, i6, i7, i8, i9, fun _ => ⟨rfl, hb.size, by rw [h13]; exact new0 _ _⟩, fun _ => rfl, fun h => ⟨(p11 h).1, (p11 h).2.1, old1 (p11 h).2.2 _⟩, q14, fun h => ⟨(p12 h).1, (p12 h).2.1, old1 (p12 h).2.2 _⟩, q15, fun _ h => Nat.ne_of_gt (heap_lt (p11 h).2.2), fun _ h => Nat.ne_of_gt (heap_lt (p12 h).2.2), d67, hb.alloc hb.size _⟩
        · simp [Region.binds] at hr
          have h13 : b14 = false := by
            cases hx : b14 with
            | false => rfl
            | true => have := q14 hx; rw [hr] at this; cases this
          refine wpOp_mine rfl (fun K' hK => ?_)
          go_simp
          refine hK _ _ ?_
          refine ⟨b0, b1, b2, b3, b4, b5, b6, b7, b8, b9, b10, true, b12, b13, b14, b15, v5, (.pointer (some ⟨w1.heap.size, 0, none⟩)), v7, v34, v35, v36, v37, v38, v39, v40, v41, v42, v43, g5, w1.heap.size, g7, rfl, rfl, i0, i1, i2, i3, i4, i5, i6, i7, i8, i9, fun h => ⟨(p10 h).1, (p10 h).2.1, old1 (p10 h).2.2 _⟩, q13, fun _ => ⟨rfl, hb.size, by rw [h13]; exact new0 _ _⟩, fun _ => rfl, fun h => ⟨(p12 h).1, (p12 h).2.1, old1 (p12 h).2.2 _⟩, q15, fun h _ => Nat.ne_of_lt (heap_lt (p10 h).2.2), d57, fun _ h => Nat.ne_of_gt (heap_lt (p12 h).2.2), hb.alloc hb.size _⟩
        · simp [Region.binds] at hr
          have h13 : b15 = false := by
            cases hx : b15 with
            | false => rfl
            | true => have := q15 hx; rw [hr] at this; cases this
          refine wpOp_mine rfl (fun K' hK => ?_)
          go_simp
          refine hK _ _ ?_
          refine ⟨b0, b1, b2, b3, b4, b5, b6, b7, b8, b9, b10, b11, true, b13, b14, b15, v5, v6, (.pointer (some ⟨w1.heap.size, 0, none⟩)), v34, v35, v36, v37, v38, v39, v40, v41, v42, v43, g5, g6, w1.heap.size, rfl, rfl, i0, i1, i2, i3, i4, i5, i6, i7, i8, i9, fun h => ⟨(p10 h).1, (p10 h).2.1, old1 (p10 h).2.2 _⟩, q13, fun h => ⟨(p11 h).1, (p11 h).2.1, old1 (p11 h).2.2 _⟩, q14, fun _ => ⟨rfl, hb.size, by rw [h13]; exact new0 _ _⟩, fun _ => rfl, d56, fun h _ => Nat.ne_of_lt (heap_lt (p10 h).2.2), fun h _ => Nat.ne_of_lt (heap_lt (p11 h).2.2), hb.alloc hb.size _⟩
        · simp [Region.binds] at hr
          have h0 : b13 = false := hr.1
          have h1 : b10 = true := by simp [hr]
          have h2 : b3 = true := by simp [hr]
          clear hr
          have e1 : v37 = .agg #[.int .i64 ((cnf (l.take k)) 0), .int .i64 ((cnf (l.take k)) 1), .int .i64 ((cnf (l.take k)) 2), .int .i64 ((cnf (l.take k)) 3), .int .i64 ((cnf (l.take k)) 4), .int .i64 ((cnf (l.take k)) 5), .int .i64 ((cnf (l.take k)) 6), .int .i64 ((cnf (l.take k)) 7)] := i3 h2
          obtain ⟨e2, hge, R⟩ := p10 h1
          rw [h0] at R
          simp only [Bool.false_eq_true, if_false] at R
          have hc := cellsH R
          have hf := freeH R
          simp only [rowC] at hc
          subst e1 e2
          have J := Lib.hid i3
          clear i3
          refine wpOp_mine rfl (fun K' hK => ?_)
          go_simp
          refine hK _ _ ?_
          clear hc hf
          refine ⟨b0, b1, b2, b3, b4, b5, b6, b7, b8, b9, b10, b11, b12, true, b14, b15, (.pointer (some ⟨g5, 0, none⟩)), v6, v7, v34, v35, v36, (.agg (rowC (cnf (l.take k)))), v38, v39, v40, v41, v42, v43, g5, g6, g7, rfl, rfl, i0, i1, i2, J.out, i4, i5, i6, i7, i8, i9, fun _ => ⟨rfl, hge, (rowSet (rowSet (rowSet (rowSet (rowSet (rowSet (rowSet (rowSet R 0 (.int .i64 ((cnf (l.take k)) 0))) 1 (.int .i64 ((cnf (l.take k)) 1))) 2 (.int .i64 ((cnf (l.take k)) 2))) 3 (.int .i64 ((cnf (l.take k)) 3))) 4 (.int .i64 ((cnf (l.take k)) 4))) 5 (.int .i64 ((cnf (l.take k)) 5))) 6 (.int .i64 ((cnf (l.take k)) 6))) 7 (.int .i64 ((cnf (l.take k)) 7)))⟩, fun _ => h1, fun h => ⟨(p11 h).1, (p11 h).2.1, (rowSetNe (k := g5) (i := 7) (rowSetNe (k := g5) (i := 6) (rowSetNe (k := g5) (i := 5) (rowSetNe (k := g5) (i := 4) (rowSetNe (k := g5) (i := 3) (rowSetNe (k := g5) (i := 2) (rowSetNe (k := g5) (i := 1) (rowSetNe (k := g5) (i := 0) ((p11 h).2.2) (Ne.symm (d56 h1 h)) (.int .i64 ((cnf (l.take k)) 0))) (Ne.symm (d56 h1 h)) (.int .i64 ((cnf (l.take k)) 1))) (Ne.symm (d56 h1 h)) (.int .i64 ((cnf (l.take k)) 2))) (Ne.symm (d56 h1 h)) (.int .i64 ((cnf (l.take k)) 3))) (Ne.symm (d56 h1 h)) (.int .i64 ((cnf (l.take k)) 4))) (Ne.symm (d56 h1 h)) (.int .i64 ((cnf (l.take k)) 5))) (Ne.symm (d56 h1 h)) (.int .i64 ((cnf (l.take k)) 6))) (Ne.symm (d56 h1 h)) (.int .i64 ((cnf (l.take k)) 7)))⟩, q14, fun h => ⟨(p12 h).1, (p12 h).2.1, (rowSetNe (k := g5) (i := 7) (rowSetNe (k := g5) (i := 6) (rowSetNe (k := g5) (i := 5) (rowSetNe (k := g5) (i := 4) (rowSetNe (k := g5) (i := 3) (rowSetNe (k := g5) (i := 2) (rowSetNe (k := g5) (i := 1) (rowSetNe (k := g5) (i := 0) ((p12 h).2.2) (Ne.symm (d57 h1 h)) (.int .i64 ((cnf (l.take k)) 0))) (Ne.symm (d57 h1 h)) (.int .i64 ((cnf (l.take k)) 1))) (Ne.symm (d57 h1 h)) (.int .i64 ((cnf (l.take k)) 2))) (Ne.symm (d57 h1 h)) (.int .i64 ((cnf (l.take k)) 3))) (Ne.symm (d57 h1 h)) (.int .i64 ((cnf (l.take k)) 4))) (Ne.symm (d57 h1 h)) (.int .i64 ((cnf (l.take k)) 5))) (Ne.symm (d57 h1 h)) (.int .i64 ((cnf (l.take k)) 6))) (Ne.symm (d57 h1 h)) (.int .i64 ((cnf (l.take k)) 7)))⟩, q15, d56, d57, d67, ((((((((hb.setCell (p := ⟨g5, 0, none⟩) hge (.int .i64 ((cnf (l.take k)) 0))).setCell (p := ⟨g5, 1, none⟩) hge (.int .i64 ((cnf (l.take k)) 1))).setCell (p := ⟨g5, 2, none⟩) hge (.int .i64 ((cnf (l.take k)) 2))).setCell (p := ⟨g5, 3, none⟩) hge (.int .i64 ((cnf (l.take k)) 3))).setCell (p := ⟨g5, 4, none⟩) hge (.int .i64 ((cnf (l.take k)) 4))).setCell (p := ⟨g5, 5, none⟩) hge (.int .i64 ((cnf (l.take k)) 5))).setCell (p := ⟨g5, 6, none⟩) hge (.int .i64 ((cnf (l.take k)) 6))).setCell (p := ⟨g5, 7, none⟩) hge (.int .i64 ((cnf (l.take k)) 7)))⟩
        · simp [Region.binds] at hr
          have h0 : b14 = false := hr.1
          have h1 : b11 = true := by simp [hr]
          have h2 : b7 = true := by simp [hr]
          clear hr
          have e1 : v41 = .agg #[.int .i64 ((cnf (l.drop k)) 0), .int .i64 ((cnf (l.drop k)) 1), .int .i64 ((cnf (l.drop k)) 2), .int .i64 ((cnf (l.drop k)) 3), .int .i64 ((cnf (l.drop k)) 4), .int .i64 ((cnf (l.drop k)) 5), .int .i64 ((cnf (l.drop k)) 6), .int .i64 ((cnf (l.drop k)) 7)] := i7 h2
          obtain ⟨e2, hge, R⟩ := p11 h1
          rw [h0] at R
          simp only [Bool.false_eq_true, if_false] at R
          have hc := cellsH R
          have hf := freeH R
          simp only [rowC] at hc
          subst e1 e2
          have J := Lib.hid i7
          clear i7
          refine wpOp_mine rfl (fun K' hK => ?_)
          go_simp
          refine hK _ _ ?_
          clear hc hf
          refine ⟨b0, b1, b2, b3, b4, b5, b6, b7, b8, b9, b10, b11, b12, b13, true, b15, v5, (.pointer (some ⟨g6, 0, none⟩)), v7, v34, v35, v36, v37, v38, v39, v40, (.agg (rowC (cnf (l.drop k)))), v42, v43, g5, g6, g7, rfl, rfl, i0, i1, i2, i3, i4, i5, i6, J.out, i8, i9, fun h => ⟨(p10 h).1, (p10 h).2.1, (rowSetNe (k := g6) (i := 7) (rowSetNe (k := g6) (i := 6) (rowSetNe (k := g6) (i := 5) (rowSetNe (k := g6) (i := 4) (rowSetNe (k := g6) (i := 3) (rowSetNe (k := g6) (i := 2) (rowSetNe (k := g6) (i := 1) (rowSetNe (k := g6) (i := 0) ((p10 h).2.2) (Ne.symm (Ne.symm (d56 h h1))) (.int .i64 ((cnf (l.drop k)) 0))) (Ne.symm (Ne.symm (d56 h h1))) (.int .i64 ((cnf (l.drop k)) 1))) (Ne.symm (Ne.symm (d56 h h1))) (.int .i64 ((cnf (l.drop k)) 2))) (Ne.symm (Ne.symm (d56 h h1))) (.int .i64 ((cnf (l.drop k)) 3))) (Ne.symm (Ne.symm (d56 h h1))) (.int .i64 ((cnf (l.drop k)) 4))) (Ne.symm (Ne.symm (d56 h h1))) (.int .i64 ((cnf (l.drop k)) 5))) (Ne.symm (Ne.symm (d56 h h1))) (.int .i64 ((cnf (l.drop k)) 6))) (Ne.symm (Ne.symm (d56 h h1))) (.int .i64 ((cnf (l.drop k)) 7)))⟩, q13, fun _ => ⟨rfl, hge, (rowSet (rowSet (rowSet (rowSet (rowSet (rowSet (rowSet (rowSet R 0 (.int .i64 ((cnf (l.drop k)) 0))) 1 (.int .i64 ((cnf (l.drop k)) 1))) 2 (.int .i64 ((cnf (l.drop k)) 2))) 3 (.int .i64 ((cnf (l.drop k)) 3))) 4 (.int .i64 ((cnf (l.drop k)) 4))) 5 (.int .i64 ((cnf (l.drop k)) 5))) 6 (.int .i64 ((cnf (l.drop k)) 6))) 7 (.int .i64 ((cnf (l.drop k)) 7)))⟩, fun _ => h1, fun h => ⟨(p12 h).1, (p12 h).2.1, (rowSetNe (k := g6) (i := 7) (rowSetNe (k := g6) (i := 6) (rowSetNe (k := g6) (i := 5) (rowSetNe (k := g6) (i := 4) (rowSetNe (k := g6) (i := 3) (rowSetNe (k := g6) (i := 2) (rowSetNe (k := g6) (i := 1) (rowSetNe (k := g6) (i := 0) ((p12 h).2.2) (Ne.symm (d67 h1 h)) (.int .i64 ((cnf (l.drop k)) 0))) (Ne.symm (d67 h1 h)) (.int .i64 ((cnf (l.drop k)) 1))) (Ne.symm (d67 h1 h)) (.int .i64 ((cnf (l.drop k)) 2))) (Ne.symm (d67 h1 h)) (.int .i64 ((cnf (l.drop k)) 3))) (Ne.symm (d67 h1 h)) (.int .i64 ((cnf (l.drop k)) 4))) (Ne.symm (d67 h1 h)) (.int .i64 ((cnf (l.drop k)) 5))) (Ne.symm (d67 h1 h)) (.int .i64 ((cnf (l.drop k)) 6))) (Ne.symm (d67 h1 h)) (.int .i64 ((cnf (l.drop k)) 7)))⟩, q15, d56, d57, d67, ((((((((hb.setCell (p := ⟨g6, 0, none⟩) hge (.int .i64 ((cnf (l.drop k)) 0))).setCell (p := ⟨g6, 1, none⟩) hge (.int .i64 ((cnf (l.drop k)) 1))).setCell (p := ⟨g6, 2, none⟩) hge (.int .i64 ((cnf (l.drop k)) 2))).setCell (p := ⟨g6, 3, none⟩) hge (.int .i64 ((cnf (l.drop k)) 3))).setCell (p := ⟨g6, 4, none⟩) hge (.int .i64 ((cnf (l.drop k)) 4))).setCell (p := ⟨g6, 5, none⟩) hge (.int .i64 ((cnf (l.drop k)) 5))).setCell (p := ⟨g6, 6, none⟩) hge (.int .i64 ((cnf (l.drop k)) 6))).setCell (p := ⟨g6, 7, none⟩) hge (.int .i64 ((cnf (l.drop k)) 7)))⟩
        · simp [Region.binds] at hr
          have h0 : b15 = false := hr.1
          have h1 : b12 = true := by simp [hr]
          have h2 : b9 = true := by simp [hr]
          clear hr
          have e1 : v43 = .agg #[.int .i64 ((cnf l) 0), .int .i64 ((cnf l) 1), .int .i64 ((cnf l) 2), .int .i64 ((cnf l) 3), .int .i64 ((cnf l) 4), .int .i64 ((cnf l) 5), .int .i64 ((cnf l) 6), .int .i64 ((cnf l) 7)] := i9 h2
          obtain ⟨e2, hge, R⟩ := p12 h1
          rw [h0] at R
          simp only [Bool.false_eq_true, if_false] at R
          have hc := cellsH R
          have hf := freeH R
          simp only [rowC] at hc
          subst e1 e2
          have J := Lib.hid i9
          clear i9
          refine wpOp_mine rfl (fun K' hK => ?_)
          go_simp
          refine hK _ _ ?_
          clear hc hf
          refine ⟨b0, b1, b2, b3, b4, b5, b6, b7, b8, b9, b10, b11, b12, b13, b14, true, v5, v6, (.pointer (some ⟨g7, 0, none⟩)), v34, v35, v36, v37, v38, v39, v40, v41, v42, (.agg (rowC (cnf l))), g5, g6, g7, rfl, rfl, i0, i1, i2, i3, i4, i5, i6, i7, i8, J.out, fun h => ⟨(p10 h).1, (p10 h).2.1, (rowSetNe (k := g7) (i := 7) (rowSetNe (k := g7) (i := 6) (rowSetNe (k := g7) (i := 5) (rowSetNe (k := g7) (i := 4) (rowSetNe (k := g7) (i := 3) (rowSetNe (k := g7) (i := 2) (rowSetNe (k := g7) (i := 1) (rowSetNe (k := g7) (i := 0) ((p10 h).2.2) (Ne.symm (Ne.symm (d57 h h1))) (.int .i64 ((cnf l) 0))) (Ne.symm (Ne.symm (d57 h h1))) (.int .i64 ((cnf l) 1))) (Ne.symm (Ne.symm (d57 h h1))) (.int .i64 ((cnf l) 2))) (Ne.symm (Ne.symm (d57 h h1))) (.int .i64 ((cnf l) 3))) (Ne.symm (Ne.symm (d57 h h1))) (.int .i64 ((cnf l) 4))) (Ne.symm (Ne.symm (d57 h h1))) (.int .i64 ((cnf l) 5))) (Ne.symm (Ne.symm (d57 h h1))) (.int .i64 ((cnf l) 6))) (Ne.symm (Ne.symm (d57 h h1))) (.int .i64 ((cnf l) 7)))⟩, q13, fun h => ⟨(p11 h).1, (p11 h).2.1, (rowSetNe (k := g7) (i := 7) (rowSetNe (k := g7) (i := 6) (rowSetNe (k := g7) (i := 5) (rowSetNe (k := g7) (i := 4) (rowSetNe (k := g7) (i := 3) (rowSetNe (k := g7) (i := 2) (rowSetNe (k := g7) (i := 1) (rowSetNe (k := g7) (i := 0) ((p11 h).2.2) (Ne.symm (Ne.symm (d67 h h1))) (.int .i64 ((cnf l) 0))) (Ne.symm (Ne.symm (d67 h h1))) (.int .i64 ((cnf l) 1))) (Ne.symm (Ne.symm (d67 h h1))) (.int .i64 ((cnf l) 2))) (Ne.symm (Ne.symm (d67 h h1))) (.int .i64 ((cnf l) 3))) (Ne.symm (Ne.symm (d67 h h1))) (.int .i64 ((cnf l) 4))) (Ne.symm (Ne.symm (d67 h h1))) (.int .i64 ((cnf l) 5))) (Ne.symm (Ne.symm (d67 h h1))) (.int .i64 ((cnf l) 6))) (Ne.symm (Ne.symm (d67 h h1))) (.int .i64 ((cnf l) 7)))⟩, q14, fun _ => ⟨rfl, hge, (rowSet (rowSet (rowSet (rowSet (rowSet (rowSet (rowSet (rowSet R 0 (.int .i64 ((cnf l) 0))) 1 (.int .i64 ((cnf l) 1))) 2 (.int .i64 ((cnf l) 2))) 3 (.int .i64 ((cnf l) 3))) 4 (.int .i64 ((cnf l) 4))) 5 (.int .i64 ((cnf l) 5))) 6 (.int .i64 ((cnf l) 6))) 7 (.int .i64 ((cnf l) 7)))⟩, fun _ => h1, d56, d57, d67, ((((((((hb.setCell (p := ⟨g7, 0, none⟩) hge (.int .i64 ((cnf l) 0))).setCell (p := ⟨g7, 1, none⟩) hge (.int .i64 ((cnf l) 1))).setCell (p := ⟨g7, 2, none⟩) hge (.int .i64 ((cnf l) 2))).setCell (p := ⟨g7, 3, none⟩) hge (.int .i64 ((cnf l) 3))).setCell (p := ⟨g7, 4, none⟩) hge (.int .i64 ((cnf l) 4))).setCell (p := ⟨g7, 5, none⟩) hge (.int .i64 ((cnf l) 5))).setCell (p := ⟨g7, 6, none⟩) hge (.int .i64 ((cnf l) 6))).setCell (p := ⟨g7, 7, none⟩) hge (.int .i64 ((cnf l) 7)))⟩
      · rintro listed a w1 ⟨b0, b1, b2, b3, b4, b5, b6, b7, b8, b9, b10, b11, b12, b13, b14, b15, v5, v6, v7, v34, v35, v36, v37, v38, v39, v40, v41, v42, v43, g5, g6, g7, rfl, rfl, i0, i1, i2, i3, i4, i5, i6, i7, i8, i9, p10, q13, p11, q14, p12, q15, d56, d57, d67, hb⟩ hr
        have hr' := List.filter_eq_nil_iff.1 hr
        clear hr
        have q : b0 = true := by
          have := hr' 0 (List.mem_range.2 (by decide))
          simpa [Region.binds] using this
        subst q
        have q : b1 = true := by
          have := hr' 1 (List.mem_range.2 (by decide))
          simpa [Region.binds] using this
        subst q
        have q : b2 = true := by
          have := hr' 2 (List.mem_range.2 (by decide))
          simpa [Region.binds] using this
        subst q
        have q : b3 = true := by
          have := hr' 3 (List.mem_range.2 (by decide))
          simpa [Region.binds] using this
        subst q
        have q : b4 = true := by
          have := hr' 4 (List.mem_range.2 (by decide))
          simpa [Region.binds] using this
        subst q
        have q : b5 = true := by
          have := hr' 5 (List.mem_range.2 (by decide))
          simpa [Region.binds] using this
        subst q
        have q : b6 = true := by
          have := hr' 6 (List.mem_range.2 (by decide))
          simpa [Region.binds] using this
        subst q
        have q : b7 = true := by
          have := hr' 7 (List.mem_range.2 (by decide))
          simpa [Region.binds] using this
        subst q
        have q : b8 = true := by
          have := hr' 8 (List.mem_range.2 (by decide))
          simpa [Region.binds] using this
        subst q
        have q : b9 = true := by
          have := hr' 9 (List.mem_range.2 (by decide))
          simpa [Region.binds] using this
        subst q
        have q : b10 = true := by
          have := hr' 10 (List.mem_range.2 (by decide))
          simpa [Region.binds] using this
        subst q
        have q : b11 = true := by
          have := hr' 11 (List.mem_range.2 (by decide))
          simpa [Region.binds] using this
        subst q
        have q : b12 = true := by
          have := hr' 12 (List.mem_range.2 (by decide))
          simpa [Region.binds] using this
        subst q
        have q : b13 = true := by
          have := hr' 13 (List.mem_range.2 (by decide))
          simpa [Region.binds] using this
        subst q
        have q : b14 = true := by
          have := hr' 14 (List.mem_range.2 (by decide))
          simpa [Region.binds] using this
        subst q
        have q : b15 = true := by
          have := hr' 15 (List.mem_range.2 (by decide))
          simpa [Region.binds] using this
        subst q
        clear hr' q13 q14 q15
        have e34 := i0 rfl
        have e35 := i1 rfl
        have e36 := i2 rfl
        have e37 := i3 rfl
        have e38 := i4 rfl
        have e39 := i5 rfl
        have e40 := i6 rfl
        have e41 := i7 rfl
        have e42 := i8 rfl
        have e43 := i9 rfl
        obtain ⟨e5, hg5, R5⟩ := p10 rfl
        obtain ⟨e6, hg6, R6⟩ := p11 rfl
        obtain ⟨e7, hg7, R7⟩ := p12 rfl
        rw [if_pos rfl] at R5 R6 R7
        subst e34 e35 e36 e37 e38 e39 e40 e41 e42 e43 e5 e6 e7
        clear i0 i1 i2 i3 i4 i5 i6 i7 i8 i9 p10 p11 p12 d56 d57 d67
        have HB3 := Lib.hid (below_then HB2.out HB2.out.size hb)
        have H5 := Lib.hid R5
        have H6 := Lib.hid R6
        have H7 := Lib.hid R7
        clear hb HB2 R5 R6 R7 hg5 hg6 hg7 hs1 hs2
        go_wp2_with fail
        go_loopw [8, 9] (fun s i wr => ∃ m : Nat, m ≤ 8 ∧ s = .int .i64 (csm l m) ∧ i = .int .i64 m ∧ wr.heap[g5]? = some (.cells (rowC (cnf (l.take k))) 44) ∧ wr.heap[g6]? = some (.cells (rowC (cnf (l.drop k))) 44) ∧ wr.heap[g7]? = some (.cells (rowC (cnf l)) 44) ∧ Below w.heap.size w wr) (fun _ i _ => 8 - (intOf i).toNat)
        case atStart => exact ⟨0, by omega, rfl, rfl, H5.out, H6.out, H7.out, HB3.out⟩
        case round =>
          obtain ⟨m, hm, rfl, rfl, hr5, hr6, hr7, hb⟩ := hrel
          have HB4 := Lib.hid hb
          clear hb
          by_cases hlt : m < 8
          · have c5 := row_cells hr5 m _ (rowC_get _ hlt)
            have c6 := row_cells hr6 m _ (rowC_get _ hlt)
            have c7 := row_cells hr7 m _ (rowC_get _ hlt)
            have hab := cn_cut l k m
            have hle1 := cn_le l m
            have hle2 := csm_le l m
            have hle3 : m * l.length ≤ 8 * l.length := Nat.mul_le_mul_right _ hm
            have hw : wrap64 (cnf (l.take k) m + cnf (l.drop k) m) = cnf l m := by rw [hab]; unfold cnf wrap64; omega
            have hw2 : wrap64 ((csm l m : Int) + cnf l m) = (csm l (m + 1) : Nat) := by unfold cnf wrap64; simp only [csm]; omega
            generalize cnf (l.take k) m = xa at c5 hw
            generalize cnf (l.drop k) m = xb at c6 hw
            generalize cnf l m = xc at c7 hw hw2
            have R5 := Lib.hid hr5
            have R6 := Lib.hid hr6
            have R7 := Lib.hid hr7
            clear hr5 hr6 hr7 hab hle1 hle2 hle3
            go_upto_region 10 with (fail)
            go_quiet (fail)
            go_wp2_with fail
            go_roundw
            case rel => exact ⟨m + 1, by omega, by go_num, by go_num, R5.out, R6.out, R7.out, below_drewN HB4.out _⟩
            case measure => simp [intOf]; omega
          · have he : m = 8 := by omega
            subst he
            have hs := csm_all l
            rw [hs]
            have HH := Lib.hid hs
            clear hs hr5 hr6 hr7
            go_wp2_with fail
            refine (example_any _).mono ?_
            rintro e w8 ⟨rfl, hb⟩
            have HB8 := Lib.hid (below_then HB4.out HB4.out.size hb)
            clear hb
            go_wp2_with fail
            go_ret
            exact ⟨rfl, HB8.out⟩
end Go.Proofs.Ytngdchahahabpaa
