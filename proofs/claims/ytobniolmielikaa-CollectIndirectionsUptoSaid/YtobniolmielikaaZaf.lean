/- Texts of the collector's proof, joined: Ref10, Ref11, Ref12, Scr1, Scr4, Col2. -/
import Derived.Test.YtobniolmielikaaZae
import Derived.Test.YtobniolmielikaaZac
/- The reference heap: sorted; no condition. -/
namespace Go.Proofs.Ytobniolmielikaa
open Go.RowKit

/-- A pair put among ascending pairs; all of them so. -/
def insP (l : List (Int × Ob)) (p : Int × Ob) : List (Int × Ob) := l.takeWhile (fun q => decide (q.1 < p.1)) ++ p :: l.dropWhile (fun q => decide (q.1 < p.1))
def srtI (l : List (Int × Ob)) : List (Int × Ob) := l.foldl insP []
theorem abs_mrg (l : List It) (x : It) : absI (mrg l x) = insP (absI l) (x.a, x.o) := by
  simp only [absI, mrg, insP, List.map_append, List.map_cons, List.takeWhile_map, List.dropWhile_map]
  rfl
theorem mrg_mem {l : List It} {x y : It} (h : y ∈ mrg l x) : y ∈ l ∨ y = x := by
  rcases List.mem_append.1 h with h | h
  · exact .inl ((List.takeWhile_sublist _).subset h)
  · rcases List.mem_cons.1 h with h | h
    · exact .inr h
    · exact .inl ((List.dropWhile_sublist _).subset h)
theorem fold_snoc {α β : Type} (f : β → α → β) (b : β) {l : List α} {k : Nat} {x : α} (h : l[k]? = some x) : (l.take (k + 1)).foldl f b = f ((l.take k).foldl f b) x := by
  rw [List.take_add_one, h, List.foldl_append]
  rfl
theorem ItAt.all {w : World} {b o : Nat} {x : It} (h : ItAt w b o x) : w.cell? ⟨b, o, none⟩ = some (.int .i64 x.a) ∧ w.cell? ⟨b, o + 1, none⟩ = some (.int .i64 x.o.op) ∧ w.cell? ⟨b, o + 2, none⟩ = some (.int .i64 x.o.n) ∧ w.cell? ⟨b, o + 3, none⟩ = some (.int .i64 x.o.ar) ∧
    w.cell? ⟨b, o + 4, none⟩ = some (.slice x.ra x.o.refs.length x.rc) ∧ w.cell? ⟨b, o + 5, none⟩ = some (.slice x.wa x.o.words.length x.wc) := ⟨h.c0, h.c1, h.c2, h.c3, h.c4, h.c5⟩

/-- Where sorted stands. -/
structure SrtAt (w : World) (l l' : List It) (k : Nat) (u : Value) (W : World) : Prop where
  own : Own w.heap.size W u l'
  abs : absI l' = ((absI l).take k).foldl insP []
  len : l'.length = k
  obs : ∀ x ∈ l', ObR 0 W x.val x.o
  bel : Below w.heap.size w W

theorem own_made0 (w : World) : Own w.heap.size (w.alloc (.cells #[] 97)) (.slice (some ⟨w.heap.size, 0, none⟩) 0 0) [] := by
  have := World.ownsRow_made w (base := w.heap.size) (e := 97) (size := 6) #[] 0 (by simp) (by simp [maxLen]) rfl
  exact this

set_option maxHeartbeats 2000000 in
theorem sorted_any (ok : Nat → Prop) (w : World) (v : Value) (l : List It) (h : Raw ok w v l) (ho : ∀ x ∈ l, ObAt (fun _ => True) w x.val x.o) :
    Calls Try.prog 87 #[v] w fun e w' => ∃ v' l', e = .returned v' ∧ Own w.heap.size w' v' l' ∧ absI l' = srtI (absI l) ∧ (∀ x ∈ l', ObR 0 w' x.val x.o) ∧ Below w.heap.size w w' := by
  obtain ⟨A, c, rfl⟩ := h.shape
  have hlen := h.len
  have H := Lib.hid h
  have HO := Lib.hid ho
  clear h ho
  go_enter Try.func87, Try.ntmps87
  go_wp2_with fail
  go_loopw [3, 4] (fun u i wr => ∃ (k : Nat) (l' : List It), k ≤ l.length ∧ i = .int .i64 k ∧ SrtAt w l l' k u wr) (fun _ i _ => l.length - (intOf i).toNat)
  case atStart => exact ⟨0, [], Nat.zero_le _, rfl, ⟨own_made0 w, rfl, rfl, (fun x hx => by cases hx), (Below.refl _ _).alloc (Nat.le_refl _) _⟩⟩
  case round =>
    obtain ⟨k, l', hk, rfl, hm⟩ := hrel
    by_cases hlt : k < l.length
    · have hx := List.getElem?_eq_getElem hlt
      generalize l[k] = x at hx
      have hsz := hm.bel.size
      have hl' := hm.len
      have hraw := hm.own.raw (by omega)
      have hox := HO.out x (List.mem_of_getElem? hx)
      obtain ⟨b, o, rfl, hat⟩ := (H.out.fresh hm.bel).at hx
      obtain ⟨B2, c2, rfl⟩ := hm.own.shape
      have hfold := fold_snoc insP [] (l := absI l) (k := k) (x := (x.a, x.o)) (by simp [absI, hx])
      have HF := Lib.hid hfold
      have HM := Lib.hid hm
      have HX := Lib.hid hx
      have HAT := Lib.hid hat
      have HR := Lib.hid hraw
      have HOX := Lib.hid (hox.fresh hm.bel)
      have i0 := (hat.keep (w' := wr.drew) rfl).all
      clear hm hx hat hraw hox hl' hfold
      go_upto_region 5 with (fail)
      go_region_held3 (fun w' => w'.cell? ⟨b, o + k * 6, none⟩ = some (.int .i64 x.a) ∧ w'.cell? ⟨b, o + k * 6 + 1, none⟩ = some (.int .i64 x.o.op) ∧ w'.cell? ⟨b, o + k * 6 + 2, none⟩ = some (.int .i64 x.o.n) ∧ w'.cell? ⟨b, o + k * 6 + 3, none⟩ = some (.int .i64 x.o.ar) ∧
          w'.cell? ⟨b, o + k * 6 + 4, none⟩ = some (.slice x.ra x.o.refs.length x.rc) ∧ w'.cell? ⟨b, o + k * 6 + 5, none⟩ = some (.slice x.wa x.o.words.length x.wc))
        (first | with_reducible exact i0 | with_reducible exact i1 | with_reducible exact i2)
        (first
          | (go_at_call 100; refine (rcopied_any _ _ x.o _ (HOX.out.fresh (Below.refl _ _).drew)).mono ?_; rintro e w5 ⟨v5, rfl, ho5, hb5⟩; obtain ⟨ra5, rc5, wa5, wc5, rfl⟩ := ho5.open; have HO5 := Lib.hid ho5; have HB5 := Lib.hid (undrew hb5); have i1 := (HAT.out.keep (w' := w5) ((undrew hb5).block b (World.block_lt_of_cell? wr ⟨b, o + k * 6, none⟩ HAT.out.c0))).all; clear ho5 hb5)
          | (go_at_call 98; refine (merge_any _ w5 _ l' ⟨x.a, x.o, ra5, rc5, wa5, wc5⟩ (HR.out.fresh HB5.out) (by have := HM.out.len; omega)).mono ?_; rintro e w6 ⟨v6, rfl, hown6, hb6⟩; have HOWN6 := Lib.hid hown6; have HB6 := Lib.hid hb6; have i2 := ((HAT.out.keep (w' := w5) (HB5.out.block b (World.block_lt_of_cell? wr ⟨b, o + k * 6, none⟩ HAT.out.c0))).keep (w' := w6) (hb6.block b (World.block_lt_of_cell? w5 ⟨b, o + k * 6, none⟩ i1.1))).all; clear hown6 hb6))
      clear i0 i1 i2
      rename_i hHeld
      clear hHeld
      go_wp2_with fail
      go_roundw
      case rel =>
        have z5 := HB5.out.size
        refine ⟨k + 1, mrg l' ⟨x.a, x.o, ra5, rc5, wa5, wc5⟩, by omega, by go_num, ⟨HOWN6.out.base (by omega), ?_, ?_, ?_, ?_⟩⟩
        · rw [abs_mrg, HM.out.abs, HF.out]
        · rw [mrg_length, HM.out.len]
        · intro y hy
          rcases mrg_mem hy with hy | rfl
          · exact ((HM.out.obs y hy).fresh HB5.out).fresh HB6.out
          · exact (HO5.out.base (Nat.zero_le _)).fresh HB6.out
        · exact below_then (below_then HM.out.bel HM.out.bel.size HB5.out) (by omega) HB6.out
      case measure => simp [intOf]; omega
    · have he : k = l.length := by omega
      subst he
      have habs := hm.abs
      rw [List.take_of_length_le (by simp [absI])] at habs
      have HM := Lib.hid hm
      have HAB := Lib.hid habs
      clear hm habs
      go_wp2_with fail
      go_ret
      exact ⟨_, l', rfl, HM.out.own, HAB.out, HM.out.obs, HM.out.bel⟩
end Go.Proofs.Ytobniolmielikaa

/- The reference heap: Clone; no condition. -/
namespace Go.Proofs.Ytobniolmielikaa
open Go.RowKit

theorem insP_length (l : List (Int × Ob)) (p : Int × Ob) : (insP l p).length = l.length + 1 := by
  have := congrArg List.length (List.takeWhile_append_dropWhile (p := fun q : Int × Ob => decide (q.1 < p.1)) (l := l))
  simp only [insP, List.length_append, List.length_cons] at this ⊢
  omega
theorem srtI_length (l : List (Int × Ob)) : (srtI l).length = l.length := by
  have go : ∀ (l m : List (Int × Ob)), (l.foldl insP m).length = m.length + l.length := by
    intro l
    induction l with
    | nil => intro m; simp
    | cons p r ih =>
      intro m
      have := ih (insP m p)
      rw [insP_length] at this
      simp only [List.foldl_cons, List.length_cons]
      omega
  have := go l []
  simpa [srtI] using this
theorem Own.apart {B : Nat} {w w' : World} {v v' : Value} {l l' : List It} (h : Own B w v l) (h' : Own w.heap.size w' v' l') : ∀ g, v.ownBlock = some g → v'.ownBlock ≠ some g := by
  intro g hg hg'
  have h1 := (h.lt g hg).2
  have h2 := (h'.lt g hg').1
  omega
/-- What Clone makes. -/
def HM.srt (H : HM) : HM := { H with ly := srtI H.ly, la := srtI H.la }

set_option maxHeartbeats 2000000 in
theorem rclone_any (base : Nat) (w : World) (r : Nat) (NV AV : Value) (R : RM) (hh : RHeapAt base w r NV AV R) (hbase : base ≤ w.heap.size) :
    Calls Try.prog 47 #[.pointer (some ⟨r, 0, none⟩)] w fun e w' => ∃ r' NV' AV' R', e = .returned (.pointer (some ⟨r', 0, none⟩)) ∧ RHeapAt base w' r' NV' AV' R' ∧ R'.abs = R.abs.srt ∧ w.heap.size ≤ r' ∧ Below w.heap.size w w' := by
  have hlt := hh.lt
  have HH := Lib.hid hh
  obtain ⟨A1, k1, rfl⟩ := hh.nown.shape
  obtain ⟨A2, k2, rfl⟩ := hh.aown.shape
  have i0 := (show RHeapAt base w.drew r _ _ R from hh.fresh (Below.refl _ _).drew).cells
  clear hh
  go_enter Try.func47, Try.ntmps47
  go_upto_region 1 with (fail)
  go_region_held3 (fun w' => w'.cell? ⟨r, 0, none⟩ = some (.int .i64 R.s0) ∧ w'.cell? ⟨r, 1, none⟩ = some (.int .i64 R.s1) ∧ w'.cell? ⟨r, 2, none⟩ = some (.slice A1 R.n.length k1) ∧ w'.cell? ⟨r, 3, none⟩ = some (.slice A2 R.a.length k2) ∧ w'.cell? ⟨r, 4, none⟩ = some (.int .i64 R.next))
    (first | with_reducible exact i0 | with_reducible exact i1 | with_reducible exact i2 | with_reducible exact i3 _)
    (first
      | (go_at_call_of 87 (Value.slice A1 R.n.length k1); refine (sorted_any _ _ _ R.n (HH.out.rawN.fresh (Below.refl _ _).drew) (fun x hx => ((HH.out.nok x hx).at.mono (fun _ _ _ => trivial)).fresh (Below.refl _ _).drew)).mono ?_; rintro e w5 ⟨v5, n', rfl, hown5, habs5, hob5, hb5⟩; obtain ⟨B5, c5, rfl⟩ := hown5.shape; have HB5 := Lib.hid (undrew hb5); have HOWN5 := Lib.hid hown5; have HABS5 := Lib.hid habs5; have HOB5 := Lib.hid hob5; have HH5 := Lib.hid (HH.out.fresh (undrew hb5)); have i1 := HH5.out.cells; clear hown5 habs5 hob5 hb5)
      | (go_at_call 87; refine (sorted_any _ _ _ R.a HH5.out.rawA (fun x hx => (HH5.out.aok x hx).at.mono (fun _ _ _ => trivial))).mono ?_; rintro e w6 ⟨v6, a', rfl, hown6, habs6, hob6, hb6⟩; obtain ⟨B6, c6, rfl⟩ := hown6.shape; have HB6 := Lib.hid hb6; have HOWN6 := Lib.hid hown6; have HABS6 := Lib.hid habs6; have HOB6 := Lib.hid hob6; have HH6 := Lib.hid (HH5.out.fresh hb6); have i2 := HH6.out.cells; have i3 := fun o => (HH6.out.fresh ((Below.refl _ _).alloc (Nat.le_refl _) o)).cells; clear hown6 habs6 hob6 hb6))
  clear i0 i1 i2 i3
  rename_i hHeld
  clear hHeld
  go_wp2_with fail
  go_ret
  have z5 := HB5.out.size
  have z6 := HB6.out.size
  have ln : n'.length = R.n.length := by
    have := congrArg List.length HABS5.out
    simpa [absI_length, srtI_length] using this
  have la : a'.length = R.a.length := by
    have := congrArg List.length HABS6.out
    simpa [absI_length, srtI_length] using this
  have bz : Below w6.heap.size w6 (w6.alloc (.cells #[.int .i64 R.s0, .int .i64 R.s1, .slice B5 n'.length c5, .slice B6 a'.length c6, .int .i64 R.next] 92)) := (Below.refl _ _).alloc (Nat.le_refl _) _
  refine ⟨w6.heap.size, _, _, ⟨R.s0, R.s1, R.next, n', a'⟩, rfl, ⟨new0 _ _, ((HOWN5.out.fresh HB6.out).fresh bz).base ?_, (HOWN6.out.fresh bz).base (by omega), ?_, ?_, ?_, ?_, ?_⟩, ?_, by omega, ?_⟩
  · simpa using hbase
  · exact HOWN5.out.apart HOWN6.out
  · exact fun x hx => ((HOB5.out x hx).fresh HB6.out).fresh bz
  · exact fun x hx => (HOB6.out x hx).fresh bz
  · rw [ln]; exact HH.out.nsmall
  · rw [la]; exact HH.out.asmall
  · simp [RM.abs, HM.srt, HABS5.out, HABS6.out]
  · exact below_then (below_then HB5.out HB5.out.size HB6.out) (by omega) bz
end Go.Proofs.Ytobniolmielikaa

/- The reference heap: Put; no condition. -/
namespace Go.Proofs.Ytobniolmielikaa
open Go.RowKit

theorem RHeapAt.putN {base : Nat} {w : World} {r : Nat} {NV AV N' : Value} {R : RM} {n' : List It} (h : RHeapAt base w r NV AV R) (hown : Own base w N' n') (hap : ∀ g, N'.ownBlock = some g → AV.ownBlock ≠ some g) (hob : ∀ x ∈ n', ObR 0 w x.val x.o) (hs : n'.length ≤ 65536) :
    RHeapAt base (w.setCell ⟨r, 2, none⟩ N') r N' AV { R with n := n' } := by
  have ht : Turn (· = r) w (w.setCell ⟨r, 2, none⟩ N') := (Turn.refl (· = r) w).setCell (p := ⟨r, 2, none⟩) rfl _
  have hn : ∀ k, IsRow 3 w k → ¬ k = r := by
    rintro k hk rfl
    cases hk.two ⟨_, _, h.row⟩
  have hr : ∀ k, IsRow 97 w k → k ≠ r := by
    rintro k hk rfl
    cases hk.two ⟨_, _, h.row⟩
  exact ⟨rowSet h.row 2 _, hown.kept fun g hg => Below.heap_setCell _ _ _ _ (hr g (hown.row hg).2), h.aown.kept fun g hg => Below.heap_setCell _ _ _ _ (hr g (h.aown.row hg).2), hap,
    fun y hy => (hob y hy).turn ht (fun k _ hk => hn k hk), fun y hy => (h.aok y hy).turn ht (fun k _ hk => hn k hk), hs, h.asmall⟩
theorem RHeapAt.putA {base : Nat} {w : World} {r : Nat} {NV AV A' : Value} {R : RM} {a' : List It} (h : RHeapAt base w r NV AV R) (hown : Own base w A' a') (hap : ∀ g, NV.ownBlock = some g → A'.ownBlock ≠ some g) (hob : ∀ x ∈ a', ObR 0 w x.val x.o) (hs : a'.length ≤ 65536) :
    RHeapAt base (w.setCell ⟨r, 3, none⟩ A') r NV A' { R with a := a' } := by
  have ht : Turn (· = r) w (w.setCell ⟨r, 3, none⟩ A') := (Turn.refl (· = r) w).setCell (p := ⟨r, 3, none⟩) rfl _
  have hn : ∀ k, IsRow 3 w k → ¬ k = r := by
    rintro k hk rfl
    cases hk.two ⟨_, _, h.row⟩
  have hr : ∀ k, IsRow 97 w k → k ≠ r := by
    rintro k hk rfl
    cases hk.two ⟨_, _, h.row⟩
  exact ⟨rowSet h.row 3 _, h.nown.kept fun g hg => Below.heap_setCell _ _ _ _ (hr g (h.nown.row hg).2), hown.kept fun g hg => Below.heap_setCell _ _ _ _ (hr g (hown.row hg).2), hap,
    fun y hy => (h.nok y hy).turn ht (fun k _ hk => hn k hk), fun y hy => (hob y hy).turn ht (fun k _ hk => hn k hk), h.nsmall, hs⟩

theorem RHeapAt.drew {base : Nat} {w : World} {r : Nat} {NV AV : Value} {R : RM} (h : RHeapAt base w r NV AV R) : RHeapAt base w.drew r NV AV R := h.fresh (Below.refl _ _).drew

/-- Whether the item at j may be put. -/
def goodAt (l1 l2 : List It) (j : Nat) : Prop := ∀ x, (l1 ++ l2)[j]? = some x → fit1 (x.a, x.o) = true ∧ (j < l1.length → Go.Proofs.Ytobniolmielikaa.get (keyed l2) x.a = none)
theorem repl_good {H : HM} {l1 l2 : List It} (h : ∀ j, goodAt l1 l2 j) : H.repl (absI l1) (absI l2) = if H.nur < l1.length ∨ H.eld < l2.length then 33 else 0 := by
  have f1 : fitB (absI l1) = true := by
    refine List.all_eq_true.2 fun p hp => ?_
    obtain ⟨x, hx, rfl⟩ := List.mem_map.1 hp
    obtain ⟨j, hj⟩ := List.getElem?_of_mem hx
    exact (h j x (by rw [List.getElem?_append_left (List.getElem?_eq_some_iff.1 hj).1]; exact hj)).1
  have f2 : fitB (absI l2) = true := by
    refine List.all_eq_true.2 fun p hp => ?_
    obtain ⟨x, hx, rfl⟩ := List.mem_map.1 hp
    obtain ⟨j, hj⟩ := List.getElem?_of_mem hx
    exact (h (l1.length + j) x (by rw [List.getElem?_append_right (by omega), Nat.add_sub_cancel_left]; exact hj)).1
  have f3 : meets (absI l1) (absI l2) = false := by
    refine List.any_eq_false.2 fun p hp => ?_
    obtain ⟨x, hx, rfl⟩ := List.mem_map.1 hp
    obtain ⟨j, hj⟩ := List.getElem?_of_mem hx
    have hjl := (List.getElem?_eq_some_iff.1 hj).1
    have := (h j x (by rw [List.getElem?_append_left hjl]; exact hj)).2 hjl
    simp [get_abs, this]
  simp [HM.repl, f1, f2, f3, absI_length]
theorem repl_bad {H : HM} {l1 l2 : List It} {j : Nat} {x : It} (hx : (l1 ++ l2)[j]? = some x) (h : fit1 (x.a, x.o) = false) : H.repl (absI l1) (absI l2) = 1 := by
  rcases List.mem_append.1 (List.mem_of_getElem? hx) with hm | hm
  · have := fitB_no (List.mem_map_of_mem (f := fun x : It => (x.a, x.o)) hm) h
    simp [HM.repl, absI, this]
  · have := fitB_no (List.mem_map_of_mem (f := fun x : It => (x.a, x.o)) hm) h
    simp [HM.repl, absI, this]
theorem repl_meet {H : HM} {l1 l2 : List It} {j : Nat} {x y : It} (hx : (l1 ++ l2)[j]? = some x) (hj : j < l1.length) (h : Go.Proofs.Ytobniolmielikaa.get (keyed l2) x.a = some y) : H.repl (absI l1) (absI l2) = 1 := by
  rw [List.getElem?_append_left hj] at hx
  have : meets (absI l1) (absI l2) = true := List.any_eq_true.2 ⟨(x.a, x.o), List.mem_map_of_mem (f := fun x : It => (x.a, x.o)) (List.mem_of_getElem? hx), by simp [get_abs, h]⟩
  simp [HM.repl, this]

/-- What is known behind Put. -/
structure RPut (H : HM) (m1 m2 : List (Int × Ob)) (H' : HM) : Prop where
  no : H.repl m1 m2 ≠ 0 → H' = H
  yes : H.repl m1 m2 = 0 → H' = ⟨H.nur, H.eld, max H.next (nxt (m1 ++ m2)), srtI m1, srtI m2⟩

set_option maxHeartbeats 4000000 in
theorem rput_any (base : Nat) (ok : Nat → Prop) (w : World) (r : Nat) (NV AV v1 v2 : Value) (R : RM) (l1 l2 : List It) (hh : RHeapAt base w r NV AV R) (hbase : base ≤ w.heap.size) (hs0 : R.s0 ≤ 65536) (hs1 : R.s1 ≤ 65536) (hnx : 0 ≤ R.next)
    (h1 : Raw ok w v1 l1) (h2 : Raw ok w v2 l2) (hlen : (l1.length + l2.length) * 80 ≤ 140737488355328) (ho : ∀ x ∈ l1 ++ l2, ObAt ok w x.val x.o) (hok : ∀ b, ok b → b ≠ r) :
    Calls Try.prog 82 #[.pointer (some ⟨r, 0, none⟩), v1, v2] w fun e w' => e = .returned (.int .i64 (R.abs.repl (absI l1) (absI l2))) ∧
      ∃ NV' AV' R', RHeapAt base w' r NV' AV' R' ∧ RPut R.abs (absI l1) (absI l2) R'.abs ∧ Turn (RB r NV AV) w w' := by
  have hlt := hh.lt
  obtain ⟨A1, k1, rfl⟩ := h1.shape
  obtain ⟨A2, k2, rfl⟩ := h2.shape
  have HH := Lib.hid hh
  have H1 := Lib.hid h1
  have H2 := Lib.hid h2
  have HO := Lib.hid ho
  have OK := Lib.hid hok
  have NO := Lib.hid (show ∀ w', Below w.heap.size w w' → R.abs.repl (absI l1) (absI l2) ≠ 0 → ∃ NV' AV' R', RHeapAt base w' r NV' AV' R' ∧ RPut R.abs (absI l1) (absI l2) R'.abs ∧ Turn (RB r NV AV) w w' from
    fun w' hb hne => ⟨NV, AV, R, HH.out.fresh hb, ⟨fun _ => rfl, fun e => absurd e hne⟩, below_turn hb _⟩)
  clear hh h1 h2 ho hok
  go_enter Try.func82, Try.ntmps82
  go_upto_region 2 with (first
    | (at_builtin; refine wpList_append_it _ rfl (.tmp 10) (.tmp 11) rfl w.heap.size _ [] rfl (own_made0 w) ok _ l1 rfl (H1.out.fresh ((Below.refl _ _).alloc (Nat.le_refl _) _)) (by simp; omega) (szA _ _) ?_; intro v3 w3 hown hg; have HO3 := Lib.hid hown; have B3 := Lib.hid (((Below.refl w.heap.size w).alloc (Nat.le_refl _) (.cells #[] 97)).grown hg (szA _ _) (fun q hq => by cases hq; exact Nat.le_refl _)); clear hown hg)
    | (at_builtin; refine wpList_append_it _ rfl (.tmp 12) (.tmp 13) rfl w.heap.size _ l1 rfl HO3.out ok _ l2 rfl (H2.out.fresh B3.out) hlen B3.out.size ?_; intro v4 w4 hown hg; have HO4 := Lib.hid hown; have B4 := Lib.hid (B3.out.grown hg B3.out.size (fun q hq => (HO3.out.lt q hq).1)); clear hown hg))
  obtain ⟨A4, k4, rfl⟩ := HO4.out.shape
  have hll : (l1 ++ l2).length = l1.length + l2.length := List.length_append
  have HLL := Lib.hid hll
  rw [hll]
  clear hll
  go_wp2_with fail
  go_loopw [8] (fun i wr => ∃ k : Nat, k ≤ l1.length + l2.length ∧ i = .int .i64 k ∧ (∀ j, j < k → goodAt l1 l2 j) ∧ Below w4.heap.size w4 wr) (fun i _ => l1.length + l2.length - (intOf i).toNat)
  case atStart => exact ⟨0, Nat.zero_le _, rfl, fun j hj => by omega, Below.refl _ _⟩
  case round =>
    obtain ⟨k, hk, rfl, hgood, hb⟩ := hrel
    have HG := Lib.hid hgood
    have HB := Lib.hid hb
    have HBW := Lib.hid (below_then B4.out B4.out.size hb)
    have HR := Lib.hid ((HO4.out.raw (by rw [HLL.out]; exact hlen)).fresh hb)
    clear hgood hb
    by_cases hlt : k < l1.length + l2.length
    · obtain ⟨x, hx⟩ : ∃ x, (l1 ++ l2)[k]? = some x := ⟨_, List.getElem?_eq_getElem (by rw [HLL.out]; exact hlt)⟩
      have hox := HO.out x (List.mem_of_getElem? hx)
      obtain ⟨b, o, rfl, hat⟩ := HR.out.at hx
      have HX := Lib.hid hx
      have HAT := Lib.hid hat
      have HOX := Lib.hid (hox.fresh HBW.out)
      have hbl := World.block_lt_of_cell? wr ⟨b, o + k * 6, none⟩ hat.c0
      obtain ⟨d0, d1, d2, d3, d4, d5⟩ := hat
      clear hx hox
      go_wp2_with fail
      refine (refValid_any ok _ x.o _ HOX.out).mono ?_
      rintro e w5 ⟨rfl, hb5⟩
      have HB5 := Lib.hid (below_then HBW.out HBW.out.size hb5)
      have HB5a := Lib.hid (below_then HB.out HB.out.size hb5)
      have hc0 := (HAT.out.keep (w' := w5) (hb5.block b hbl)).c0
      clear d0 d1 d2 d3 d4 d5 hb5
      by_cases hv : vld x.o = true
      · rw [hv]
        have HV := Lib.hid hv
        clear hv
        by_cases c1 : x.a < 0
        · have HF := Lib.hid (repl_bad (H := R.abs) HX.out (show fit1 (x.a, x.o) = false by simp [fit1]; omega))
          go_wp2_with fail
          go_ret
          exact ⟨by rw [HF.out]; rfl, NO.out _ HB5.out (by rw [HF.out]; decide)⟩
        · by_cases c2 : 4611686018427387904 ≤ x.a
          · have HF := Lib.hid (repl_bad (H := R.abs) HX.out (show fit1 (x.a, x.o) = false by simp [fit1]; omega))
            go_wp2_with fail
            go_ret
            exact ⟨by rw [HF.out]; rfl, NO.out _ HB5.out (by rw [HF.out]; decide)⟩
          · have HFIT := Lib.hid (show fit1 (x.a, x.o) = true by simp [fit1, HV.out]; omega)
            by_cases c3 : k < l1.length
            · go_wp2_with fail
              refine (find_any ok w5 _ l2 x.a (H2.out.fresh HB5.out)).mono ?_
              rintro e w6 ⟨rfl, rfl⟩
              rcases fnd_cases l2 x.a with ⟨q, y, g1, -, g3, -⟩ | ⟨g1, g3⟩
              · rw [g1]
                have HF := Lib.hid (repl_meet (H := R.abs) HX.out c3 g3)
                clear g1 g3
                go_wp2_with fail
                go_ret
                exact ⟨by rw [HF.out]; rfl, NO.out _ HB5.out (by rw [HF.out]; decide)⟩
              · rw [g1]
                have G3 := Lib.hid g3
                clear g1 g3
                go_wp2_with fail
                go_roundw
                case rel =>
                  refine ⟨k + 1, by omega, by go_num, ?_, HB5a.out⟩
                  intro j hj
                  by_cases hjk : j = k
                  · subst hjk
                    intro z hz
                    rw [HX.out] at hz
                    cases hz
                    exact ⟨HFIT.out, fun _ => G3.out⟩
                  · exact HG.out j (by omega)
                case measure => simp [intOf]; omega
            · go_wp2_with fail
              go_roundw
              case rel =>
                refine ⟨k + 1, by omega, by go_num, ?_, HB5a.out⟩
                intro j hj
                by_cases hjk : j = k
                · subst hjk
                  intro z hz
                  rw [HX.out] at hz
                  cases hz
                  exact ⟨HFIT.out, fun h => by omega⟩
                · exact HG.out j (by omega)
              case measure => simp [intOf]; omega
      · have hv : vld x.o = false := by simpa using hv
        have HF := Lib.hid (repl_bad (H := R.abs) HX.out (show fit1 (x.a, x.o) = false by simp [fit1, hv]))
        rw [hv]
        clear hv
        go_wp2_with fail
        go_ret
        exact ⟨by rw [HF.out]; rfl, NO.out _ HB5.out (by rw [HF.out]; decide)⟩
    · have he : k = l1.length + l2.length := by omega
      have hall : ∀ j, goodAt l1 l2 j := by
        intro j
        by_cases hj : j < k
        · exact HG.out j hj
        · intro x hx
          have := (List.getElem?_eq_some_iff.1 hx).1
          rw [HLL.out] at this
          omega
      have HALL := Lib.hid hall
      have HRE := Lib.hid (repl_good (H := R.abs) hall)
      have hh := HH.out.fresh HBW.out
      have HH1 := Lib.hid hh
      obtain ⟨c0, c1, -, -, -⟩ := hh.cells
      clear hh hall he
      by_cases t1 : R.s0 < l1.length
      · have HF := Lib.hid (HRE.out.trans (if_pos (.inl (show R.abs.nur < l1.length from t1))))
        go_wp2_with fail
        go_ret
        exact ⟨by rw [HF.out]; rfl, NO.out _ HBW.out (by rw [HF.out]; decide)⟩
      by_cases t2 : R.s1 < l2.length
      · have HF := Lib.hid (HRE.out.trans (if_pos (.inr (show R.abs.eld < l2.length from t2))))
        go_wp2_with fail
        go_ret
        exact ⟨by rw [HF.out]; rfl, NO.out _ HBW.out (by rw [HF.out]; decide)⟩
      have HF := Lib.hid (HRE.out.trans (if_neg (show ¬ (R.abs.nur < l1.length ∨ R.abs.eld < l2.length) from fun h => h.elim t1 t2)))
      go_wp2_with fail
      refine (sorted_any ok wr _ l1 (H1.out.fresh HBW.out) (fun x hx => ((HO.out x (List.mem_append_left _ hx)).fresh HBW.out).mono (fun _ _ _ => trivial))).mono ?_
      rintro e w5 ⟨NX, n', rfl, hown5, habs5, hob5, hb5⟩
      obtain ⟨N1, M1, rfl⟩ := hown5.shape
      have ln : n'.length = l1.length := by
        have := congrArg List.length habs5
        simpa [absI_length, srtI_length] using this
      have z5 := HBW.out.size
      have p5 := (HH1.out.fresh hb5).putN (hown5.base (by omega)) (fun g hg hg' => HH1.out.aown.apart hown5 g hg' hg) hob5 (by omega)
      have P5 := Lib.hid p5
      have HBW5 := Lib.hid (below_then HBW.out HBW.out.size hb5)
      have f5 := freeH (HH1.out.fresh hb5).row
      obtain ⟨-, -, e2, -, -⟩ := (HH1.out.fresh hb5).cells
      have HABS5 := Lib.hid habs5
      have all5 := ((HO4.out.fresh HB.out).fresh hb5).kept (w' := w5.setCell ⟨r, 2, none⟩ (.slice N1 n'.length M1)) (fun g hg => Below.heap_setCell _ _ _ _ (fun e => by
        have h97 := (((HO4.out.fresh HB.out).fresh hb5).row hg).2
        rw [show g = r from e] at h97
        cases h97.two ⟨_, _, (HH1.out.fresh hb5).row⟩))
      have ALL5 := Lib.hid all5
      have LN := Lib.hid ln
      have hap := (show Own base (w5.setCell ⟨r, 2, none⟩ (.slice N1 n'.length M1)) (.slice N1 n'.length M1) n' from p5.nown)
      have HAP := Lib.hid hap
      clear p5 hown5 habs5 hob5 hb5 all5 ln hap c0 c1
      go_wp2_with fail
      have tr := (Turn.refl (· = r) w5).setCell (p := ⟨r, 2, none⟩) rfl (.slice N1 n'.length M1)
      refine (sorted_any ok _ _ l2 ((H2.out.fresh HBW5.out).turn tr (fun b hb => OK.out b hb)) (fun x hx => (((HO.out x (List.mem_append_right _ hx)).fresh HBW5.out).turn tr (fun b hb => OK.out b hb)).mono (fun _ _ _ => trivial))).mono ?_
      rintro e w6 ⟨AX, a', rfl, hown6, habs6, hob6, hb6⟩
      obtain ⟨Q1, P1, rfl⟩ := hown6.shape
      have la : a'.length = l2.length := by
        have := congrArg List.length habs6
        simpa [absI_length, srtI_length] using this
      have z6 := HBW5.out.size
      have p6 := (P5.out.fresh hb6).putA (hown6.base (by simp; omega)) (HAP.out.apart hown6) hob6 (by omega)
      have P6 := Lib.hid p6
      have f6 := freeH (P5.out.fresh hb6).row
      obtain ⟨-, -, -, e3, -⟩ := (P5.out.fresh hb6).cells
      have HABS6 := Lib.hid habs6
      have all6 := (ALL5.out.fresh hb6).kept (w' := w6.setCell ⟨r, 3, none⟩ (.slice Q1 a'.length P1)) (fun g hg => Below.heap_setCell _ _ _ _ (fun e => by
        have h97 := ((ALL5.out.fresh hb6).row hg).2
        rw [show g = r from e] at h97
        cases h97.two ⟨_, _, (P5.out.fresh hb6).row⟩))
      have ALL6 := Lib.hid all6
      have T6 := Lib.hid (((((below_turn HBW5.out (RB r NV AV)).setCell (p := ⟨r, 2, none⟩) (.inl rfl) (.slice N1 n'.length M1)).then hb6).setCell (p := ⟨r, 3, none⟩) (.inl rfl) (.slice Q1 a'.length P1)))
      clear p6 hown6 habs6 hob6 hb6 all6 tr f5 e2 la
      go_wp2_with fail
      clear f6 e3
      generalize w6.setCell ⟨r, 3, none⟩ (.slice Q1 a'.length P1) = w7 at P6 ALL6 T6 ⊢
      go_loopw [9] (fun i W => ∃ (k : Nat) (nx : Int), k ≤ l1.length + l2.length ∧ i = .int .i64 k ∧ RHeapAt base W r (.slice N1 n'.length M1) (.slice Q1 a'.length P1) ⟨R.s0, R.s1, nx, n', a'⟩ ∧ nx = max R.next (nxt (absI ((l1 ++ l2).take k))) ∧ Own w.heap.size W (.slice A4 (l1.length + l2.length) k4) (l1 ++ l2) ∧ Turn (RB r NV AV) w W) (fun i _ => l1.length + l2.length - (intOf i).toNat)
      case atStart => exact ⟨0, R.next, Nat.zero_le _, rfl, P6.out, by simp [absI, nxt]; omega, (by have := ALL6.out; rw [HLL.out] at this; exact this), T6.out⟩
      case round =>
        obtain ⟨k, nx, hk, rfl, hp, hnxe, hal, ht⟩ := hrel
        have HP := Lib.hid hp
        have HNX := Lib.hid hnxe
        have HAL := Lib.hid hal
        have HT := Lib.hid ht
        have hnx0 : R.next ≤ nx := by rw [hnxe]; omega
        obtain ⟨-, -, -, -, c4⟩ := hp.cells
        have f4 := freeH hp.row
        clear hnxe ht
        by_cases hlt : k < l1.length + l2.length
        · obtain ⟨x, hx⟩ : ∃ x, (l1 ++ l2)[k]? = some x := ⟨_, List.getElem?_eq_getElem (by rw [HLL.out]; exact hlt)⟩
          obtain ⟨b, o, rfl, hat⟩ := (hal.raw (by rw [HLL.out]; exact hlen)).at hx
          have hfit := (HALL.out k x hx).1
          simp [fit1] at hfit
          obtain ⟨⟨hf1, hf2⟩, -⟩ := hfit
          have c0 := hat.c0
          have hw : wrap64 (x.a + 1) = x.a + 1 := by unfold wrap64; omega
          have HX := Lib.hid hx
          clear hx hat hp hal
          go_upto_region 14 with (fail)
          go_region_with (fail)
          all_goals go_wp2_with fail
          all_goals
            (go_roundw
             case rel =>
               refine ⟨k + 1, _, by omega, by go_num, HP.out.drew.setNext _, ?_, HAL.out.kept (fun g hg => Below.heap_setCell _ _ _ _ (fun e => ?_)), HT.out.drew.setCell (.inl rfl) _⟩
               · have h1 : absI ((l1 ++ l2).take (k + 1)) = absI ((l1 ++ l2).take k) ++ [(x.a, x.o)] := by rw [take_snoc HX.out]; simp [absI]
                 rw [h1, nxt_snoc]
                 have h2 := HNX.out
                 omega
               · have h97 := (HAL.out.row hg).2
                 rw [show g = r from e] at h97
                 cases h97.two ⟨_, _, HP.out.row⟩
             case measure => simp [intOf]; omega)
        · have he : k = l1.length + l2.length := by omega
          have hfin : nx = max R.next (nxt (absI l1 ++ absI l2)) := by
            have h2 := HNX.out
            rw [he, List.take_of_length_le (by rw [HLL.out]; omega)] at h2
            rw [h2]
            simp [absI]
          have HFIN := Lib.hid hfin
          clear hp hal he hfin
          go_wp2_with fail
          go_ret
          refine ⟨by rw [HF.out]; rfl, _, _, _, HP.out, ⟨fun e => absurd HF.out e, fun _ => ?_⟩, HT.out⟩
          simp [RM.abs, HABS5.out, HABS6.out, HFIN.out]
end Go.Proofs.Ytobniolmielikaa

/- The law's helpers items and distinct; no condition. -/
namespace Go.Proofs.Ytobniolmielikaa
open Go.RowKit

/-- Where items stands. -/
structure ItmAt (ok : Nat → Prop) (w : World) (l : List It) (k : Nat) (W : World) : Prop where
  map : ObjMapO ok W w.heap.size (absI (l.take k))
  bel : Below w.heap.size w W

set_option maxHeartbeats 1000000 in
theorem items_any (ok : Nat → Prop) (w : World) (v : Value) (l : List It) (h : Raw ok w v l) (hd : (l.map (·.a)).Nodup) (ho : ∀ x ∈ l, ObAt ok w x.val x.o) (hok : ∀ k, ok k → k < w.heap.size) :
    Calls Try.prog 95 #[v] w fun e w' => ∃ b, e = .returned (.map (some b)) ∧ ObjMapO ok w' b (absI l) ∧ w.heap.size ≤ b ∧ Below w.heap.size w w' := by
  obtain ⟨A, c, rfl⟩ := h.shape
  have hlen := h.len
  have H := Lib.hid h
  have HO := Lib.hid ho
  have HD := Lib.hid hd
  have OK := Lib.hid hok
  clear h ho hd hok
  have hmm := @run_makeMap Try.prog
  go_enter Try.func95, Try.ntmps95
  go_wp2_with fail
  go_loopw [4] (fun i wr => ∃ k : Nat, k ≤ l.length ∧ i = .int .i64 k ∧ ItmAt ok w l k wr) (fun i _ => l.length - (intOf i).toNat)
  case atStart => exact ⟨0, Nat.zero_le _, rfl, ⟨⟨[], MapAt.made w, .nil⟩, (Below.refl _ _).alloc (Nat.le_refl _) _⟩⟩
  case round =>
    obtain ⟨k, hk, rfl, hm⟩ := hrel
    by_cases hlt : k < l.length
    · have hx := List.getElem?_eq_getElem hlt
      generalize l[k] = x at hx
      have hox := HO.out x (List.mem_of_getElem? hx)
      obtain ⟨b, o, rfl, hat⟩ := (H.out.fresh hm.bel).at hx
      have hnew : x.a ∉ (absI (l.take k)).map (·.1) := by
        intro hin
        simp only [absI, List.map_map, List.mem_map] at hin
        obtain ⟨y, hy, e⟩ := hin
        obtain ⟨j, hj⟩ := List.getElem?_of_mem hy
        rw [List.getElem?_take] at hj
        split at hj
        · rename_i hjk
          have hp := List.pairwise_iff_getElem.1 HD.out
          have hjl := (List.getElem?_eq_some_iff.1 hj).1
          refine hp j k (by simpa using hjl) (by simpa using hlt) hjk ?_
          have e1 := (List.getElem?_eq_some_iff.1 hj).2
          have e2 := (List.getElem?_eq_some_iff.1 hx).2
          simp only [List.getElem_map, e1, e2]
          exact e
        · cases hj
      have HM := Lib.hid hm
      have HX := Lib.hid hx
      have HNEW := Lib.hid hnew
      have HOX := Lib.hid (hox.fresh hm.bel)
      have i0 := (hat.keep (w' := wr.drew) rfl).all
      obtain ⟨L, hma, hka⟩ := hm.map
      have HMA := Lib.hid hma
      have HKA := Lib.hid hka
      have bne : b < w.heap.size ∨ w.heap.size ≤ b := by omega
      have hbw : b ≠ w.heap.size := by
        rintro rfl
        obtain ⟨es, cl, hes, _⟩ := hma
        have := hat.c0
        simp [World.cell?, hes] at this
      have i1 : ∀ w' : World, Turn (· = w.heap.size) wr.drew w' → _ := fun w' ht => (hat.keep (w' := w') ((ht.block b (World.block_lt_of_cell? wr ⟨b, o + k * 6, none⟩ hat.c0) hbw))).all
      obtain ⟨w6, hrun, hm6, ht6, hs6⟩ := run_update_map (P := Try.prog) (t := 52) (k := 3) (e := 25) Try.underlying52 Try.underlying3 hma.drew x.a (.agg #[.int .i64 x.o.op, .int .i64 x.o.n, .int .i64 x.o.ar, .slice x.ra x.o.refs.length x.rc, .slice x.wa x.o.words.length x.wc])
      have i2 := i1 w6 ht6
      have HM6 := Lib.hid hm6
      have HT6 := Lib.hid ht6
      have HS6 := Lib.hid hs6
      clear hm hx hat hox hnew hma hka i1 bne hm6 ht6 hs6
      go_upto_region 5 with (fail)
      go_region_held3 (fun w' => w'.cell? ⟨b, o + k * 6, none⟩ = some (.int .i64 x.a) ∧ w'.cell? ⟨b, o + k * 6 + 1, none⟩ = some (.int .i64 x.o.op) ∧ w'.cell? ⟨b, o + k * 6 + 2, none⟩ = some (.int .i64 x.o.n) ∧ w'.cell? ⟨b, o + k * 6 + 3, none⟩ = some (.int .i64 x.o.ar) ∧
          w'.cell? ⟨b, o + k * 6 + 4, none⟩ = some (.slice x.ra x.o.refs.length x.rc) ∧ w'.cell? ⟨b, o + k * 6 + 5, none⟩ = some (.slice x.wa x.o.words.length x.wc))
        (first | with_reducible exact i0 | with_reducible exact i2)
        (first | fail)
      clear i0 i2 hrun
      rename_i hHeld
      clear hHeld
      go_wp2_with fail
      go_roundw
      case rel =>
        have hnL : x.a ∉ L.map (·.1) := by rw [HKA.out.keys]; exact HNEW.out
        have hm := HM6.out
        rw [put_new hnL] at hm
        have hb := HM.out.bel
        refine ⟨k + 1, by omega, by go_num, ⟨⟨_, hm, ?_⟩, (HM.out.bel.drew).trans (HT6.out.below (by have := hb.size; simpa using this) (fun q e => by omega))⟩⟩
        rw [take_snoc HX.out]
        simp only [absI, List.map_append, List.map_cons, List.map_nil]
        have hno : ∀ q, ok q → ¬ q = w.heap.size := fun q hq e => by have := OK.out q hq; omega
        exact forall2_append (HKA.out.imp fun p q g => (g.fresh (Below.refl _ _).drew).turn HT6.out hno) (.cons ⟨rfl, (HOX.out.fresh (Below.refl _ _).drew).turn HT6.out hno⟩ .nil)
      case measure => simp [intOf]; omega
    · have he : k = l.length := by omega
      have hmp := hm.map
      rw [he, List.take_length] at hmp
      have HMP := Lib.hid hmp
      have HB := Lib.hid hm.bel
      clear he hmp hm
      go_wp2_with fail
      go_ret
      exact ⟨_, rfl, HMP.out, Nat.le_refl _, HB.out⟩
end Go.Proofs.Ytobniolmielikaa

/- The two heaps side by side, as lists: no program in sight; no condition. -/
namespace Go.Proofs.Ytobniolmielikaa
open Go.RowKit

/-- Ascending keys. -/
def Asc (l : List (Int × Ob)) : Prop := l.Pairwise fun p q => p.1 < q.1
theorem Asc.nodup {l : List (Int × Ob)} (h : Asc l) : (l.map (·.1)).Nodup := by
  unfold List.Nodup
  rw [List.pairwise_map]
  exact h.imp fun h e => by omega
theorem insP_perm (l : List (Int × Ob)) (p : Int × Ob) : (insP l p).Perm (p :: l) := by
  unfold insP
  refine List.perm_middle.trans ?_
  rw [List.takeWhile_append_dropWhile]
theorem insP_cons (q : Int × Ob) (l : List (Int × Ob)) (p : Int × Ob) : insP (q :: l) p = if q.1 < p.1 then q :: insP l p else p :: q :: l := by
  unfold insP
  by_cases h : q.1 < p.1
  · simp [List.takeWhile, List.dropWhile, h]
  · simp [List.takeWhile, List.dropWhile, h]
theorem insP_asc : ∀ {l : List (Int × Ob)} {p : Int × Ob}, Asc l → p.1 ∉ l.map (·.1) → Asc (insP l p)
  | [], p, _, _ => by simp [insP, Asc]
  | q :: l, p, h, hn => by
    rw [insP_cons]
    simp only [List.map_cons, List.mem_cons, not_or] at hn
    have h' := List.pairwise_cons.1 h
    split
    · rename_i hq
      have ih := insP_asc h'.2 hn.2
      refine List.pairwise_cons.2 ⟨fun z hz => ?_, ih⟩
      rcases List.mem_cons.1 ((insP_perm l p).mem_iff.1 hz) with rfl | hz
      · exact hq
      · exact h'.1 z hz
    · rename_i hq
      refine List.pairwise_cons.2 ⟨fun z hz => ?_, h⟩
      rcases List.mem_cons.1 hz with rfl | hz
      · omega
      · have := h'.1 z hz
        omega
theorem srtI_both {m : List (Int × Ob)} (h : (m.map (·.1)).Nodup) : Asc (srtI m) ∧ (srtI m).Perm m := by
  have go : ∀ (m acc : List (Int × Ob)), Asc acc → ((acc ++ m).map (·.1)).Nodup → Asc (m.foldl insP acc) ∧ (m.foldl insP acc).Perm (acc ++ m) := by
    intro m
    induction m with
    | nil => intro acc ha _; exact ⟨ha, by simp⟩
    | cons p r ih =>
      intro acc ha hn
      have hp : (insP acc p ++ r).Perm (acc ++ p :: r) := ((insP_perm acc p).append_right r).trans List.perm_middle.symm
      have hn' : ((insP acc p ++ r).map (·.1)).Nodup := (hp.map _).nodup_iff.2 hn
      have hnot : p.1 ∉ acc.map (·.1) := by
        rw [List.map_append, List.nodup_append] at hn
        intro hin
        exact hn.2.2 p.1 hin p.1 (by simp) rfl
      obtain ⟨h1, h2⟩ := ih (insP acc p) (insP_asc ha hnot) hn'
      exact ⟨h1, h2.trans hp⟩
  have := go m [] List.Pairwise.nil (by simpa using h)
  simpa [srtI] using this
theorem asc_snoc {l : List (Int × Ob)} {p : Int × Ob} (h : Asc l) (hp : ∀ q ∈ l, q.1 < p.1) : Asc (l ++ [p]) :=
  List.pairwise_append.2 ⟨h, by simp, fun q hq z hz => by simp at hz; subst hz; exact hp q hq⟩
theorem asc_map {l : List (Int × Ob)} (f : Int × Ob → Int × Ob) (hf : ∀ p, (f p).1 = p.1) (h : Asc l) : Asc (l.map f) := by
  unfold Asc
  rw [List.pairwise_map]
  exact h.imp fun h => by rw [hf, hf]; exact h
theorem put_asc {l : List (Int × Ob)} {k : Int} {o v : Ob} (h : Asc l) (hg : get l k = some o) : Asc (put l k v) := by
  have hk : k ∈ l.map (·.1) := by
    refine Classical.byContradiction fun hn => ?_
    rw [get_none.2 hn] at hg
    cases hg
  rw [put_map h.nodup hk]
  refine asc_map _ (fun p => ?_) h
  split
  · rename_i e; exact e.symm
  · rfl
theorem put_mem {l : List (Int × Ob)} {k : Int} {o v : Ob} (h : (l.map (·.1)).Nodup) (hg : get l k = some o) {p : Int × Ob} (hp : p ∈ put l k v) : ∃ q ∈ l, q.1 = p.1 := by
  have hk : k ∈ l.map (·.1) := by
    refine Classical.byContradiction fun hn => ?_
    rw [get_none.2 hn] at hg
    cases hg
  rw [put_map h hk] at hp
  obtain ⟨q, hq, rfl⟩ := List.mem_map.1 hp
  refine ⟨q, hq, ?_⟩
  split
  · rename_i e; exact e
  · rfl
theorem put_len {l : List (Int × Ob)} {k : Int} {o v : Ob} (h : (l.map (·.1)).Nodup) (hg : get l k = some o) : (put l k v).length = l.length := by
  have hk : k ∈ l.map (·.1) := by
    refine Classical.byContradiction fun hn => ?_
    rw [get_none.2 hn] at hg
    cases hg
  rw [put_map h hk, List.length_map]

/-- H: the program's heap, G: the reference's, after k operations. -/
structure Rel (k : Nat) (H G : HM) : Prop where
  nur : G.nur = H.nur
  eld : G.eld = H.eld
  next : G.next = H.next
  ly : H.ly.Perm G.ly
  la : H.la.Perm G.la
  sy : Asc G.ly
  sa : Asc G.la
  ky : ∀ p ∈ G.ly, 0 ≤ p.1 ∧ p.1 < H.next
  ka : ∀ p ∈ G.la, 0 ≤ p.1 ∧ p.1 < H.next
  dj : ∀ p ∈ G.ly, ∀ q ∈ G.la, p.1 ≠ q.1
  lo : 0 ≤ H.next
  hi : H.next ≤ 4611686018427387904 + k
  n1 : 1 ≤ H.nur
  n2 : H.nur ≤ 65536
  e1 : 1 ≤ H.eld
  e2 : H.eld ≤ 65536
  ln : H.ly.length ≤ H.nur
  le : H.la.length ≤ H.eld
theorem Rel.up {k : Nat} {H G : HM} (h : Rel k H G) : Rel (k + 1) H G := { h with hi := by have := h.hi; omega }
theorem Rel.ndy {k : Nat} {H G : HM} (h : Rel k H G) : (H.ly.map (·.1)).Nodup := (h.ly.map _).nodup_iff.2 h.sy.nodup
theorem Rel.nda {k : Nat} {H G : HM} (h : Rel k H G) : (H.la.map (·.1)).Nodup := (h.la.map _).nodup_iff.2 h.sa.nodup
theorem Rel.gy {k : Nat} {H G : HM} (h : Rel k H G) (x : Int) : get H.ly x = get G.ly x := get_perm h.ly h.ndy x
theorem Rel.ga {k : Nat} {H G : HM} (h : Rel k H G) (x : Int) : get H.la x = get G.la x := get_perm h.la h.nda x
theorem Rel.keysY {k : Nat} {H G : HM} (h : Rel k H G) (hk : k ≤ 100) : KeysIn H.ly := fun p hp => by
  have := h.ky p (h.ly.mem_iff.1 hp)
  have := h.hi
  omega
theorem Rel.keysA {k : Nat} {H G : HM} (h : Rel k H G) (hk : k ≤ 100) : KeysIn H.la := fun p hp => by
  have := h.ka p (h.la.mem_iff.1 hp)
  have := h.hi
  omega
theorem rel_new {n o : Int} (h : newOk n o = true) : Rel 0 ⟨n, o, 0, [], []⟩ ⟨n, o, 0, [], []⟩ := by
  simp [newOk] at h
  exact ⟨rfl, rfl, rfl, .refl _, .refl _, .nil, .nil, (fun p hp => by cases hp), (fun p hp => by cases hp), (fun p hp => by cases hp), by simp, by simp, by simp; omega, by simp; omega, by simp; omega, by simp; omega, by simp; omega, by simp; omega⟩
theorem rel_alloc {k : Nat} {H G : HM} (h : Rel k H G) (hk : k ≤ 100) (o : Ob) : (H.alloc o).1 = (G.ralloc o).1 ∧ (H.alloc o).2.1 = (G.ralloc o).2.1 ∧ Rel (k + 1) (H.alloc o).2.2 (G.ralloc o).2.2 := by
  have hl := h.ly.length_eq
  have hlo := h.lo
  have hhi := h.hi
  unfold HM.alloc HM.ralloc
  by_cases hv : vld o = true
  · rw [if_pos hv, if_pos hv, h.nur, ← hl]
    by_cases hf : H.nur ≤ H.ly.length
    · rw [if_pos hf, if_pos hf]
      exact ⟨rfl, rfl, h.up⟩
    · rw [if_neg hf, if_neg hf]
      have hw : wrap64 (H.next + 1) = H.next + 1 := by unfold wrap64; omega
      have hnot : H.next ∉ H.ly.map (·.1) := by
        intro hin
        obtain ⟨p, hp, e⟩ := List.mem_map.1 hin
        have := h.ky p (h.ly.mem_iff.1 hp)
        omega
      dsimp only
      rw [hw, put_new hnot]
      refine ⟨h.next.symm, rfl, ⟨by first | exact h.nur | rfl, h.eld, by dsimp only; rw [h.next], ?_, h.la, ?_, h.sa, ?_, ?_, ?_, by dsimp only; omega, by dsimp only; omega, h.n1, h.n2, h.e1, h.e2, ?_, h.le⟩⟩
      · rw [h.next]
        exact h.ly.append_right _
      · refine asc_snoc h.sy fun q hq => ?_
        have := h.ky q hq
        dsimp only
        rw [h.next]
        exact this.2
      · intro p hp
        dsimp only at hp ⊢
        rcases List.mem_append.1 hp with hp | hp
        · have := h.ky p hp
          omega
        · simp at hp
          subst hp
          dsimp only
          rw [h.next]
          omega
      · intro p hp
        have := h.ka p hp
        dsimp only
        omega
      · intro p hp q hq
        dsimp only at hp
        rcases List.mem_append.1 hp with hp | hp
        · exact h.dj p hp q hq
        · simp at hp
          subst hp
          have := h.ka q hq
          dsimp only
          rw [h.next]
          omega
      · simp
        omega
  · rw [if_neg hv, if_neg hv]
    exact ⟨rfl, rfl, h.up⟩
theorem rel_get {k : Nat} {H G : HM} (h : Rel k H G) (x : Int) : H.get x = G.get x := by
  unfold HM.get
  rw [h.gy, h.ga]
theorem rel_set {k : Nat} {H G : HM} (h : Rel k H G) (x : Int) (o : Ob) : (H.set x o).1 = (G.set x o).1 ∧ Rel (k + 1) (H.set x o).2 (G.set x o).2 := by
  unfold HM.set
  by_cases hv : vld o = true
  · rw [if_pos hv, if_pos hv, h.gy, h.ga]
    cases hy : get G.ly x with
    | some z =>
      refine ⟨rfl, { h.up with ly := put_perm h.ly h.ndy x o, sy := put_asc h.sy hy, ky := ?_, dj := ?_, ln := ?_ }⟩
      · intro p hp
        obtain ⟨q, hq, e⟩ := put_mem h.sy.nodup hy hp
        have := h.ky q hq
        rw [← e]
        exact this
      · intro p hp q hq
        obtain ⟨p', hp', e⟩ := put_mem h.sy.nodup hy hp
        rw [← e]
        exact h.dj p' hp' q hq
      · have := h.ln
        rw [put_len h.ndy ((h.gy x).trans hy)]
        exact this
    | none =>
      cases ha : get G.la x with
      | some z =>
        refine ⟨rfl, { h.up with la := put_perm h.la h.nda x o, sa := put_asc h.sa ha, ka := ?_, dj := ?_, le := ?_ }⟩
        · intro p hp
          obtain ⟨q, hq, e⟩ := put_mem h.sa.nodup ha hp
          have := h.ka q hq
          rw [← e]
          exact this
        · intro p hp q hq
          obtain ⟨q', hq', e⟩ := put_mem h.sa.nodup ha hq
          rw [← e]
          exact h.dj p hp q' hq'
        · have := h.le
          rw [put_len h.nda ((h.ga x).trans ha)]
          exact this
      | none => exact ⟨rfl, h.up⟩
  · rw [if_neg hv, if_neg hv]
    exact ⟨rfl, h.up⟩
theorem rel_clone {k : Nat} {H G : HM} (h : Rel k H G) {ly la : List (Int × Ob)} (h1 : ly.Perm H.ly) (h2 : la.Perm H.la) : Rel (k + 1) ⟨H.nur, H.eld, H.next, ly, la⟩ G.srt := by
  obtain ⟨a1, p1⟩ := srtI_both h.sy.nodup
  obtain ⟨a2, p2⟩ := srtI_both h.sa.nodup
  have hi := h.hi
  exact ⟨h.nur, h.eld, h.next, (h1.trans h.ly).trans p1.symm, (h2.trans h.la).trans p2.symm, a1, a2, fun p hp => h.ky p (p1.mem_iff.1 hp), fun p hp => h.ka p (p2.mem_iff.1 hp), fun p hp q hq => h.dj p (p1.mem_iff.1 hp) q (p2.mem_iff.1 hq),
    h.lo, by dsimp only; omega, h.n1, h.n2, h.e1, h.e2, by dsimp only; rw [h1.length_eq]; exact h.ln, by dsimp only; rw [h2.length_eq]; exact h.le⟩
theorem nxt_append {β : Type} (l m : List (Int × β)) : nxt (l ++ m) = max (nxt l) (nxt m) := by
  obtain ⟨b1, c1, d1⟩ := nxt_lt (l ++ m)
  obtain ⟨b2, c2, d2⟩ := nxt_lt l
  obtain ⟨b3, c3, d3⟩ := nxt_lt m
  have e1 := d2 (nxt (l ++ m)) c1 (fun p hp => b1 p (List.mem_append_left _ hp))
  have e2 := d3 (nxt (l ++ m)) c1 (fun p hp => b1 p (List.mem_append_right _ hp))
  have e3 := d1 (max (nxt l) (nxt m)) (by omega) (fun p hp => by
    rcases List.mem_append.1 hp with hp | hp
    · have := b2 p hp; omega
    · have := b3 p hp; omega)
  omega
theorem rel_repl {k : Nat} {H G H' G' : HM} {m1 m2 : List (Int × Ob)} (h : Rel k H G) (hd1 : (m1.map (·.1)).Nodup) (hd2 : (m2.map (·.1)).Nodup) (hp : Repl H m1 m2 H') (hq : RPut G m1 m2 G') : H.repl m1 m2 = G.repl m1 m2 ∧ Rel (k + 1) H' G' := by
  have hc : H.repl m1 m2 = G.repl m1 m2 := by simp [HM.repl, h.nur, h.eld]
  refine ⟨hc, ?_⟩
  by_cases h0 : H.repl m1 m2 = 0
  · obtain ⟨q1, q2, q3, q4, q5⟩ := hp.yes h0
    have hg := hq.yes (hc ▸ h0)
    have hcond : fitB m1 = true ∧ fitB m2 = true ∧ meets m1 m2 = false ∧ ¬ (H.nur < m1.length ∨ H.eld < m2.length) := by
      unfold HM.repl at h0
      split at h0
      · rename_i hc'
        split at h0
        · omega
        · rename_i hn
          exact ⟨hc'.1, hc'.2.1, hc'.2.2, hn⟩
      · omega
    obtain ⟨f1, f2, f3, f4⟩ := hcond
    obtain ⟨a1, p1⟩ := srtI_both hd1
    obtain ⟨a2, p2⟩ := srtI_both hd2
    have hlo := h.lo
    have hhi := h.hi
    obtain ⟨b1, c1, d1⟩ := nxt_lt m1
    obtain ⟨b2, c2, d2⟩ := nxt_lt m2
    have k1 : ∀ p ∈ m1, 0 ≤ p.1 ∧ p.1 < 4611686018427387904 := fun p hp => by
      have := List.all_eq_true.1 f1 p hp
      simp [fit1] at this
      omega
    have k2 : ∀ p ∈ m2, 0 ≤ p.1 ∧ p.1 < 4611686018427387904 := fun p hp => by
      have := List.all_eq_true.1 f2 p hp
      simp [fit1] at this
      omega
    have u1 := d1 4611686018427387904 (by omega) (fun p hp => (k1 p hp).2)
    have u2 := d2 4611686018427387904 (by omega) (fun p hp => (k2 p hp).2)
    subst hg
    refine ⟨by dsimp only; rw [q1]; exact h.nur, by dsimp only; rw [q2]; exact h.eld, ?_, q3.trans p1.symm, q4.trans p2.symm, a1, a2, ?_, ?_, ?_, by omega, by omega, by rw [q1]; exact h.n1, by rw [q1]; exact h.n2, by rw [q2]; exact h.e1, by rw [q2]; exact h.e2, ?_, ?_⟩
    · dsimp only
      rw [q5, nxt_append, h.next]
      omega
    · intro p hp
      have hm := p1.mem_iff.1 hp
      have := k1 p hm
      have := b1 p hm
      omega
    · intro p hp
      have hm := p2.mem_iff.1 hp
      have := k2 p hm
      have := b2 p hm
      omega
    · intro p hp q hq e
      have hm := p1.mem_iff.1 hp
      have hm2 := p2.mem_iff.1 hq
      have hn := List.any_eq_false.1 f3 p hm
      have : get m2 p.1 = some q.2 := (get_mem hd2).2 (by rw [e]; exact hm2)
      simp [this] at hn
    · rw [q1, q3.length_eq]
      omega
    · rw [q2, q4.length_eq]
      omega
  · have e1 := hp.no h0
    have e2 := hq.no (hc ▸ h0)
    subst e1 e2
    exact h.up
end Go.Proofs.Ytobniolmielikaa

/- The reference collector's at and has; no condition. -/
namespace Go.Proofs.Ytobniolmielikaa
open Go.RowKit

/-- The place of a number in a list, or -1. -/
def atL (l : List Int) (x : Int) : Int := match l.findIdx? (· == x) with | some i => i | none => -1
theorem atL_some {l : List Int} {x : Int} {i : Nat} (h : l[i]? = some x) (hn : ∀ j, j < i → ∀ y, l[j]? = some y → y ≠ x) : atL l x = i := by
  have : l.findIdx? (· == x) = some i := by
    rw [List.findIdx?_eq_some_iff_getElem]
    obtain ⟨hl, e⟩ := List.getElem?_eq_some_iff.1 h
    refine ⟨hl, by simp [e], fun j hj => ?_⟩
    have := hn j hj l[j] (List.getElem?_eq_getElem (by omega))
    simp [this]
  simp [atL, this]
theorem atL_none {l : List Int} {x : Int} (hn : ∀ y ∈ l, y ≠ x) : atL l x = -1 := by
  have : l.findIdx? (· == x) = none := by
    rw [List.findIdx?_eq_none_iff]
    intro y hy
    simp [hn y hy]
  simp [atL, this]

set_option maxHeartbeats 400000 in
theorem at_any (ok : Nat → Prop) (w : World) (v : Value) (l : List Int) (x : Int) (h : Ints ok w v l) :
    Calls Try.prog 104 #[v, .int .i64 x] w fun e w' => e = .returned (.int .i64 (atL l x)) ∧ w' = w := by
  obtain ⟨A, c, rfl⟩ := h.shape
  have hlen := h.len
  have H := Lib.hid h
  clear h
  go_enter Try.func104, Try.ntmps104
  go_wp2_with fail
  go_loopw [5] (fun i wr => ∃ n : Nat, n ≤ l.length ∧ i = .int .i64 n ∧ (∀ j, j < n → ∀ y, l[j]? = some y → y ≠ x) ∧ wr = w) (fun i _ => l.length - (intOf i).toNat)
  case atStart => exact ⟨0, Nat.zero_le _, rfl, fun j hj => by omega, rfl⟩
  case round =>
    obtain ⟨n, hn, rfl, hno, rfl⟩ := hrel
    have HNO := Lib.hid hno
    clear hno
    by_cases hlt : n < l.length
    · obtain ⟨ad, eA, hc⟩ := Ints.cell H.out hlt
      have hx := List.getElem?_eq_getElem hlt
      generalize l[n] = y at hc hx
      have HX := Lib.hid hx
      subst eA
      clear hx
      by_cases he : y = x
      · have HF := Lib.hid (atL_some (he ▸ HX.out) HNO.out)
        have hb : (y == x) = true := by simpa using he
        clear he
        go_wp2_with fail
        go_ret
        exact ⟨by rw [HF.out]; rfl, by first | rfl | trivial⟩
      · have hb : (y == x) = false := by simpa using he
        have HE := Lib.hid he
        clear he
        go_wp2_with fail
        go_roundw
        case rel =>
          refine ⟨n + 1, by omega, by go_num, ?_, by first | rfl | trivial⟩
          intro j hj z hz
          by_cases hjn : j = n
          · subst hjn
            rw [HX.out] at hz
            cases hz
            exact HE.out
          · exact HNO.out j (by omega) z hz
        case measure => simp [intOf]; omega
    · have he : n = l.length := by omega
      subst he
      have HF := Lib.hid (atL_none (l := l) (x := x) (fun z hz => by
        obtain ⟨j, hj⟩ := List.getElem?_of_mem hz
        exact HNO.out j (List.getElem?_eq_some_iff.1 hj).1 z hj))
      go_wp2_with fail
      go_ret
      exact ⟨by rw [HF.out]; rfl, by first | rfl | trivial⟩

set_option maxHeartbeats 400000 in
theorem has_any (ok : Nat → Prop) (w : World) (v : Value) (l : List Int) (x : Int) (h : Ints ok w v l) :
    Calls Try.prog 74 #[v, .int .i64 x] w fun e w' => e = .returned (.bool (decide (0 ≤ atL l x))) ∧ w' = w := by
  have H := Lib.hid h
  obtain ⟨A, c, rfl⟩ := h.shape
  clear h
  go_enter Try.func74, Try.ntmps74
  go_wp2_with fail
  refine (at_any ok w _ l x H.out).mono ?_
  rintro e w1 ⟨rfl, rfl⟩
  go_wp2_with fail
  go_ret
  exact ⟨rfl, by first | rfl | trivial⟩
end Go.Proofs.Ytobniolmielikaa

