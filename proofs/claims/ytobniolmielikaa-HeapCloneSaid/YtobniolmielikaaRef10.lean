/- The reference heap: sorted; no condition. -/
import Derived.Test.YtobniolmielikaaRef9
namespace Go.Proofs.Ytobniolmielikaa
open Go.RowKit

/-- A pair put among ascending pairs; all of them so. -/
def insP (l : List (Int × Ob)) (p : Int × Ob) : List (Int × Ob) := l.takeWhile (fun q => decide (q.1 < p.1)) ++ p :: l.dropWhile (fun q => decide (q.1 < p.1))
def srtI (l : List (Int × Ob)) : List (Int × Ob) := l.foldl insP []
theorem abs_mrg (l : List It) (x : It) : absI (mrg l x) = insP (absI l) (x.a, x.o) := by
  simp only [absI, mrg, insP, List.map_append, List.map_cons, List.takeWhile_map, List.dropWhile_map]
  rfl
theorem mrg_mem {l : List It} {x y : It} (h : y ∈ mrg l x) : y ∈ l ∨ y = x := by
  rcases List.mem_append.1 h with h | h
  · exact .inl ((List.takeWhile_sublist _).subset h)
  · rcases List.mem_cons.1 h with h | h
    · exact .inr h
    · exact .inl ((List.dropWhile_sublist _).subset h)
theorem fold_snoc {α β : Type} (f : β → α → β) (b : β) {l : List α} {k : Nat} {x : α} (h : l[k]? = some x) : (l.take (k + 1)).foldl f b = f ((l.take k).foldl f b) x := by
  rw [List.take_add_one, h, List.foldl_append]
  rfl
theorem ItAt.all {w : World} {b o : Nat} {x : It} (h : ItAt w b o x) : w.cell? ⟨b, o, none⟩ = some (.int .i64 x.a) ∧ w.cell? ⟨b, o + 1, none⟩ = some (.int .i64 x.o.op) ∧ w.cell? ⟨b, o + 2, none⟩ = some (.int .i64 x.o.n) ∧ w.cell? ⟨b, o + 3, none⟩ = some (.int .i64 x.o.ar) ∧
    w.cell? ⟨b, o + 4, none⟩ = some (.slice x.ra x.o.refs.length x.rc) ∧ w.cell? ⟨b, o + 5, none⟩ = some (.slice x.wa x.o.words.length x.wc) := ⟨h.c0, h.c1, h.c2, h.c3, h.c4, h.c5⟩

/-- Where sorted stands. -/
structure SrtAt (w : World) (l l' : List It) (k : Nat) (u : Value) (W : World) : Prop where
  own : Own w.heap.size W u l'
  abs : absI l' = ((absI l).take k).foldl insP []
  len : l'.length = k
  obs : ∀ x ∈ l', ObR 0 W x.val x.o
  bel : Below w.heap.size w W

theorem own_made0 (w : World) : Own w.heap.size (w.alloc (.cells #[] 97)) (.slice (some ⟨w.heap.size, 0, none⟩) 0 0) [] := by
  have := World.ownsRow_made w (base := w.heap.size) (e := 97) (size := 6) #[] 0 (by simp) (by simp [maxLen]) rfl
  exact this

set_option maxHeartbeats 2000000 in
theorem sorted_any (ok : Nat → Prop) (w : World) (v : Value) (l : List It) (h : Raw ok w v l) (ho : ∀ x ∈ l, ObAt (fun _ => True) w x.val x.o) :
    Calls Try.prog 87 #[v] w fun e w' => ∃ v' l', e = .returned v' ∧ Own w.heap.size w' v' l' ∧ absI l' = srtI (absI l) ∧ (∀ x ∈ l', ObR 0 w' x.val x.o) ∧ Below w.heap.size w w' := by
  obtain ⟨A, c, rfl⟩ := h.shape
  have hlen := h.len
  have H := Lib.hid h
  have HO := Lib.hid ho
  clear h ho
  go_enter Try.func87, Try.ntmps87
  go_wp2_with fail
  go_loopw [3, 4] (fun u i wr => ∃ (k : Nat) (l' : List It), k ≤ l.length ∧ i = .int .i64 k ∧ SrtAt w l l' k u wr) (fun _ i _ => l.length - (intOf i).toNat)
  case atStart => exact ⟨0, [], Nat.zero_le _, rfl, ⟨own_made0 w, rfl, rfl, (fun x hx => by cases hx), (Below.refl _ _).alloc (Nat.le_refl _) _⟩⟩
  case round =>
    obtain ⟨k, l', hk, rfl, hm⟩ := hrel
    by_cases hlt : k < l.length
    · have hx := List.getElem?_eq_getElem hlt
      generalize l[k] = x at hx
      have hsz := hm.bel.size
      have hl' := hm.len
      have hraw := hm.own.raw (by omega)
      have hox := HO.out x (List.mem_of_getElem? hx)
      obtain ⟨b, o, rfl, hat⟩ := (H.out.fresh hm.bel).at hx
      obtain ⟨B2, c2, rfl⟩ := hm.own.shape
      have hfold := fold_snoc insP [] (l := absI l) (k := k) (x := (x.a, x.o)) (by simp [absI, hx])
      have HF := Lib.hid hfold
      have HM := Lib.hid hm
      have HX := Lib.hid hx
      have HAT := Lib.hid hat
      have HR := Lib.hid hraw
      have HOX := Lib.hid (hox.fresh hm.bel)
      have i0 := (hat.keep (w' := wr.drew) rfl).all
      clear hm hx hat hraw hox hl' hfold
      go_upto_region 5 with (fail)
      go_region_held3 (fun w' => w'.cell? ⟨b, o + k * 6, none⟩ = some (.int .i64 x.a) ∧ w'.cell? ⟨b, o + k * 6 + 1, none⟩ = some (.int .i64 x.o.op) ∧ w'.cell? ⟨b, o + k * 6 + 2, none⟩ = some (.int .i64 x.o.n) ∧ w'.cell? ⟨b, o + k * 6 + 3, none⟩ = some (.int .i64 x.o.ar) ∧
          w'.cell? ⟨b, o + k * 6 + 4, none⟩ = some (.slice x.ra x.o.refs.length x.rc) ∧ w'.cell? ⟨b, o + k * 6 + 5, none⟩ = some (.slice x.wa x.o.words.length x.wc))
        (first | with_reducible exact i0 | with_reducible exact i1 | with_reducible exact i2)
        (first
          | (go_at_call 100; refine (rcopied_any _ _ x.o _ (HOX.out.fresh (Below.refl _ _).drew)).mono ?_; rintro e w5 ⟨v5, rfl, ho5, hb5⟩; obtain ⟨ra5, rc5, wa5, wc5, rfl⟩ := ho5.open; have HO5 := Lib.hid ho5; have HB5 := Lib.hid (undrew hb5); have i1 := (HAT.out.keep (w' := w5) ((undrew hb5).block b (World.block_lt_of_cell? wr ⟨b, o + k * 6, none⟩ HAT.out.c0))).all; clear ho5 hb5)
          | (go_at_call 98; refine (merge_any _ w5 _ l' ⟨x.a, x.o, ra5, rc5, wa5, wc5⟩ (HR.out.fresh HB5.out) (by have := HM.out.len; omega)).mono ?_; rintro e w6 ⟨v6, rfl, hown6, hb6⟩; have HOWN6 := Lib.hid hown6; have HB6 := Lib.hid hb6; have i2 := ((HAT.out.keep (w' := w5) (HB5.out.block b (World.block_lt_of_cell? wr ⟨b, o + k * 6, none⟩ HAT.out.c0))).keep (w' := w6) (hb6.block b (World.block_lt_of_cell? w5 ⟨b, o + k * 6, none⟩ i1.1))).all; clear hown6 hb6))
      clear i0 i1 i2
      rename_i hHeld
      clear hHeld
      go_wp2_with fail
      go_roundw
      case rel =>
        have z5 := HB5.out.size
        refine ⟨k + 1, mrg l' ⟨x.a, x.o, ra5, rc5, wa5, wc5⟩, by omega, by go_num, ⟨HOWN6.out.base (by omega), ?_, ?_, ?_, ?_⟩⟩
        · rw [abs_mrg, HM.out.abs, HF.out]
        · rw [mrg_length, HM.out.len]
        · intro y hy
          rcases mrg_mem hy with hy | rfl
          · exact ((HM.out.obs y hy).fresh HB5.out).fresh HB6.out
          · exact (HO5.out.base (Nat.zero_le _)).fresh HB6.out
        · exact below_then (below_then HM.out.bel HM.out.bel.size HB5.out) (by omega) HB6.out
      case measure => simp [intOf]; omega
    · have he : k = l.length := by omega
      subst he
      have habs := hm.abs
      rw [List.take_of_length_le (by simp [absI])] at habs
      have HM := Lib.hid hm
      have HAB := Lib.hid habs
      clear hm habs
      go_wp2_with fail
      go_ret
      exact ⟨_, l', rfl, HM.out.own, HAB.out, HM.out.obs, HM.out.bel⟩
end Go.Proofs.Ytobniolmielikaa
