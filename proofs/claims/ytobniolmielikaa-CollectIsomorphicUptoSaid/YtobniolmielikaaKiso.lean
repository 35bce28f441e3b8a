/- The statement CollectIsomorphic, where what it reads is of bulk at most 1048576: for every heap, roots and kinds the call answers true and turns nothing; no other condition. -/
import Derived.Test.YtobniolmielikaaZar
import Derived.Test.YtobniolmielikaaZas
import Derived.Test.YtobniolmielikaaZaq
import Derived.Test.YtobniolmielikaaZat
import Derived.Lib.SmallJoins
/- The law level on lists: what the roots reach is the same behind a collection; no program in sight; no condition. -/
namespace Go.Proofs.Ytobniolmielikaa
open Go.RowKit

theorem gath_sub {H : HM} : ∀ {rem q q' : List Int}, H.gath rem q = some q' → (∀ x ∈ q, x ∈ q') ∧ ∀ a ∈ rem, ∀ x ∈ (H.ob a).refs, H.yng x = true → x ∈ q'
  | [], q, q', h => by
    rw [HM.gath] at h
    cases h
    exact ⟨fun x hx => hx, fun a ha => by cases ha⟩
  | a :: rem, q, q', h => by
    rw [HM.gath] at h
    split at h
    · obtain ⟨h1, h2⟩ := gath_sub h
      refine ⟨fun x hx => h1 x (List.mem_append_left _ hx), fun b hb x hx hy => ?_⟩
      rcases List.mem_cons.1 hb with rfl | hb
      · exact h1 x (List.mem_append_right _ (List.mem_filter.2 ⟨hx, hy⟩))
      · exact h2 b hb x hx hy
    · cases h
theorem rem_mem {H : HM} (hW : Wel H) {a x : Int} (ha : H.has a = true) (ho : H.yng a = false) (hx : x ∈ (H.ob a).refs) (hh : H.has x = true) (hy : H.yng x = true) : a ∈ H.rem := by
  have hg : get H.la a = some (H.ob a) := by
    have h1 := HM.get_some ha
    unfold HM.yng at ho
    cases hl : get H.la a with
    | none => rw [hl] at ho; cases ho
    | some o =>
      have h2 : get H.all a = some o := (get_mem hW.nd).2 (List.mem_append_right _ (get_in_list hl))
      rw [h1] at h2
      exact h2.symm
  have hxy : (get H.ly x).isSome = true := by
    have h1 := HM.get_some hh
    unfold HM.all at h1
    rw [get_append] at h1
    cases hl : get H.ly x with
    | some o => rfl
    | none =>
      rw [hl] at h1
      simp only at h1
      unfold HM.yng at hy
      rw [h1] at hy
      cases hy
  unfold HM.rem srt
  rw [List.mem_mergeSort]
  unfold keysOf
  refine List.mem_map.2 ⟨(a, H.ob a), List.mem_filter.2 ⟨get_in_list hg, ?_⟩, rfl⟩
  exact List.any_eq_true.2 ⟨x, hx, hxy⟩
theorem live_surv {H : HM} (hW : Wel H) {roots L M : List Int} (hl : H.live roots = some L) (hs : H.surv roots = some M) : ∀ a ∈ L, H.yng a = true → a ∈ M := by
  obtain ⟨q, hq, hb⟩ := surv_found hs
  have hf := bfs_found _ _ _ _ hb
  obtain ⟨hq1, hq2⟩ := gath_sub hq
  obtain ⟨h1, h2, h3, h4⟩ := live_has hl
  have hg := bfs_found _ _ _ _ (live_found hl).2
  have hM := surv_has hs
  have key := hg.least (fun x => x ∈ L ∧ (H.yng x = true → x ∈ M)) (by simp) (fun x hx => ⟨h3 x hx, fun hy => hf.todo x (hq1 x (List.mem_filter.2 ⟨hx, hy⟩)) hy⟩) (fun a ha _ o ho x hx => by
    have hoa : o = H.ob a := by
      have := HM.get_some (h2 a ha.1)
      rw [ho] at this
      exact (Option.some.inj this)
    subst hoa
    refine ⟨h4 a ha.1 x hx, fun hy => ?_⟩
    cases hya : H.yng a with
    | true => exact hf.closed a (ha.2 hya) (by simp) _ (HM.get_some (h2 a ha.1)) x hx hy
    | false =>
      have hr := rem_mem hW (h2 a ha.1) hya hx (h2 x (h4 a ha.1 x hx)) hy
      exact hf.todo x (hq2 a hr x hx hy) hy)
  exact fun a ha => (key a ha).2

theorem mv_inj {H : HM} (hW : Wel H) {M : List Int} {x y : Int} (hx : H.has x = true) (hy : H.has y = true) (e : mv M H.top x = mv M H.top y) : x = y := by
  have h1 := hW.lt_top hx
  have h2 := hW.lt_top hy
  rcases atL_cases M x with ⟨i, hi, ei⟩ | ⟨hi, ei⟩
  · rcases atL_cases M y with ⟨j, hj, ej⟩ | ⟨hj, ej⟩
    · rw [mv_in (List.mem_of_getElem? hi), mv_in (List.mem_of_getElem? hj), ei, ej] at e
      have : i = j := by omega
      subst this
      rw [hi] at hj
      exact Option.some.inj hj
    · rw [mv_in (List.mem_of_getElem? hi), mv_out hj, ei] at e
      omega
  · rcases atL_cases M y with ⟨j, hj, ej⟩ | ⟨hj, ej⟩
    · rw [mv_in (List.mem_of_getElem? hj), mv_out hi, ej] at e
      omega
    · rw [mv_out hi, mv_out hj] at e
      exact e

/-- Where every reached object lies behind a collection. -/
def Carried (H : HM) (L M : List Int) (m : List (Int × Ob)) : Prop := ∀ a ∈ L, (mv M H.top a, mvO M H.top (H.ob a)) ∈ m
theorem carried_major {H : HM} {L : List Int} : Carried H L L (H.news L) := by
  intro a ha
  obtain ⟨i, hi⟩ := List.getElem?_of_mem ha
  rcases atL_cases L a with ⟨j, hj, ej⟩ | ⟨hj, _⟩
  · rw [mv_in ha, ej]
    refine List.mem_of_getElem? (i := j) ?_
    rw [news_get, hj]
    rfl
  · exact absurd ha hj
theorem carried_minor {H : HM} (hW : Wel H) {roots L M : List Int} (hl : H.live roots = some L) (hs : H.surv roots = some M) : Carried H L M (H.mix M) := by
  intro a ha
  obtain ⟨h1, h2, h3, h4⟩ := live_has hl
  by_cases hm : a ∈ M
  · refine List.mem_append_right _ ?_
    rcases atL_cases M a with ⟨j, hj, ej⟩ | ⟨hj, _⟩
    · rw [mv_in hm, ej]
      refine List.mem_of_getElem? (i := j) ?_
      rw [news_get, hj]
      rfl
    · exact absurd hm hj
  · have hy : H.yng a = false := by
      cases hy : H.yng a with
      | false => rfl
      | true => exact absurd (live_surv hW hl hs a ha hy) hm
    refine List.mem_append_left _ ?_
    rw [mv_out hm]
    exact List.mem_map.2 ⟨a, List.mem_filter.2 ⟨hW.addr_mem.2 (h2 a ha), by simp [hy]⟩, rfl⟩

/-- What the roots reach is the same behind a collection. -/
structure SameG (H H' : HM) (roots roots' L L' : List Int) : Prop where
  live : H'.live roots' = some L'
  roots : roots'.map (mv L' 0) = roots.map (mv L 0)
  obs : L'.map (fun a => mvO L' 0 (H'.ob a)) = L.map (fun a => mvO L 0 (H.ob a))
theorem sameG_refl {H : HM} {roots L : List Int} (h : H.live roots = some L) : SameG H H roots roots L L := ⟨h, rfl, rfl⟩
theorem sameG_of {H H' : HM} (hW : Wel H) {roots L M : List Int} {m : List (Int × Ob)} (hl : H.live roots = some L) (hc : Carried H L M m) (c : Col H m) (g : Gone H 0 m H') : SameG H H' roots (roots.map (mv M H.top)) L (L.map (mv M H.top)) := by
  obtain ⟨-, -, g1, g2, -⟩ := g.yes rfl
  obtain ⟨h1, h2, h3, h4⟩ := live_has hl
  have ha : H'.all.Perm m := by unfold HM.all; rw [g1]; simpa using g2
  have hnd : (H'.all.map (·.1)).Nodup := (ha.map _).nodup_iff.2 c.nd
  have hg : ∀ a ∈ L, get H'.all (mv M H.top a) = some (mvO M H.top (H.ob a)) := fun a hx => (get_mem hnd).2 (ha.mem_iff.2 (hc a hx))
  have hinj : ∀ x y, x ∈ L → y ∈ L → mv M H.top x = mv M H.top y → x = y := fun x y hx hy => mv_inj hW (h2 x hx) (h2 y hy)
  have hat : ∀ x ∈ L, mv (L.map (mv M H.top)) 0 (mv M H.top x) = mv L 0 x := by
    intro x hx
    unfold mv
    have := atL_map (l := L) (f := mv M H.top) (x := x) (fun y hy e => hinj y x hy hx e)
    unfold mv at this
    rw [this, if_pos (atL_mem.2 hx), if_pos (atL_mem.2 hx)]
  have hob : ∀ a ∈ L, H'.ob (mv M H.top a) = mvO M H.top (H.ob a) := by
    intro a hx
    unfold HM.ob
    rw [hg a hx]
    rfl
  refine ⟨?_, ?_, ?_⟩
  · have hall : (roots.map (mv M H.top)).all H'.has = true := by
      rw [List.all_eq_true]
      intro z hz
      obtain ⟨x, hx, rfl⟩ := List.mem_map.1 hz
      unfold HM.has
      rw [hg x (h3 x hx)]
      rfl
    unfold HM.live
    rw [if_pos hall]
    have hb := (live_found hl).2
    have e1 := bfs_fuel (acc := fun _ => true) hnd (H'.fuel (roots.map (mv M H.top))) (max (H'.fuel (roots.map (mv M H.top))) (H.fuel roots)) [] (roots.map (mv M H.top)) (by simp [HM.fuel]) (by unfold HM.fuel; omega)
    have e2 := bfs_fuel (acc := fun _ => true) hW.nd (H.fuel roots) (max (H'.fuel (roots.map (mv M H.top))) (H.fuel roots)) [] roots (by simp [HM.fuel]) (by unfold HM.fuel; omega)
    have e3 := bfs_iso (E := H.all) (E' := H'.all) (f := mv M H.top) (S := (· ∈ L)) (fun x y hx hy e => hinj x y hx hy e) (fun a hx => ⟨H.ob a, _, HM.get_some (h2 a hx), hg a hx, rfl, h4 a hx⟩)
      (max (H'.fuel (roots.map (mv M H.top))) (H.fuel roots)) [] roots (by simp) (fun x hx => h3 x hx)
    rw [e1]
    rw [e2] at hb
    rw [hb] at e3
    simpa using e3
  · rw [List.map_map]
    apply List.map_congr_left
    intro x hx
    exact hat x (h3 x hx)
  · rw [List.map_map]
    apply List.map_congr_left
    intro a hx
    show mvO _ 0 (H'.ob (mv M H.top a)) = _
    rw [hob a hx]
    unfold mvO
    dsimp only
    congr 1
    rw [List.map_map]
    apply List.map_congr_left
    intro x hr
    exact hat x (h4 a hx x hr)
end Go.Proofs.Ytobniolmielikaa

/- A collection as the law Isomorphic sees it; no condition. -/
namespace Go.Proofs.Ytobniolmielikaa
open Go.RowKit

/-- Where it fails. -/
structure IsoNo (w : World) (h y a : Nat) (H : HM) (err : Int) (e : Ending) (w' : World) : Prop where
  ret : e = .returned (.tuple #[.slice none 0 0, .agg (statA 0 0 0 0), .int .i64 err])
  bad : err ≠ 0
  turn : Turn (HB h y a) w w'
  heap : HeapAt w' h y a H
/-- Where it does not. -/
structure IsoYes (w : World) (h y a : Nat) (H H' : HM) (roots roots' L L' : List Int) (v : Value) (w' : World) : Prop where
  turn : Turn (HB h y a) w w'
  heap : HeapAt w' h y a H'
  wel : Wel H'
  bnd : Bnd H'
  ly : H'.ly = []
  same : SameG H H' roots roots' L L'
  ints : Ints (w.heap.size ≤ ·) w' v roots'
  len : roots'.length = roots.length
def IsoEnd (w : World) (h y a : Nat) (H : HM) (roots L : List Int) (e : Ending) (w' : World) : Prop :=
  (∃ err, IsoNo w h y a H err e w') ∨ ∃ H' roots' L' v, IsoYes w h y a H H' roots roots' L L' v w' ∧
    ((∃ co : Int, e = .returned (.tuple #[v, .agg (statA 1 0 co H'.la.length), .int .i64 0])) ∨ e = .returned (.tuple #[v, .agg (statA 0 1 L.length H'.la.length), .int .i64 0]))
theorem iso_no {w w' : World} {h y a : Nat} {H : HM} {roots L : List Int} {s : Int × List Int} {mi ma pe : Int} {m : List (Int × Ob)} {e : Ending} (g : GcEnd w h y a H roots s mi ma pe m e w') (hs : s.1 ≠ 0) : IsoEnd w h y a H roots L e w' := by
  obtain ⟨H', h1, h2⟩ := g.heap
  have := h2.no hs
  subst this
  exact .inl ⟨_, g.no hs, hs, g.turn, h1⟩
theorem iso_major {w w' : World} {h y a : Nat} {H : HM} {roots L : List Int} {e : Ending} (hW : Wel H) (hB : Bnd H) (hl : H.live roots = some L) (g : GcEnd w h y a H roots (H.major roots) 0 1 (H.major roots).2.length (H.news (H.major roots).2) e w') : IsoEnd w h y a H roots L e w' := by
  by_cases hs : (H.major roots).1 = 0
  · obtain ⟨M, h1, h2, -, -⟩ := major_zero hs
    rw [hl] at h1
    cases h1
    have c := major_col hW hs
    obtain ⟨v, e1, i⟩ := g.yes hs
    obtain ⟨H', hH, hg⟩ := g.heap
    rw [hs] at hg
    rw [h2] at c hg e1 i
    obtain ⟨-, -, k1, k2, -⟩ := hg.yes rfl
    refine .inr ⟨H', _, _, v, ⟨g.turn, hH, hg.wel hW fun _ => c, hg.bnd hB fun _ => c, k1, sameG_of hW hl carried_major c hg, i, by simp⟩, .inr ?_⟩
    rw [k2.length_eq, news_length]
    exact e1
  · exact iso_no g hs
theorem iso_minor {w w' : World} {h y a : Nat} {H : HM} {roots L : List Int} {e : Ending} (hW : Wel H) (hB : Bnd H) (hl : H.live roots = some L) (g : GcEnd w h y a H roots (H.minor roots) 1 0 (H.mix (H.minor roots).2).length (H.mix (H.minor roots).2) e w') : IsoEnd w h y a H roots L e w' := by
  by_cases hs : (H.minor roots).1 = 0
  · obtain ⟨-, M, h1, h2, -, -⟩ := minor_zero hs
    have c := minor_col hW hs
    obtain ⟨v, e1, i⟩ := g.yes hs
    obtain ⟨H', hH, hg⟩ := g.heap
    rw [hs] at hg
    rw [h2] at c hg e1 i
    obtain ⟨-, -, k1, k2, -⟩ := hg.yes rfl
    refine .inr ⟨H', _, _, v, ⟨g.turn, hH, hg.wel hW fun _ => c, hg.bnd hB fun _ => c, k1, sameG_of hW hl (carried_minor hW hl h1) c hg, i, by simp⟩, .inl ⟨M.length, ?_⟩⟩
    rw [k2.length_eq]
    exact e1
  · exact iso_no g hs
theorem isoC_major {ok : Nat → Prop} {w : World} {h y a : Nat} {H : HM} (rv : Value) {roots L : List Int} (hh : HeapAt w h y a H) (hW : Wel H) (hB : Bnd H) (hr : Ints ok w rv roots) (hok : ∀ k, ok k → ¬ HB h y a k) (hlen : roots.length ≤ 20) (hl : H.live roots = some L) :
    Calls Try.prog 43 #[.pointer (some ⟨h, 0, none⟩), rv] w (IsoEnd w h y a H roots L) :=
  (major_any ok w h y a H rv roots hh hW hr hok (by have := hB.fuel hlen; omega)).mono fun _ _ g => iso_major hW hB hl g
theorem isoC_minor {ok : Nat → Prop} {w : World} {h y a : Nat} {H : HM} (rv : Value) {roots L : List Int} (hh : HeapAt w h y a H) (hW : Wel H) (hB : Bnd H) (hr : Ints ok w rv roots) (hok : ∀ k, ok k → ¬ HB h y a k) (hlen : roots.length ≤ 20) (hl : H.live roots = some L) :
    Calls Try.prog 45 #[.pointer (some ⟨h, 0, none⟩), rv] w (IsoEnd w h y a H roots L) :=
  (minor_any ok w h y a H rv roots hh hW hr hok (by have := hB.fuel hlen; omega)).mono fun _ _ g => iso_minor hW hB hl g
theorem isoC_auto {ok : Nat → Prop} {w : World} {h y a : Nat} {H : HM} (rv : Value) {roots L : List Int} (hh : HeapAt w h y a H) (hW : Wel H) (hB : Bnd H) (hr : Ints ok w rv roots) (hok : ∀ k, ok k → ¬ HB h y a k) (hlen : roots.length ≤ 20) (hl : H.live roots = some L) :
    Calls Try.prog 46 #[.pointer (some ⟨h, 0, none⟩), rv] w (IsoEnd w h y a H roots L) := by
  by_cases h33 : (H.minor roots).1 = 33
  · exact (auto_major ok w h y a H rv roots hh hW hr hok (by have := hB.fuel hlen; omega) h33).mono fun _ _ g => iso_major hW hB hl g
  · exact (auto_minor ok w h y a H rv roots hh hW hr hok (by have := hB.fuel hlen; omega) h33).mono fun _ _ g => iso_minor hW hB hl g

/-- The kinds, in memory. -/
def KindsAt (w : World) (v : Value) (ks : List Int) : Prop := ∃ (A : Option Addr) (cap : Nat), v = .slice A ks.length cap ∧ (0 < ks.length → ∃ ad, A = some ad ∧ ad.block < w.heap.size ∧ ∀ (i : Nat) (k : Int), ks[i]? = some k → w.cell? (ad.add i) = some (.int .u8 k))
theorem KindsAt.fresh {w w' : World} {v : Value} {ks : List Int} (h : KindsAt w v ks) (hb : Below w.heap.size w w') : KindsAt w' v ks := by
  obtain ⟨A, cap, rfl, h1⟩ := h
  refine ⟨A, cap, rfl, fun h0 => ?_⟩
  obtain ⟨ad, e, hl, hc⟩ := h1 h0
  exact ⟨ad, e, Nat.lt_of_lt_of_le hl hb.size, fun i k hk => (cellBelow (hc i k hk) hb (by rw [addr_block]; exact hl))⟩
/-- Where the law's loop stands. -/
structure IsoAt (B : Nat) (w : World) (h y a n0 : Nat) (H : HM) (xs : List Int) (v : Value) (W : World) : Prop where
  heap : HeapAt W h y a H
  wel : Wel H
  bnd : Bnd H
  ints : Ints (fun k => ¬ HB h y a k) W v xs
  len : xs.length = n0
  bel : Below B w W
end Go.Proofs.Ytobniolmielikaa

/- The collector's law: sameGraph; no condition. -/
namespace Go.Proofs.Ytobniolmielikaa
open Go.RowKit

set_option maxRecDepth 100000 in
set_option maxHeartbeats 4000000 in
theorem sameGraph_any (B1 B2 : Nat) (ok1 ok2 ok3 ok4 : Nat → Prop) (w : World) (va vb u v : Value) (xs : List Int) (l l' : List It) (ha : Ints ok1 w va xs) (hb : Ints ok2 w vb xs) (hu : OwnO B1 w u l) (hv : OwnO B2 w v l') (ho : ∀ x ∈ l, ObAt ok3 w x.val x.o) (ho' : ∀ x ∈ l', ObAt ok4 w x.val x.o) (he : l.map (·.o) = l'.map (·.o)) (hlen : l.length ≤ 1000000) :
    Calls Try.prog 41 #[va, vb, u, v] w fun e w' => e = .returned (.bool true) ∧ Below w.heap.size w w' := by
  obtain ⟨A1, c1, rfl⟩ := ha.shape
  obtain ⟨A2, c2, rfl⟩ := hb.shape
  obtain ⟨U, c3, rfl⟩ := hu.shape
  obtain ⟨V, c4, rfl⟩ := hv.shape
  have hl : l'.length = l.length := by simpa using (congrArg List.length he).symm
  rw [hl]
  have HA := Lib.hid ha
  have HB := Lib.hid hb
  have HU := Lib.hid hu
  have HV := Lib.hid hv
  have HO := Lib.hid ho
  have HO' := Lib.hid ho'
  have HE := Lib.hid he
  have HL := Lib.hid hl
  clear ha hb hu hv ho ho' he hl
  go_enter Try.func41, Try.ntmps41
  go_wp2_with fail
  refine (sameInts_any _ _ w _ _ xs HA.out HB.out).mono ?_
  rintro e wz ⟨rfl, nz, hwz⟩
  have BZ := Lib.hid (show Below w.heap.size w wz by rw [hwz]; exact below_drewN (Below.refl _ _) nz)
  clear hwz
  go_wp2_with fail
  go_loopw [9] (fun i W => ∃ k : Nat, k ≤ l.length ∧ i = .int .i64 k ∧ Below wz.heap.size wz W) (fun i _ => l.length - (intOf i).toNat)
  case atStart => exact ⟨0, Nat.zero_le _, rfl, Below.refl _ _⟩
  case round =>
    obtain ⟨k, hk, rfl, hb⟩ := hrel
    have HB2 := Lib.hid hb
    have BW := Lib.hid (below_then BZ.out BZ.out.size hb)
    have zb := hb.size
    clear hb
    by_cases hlt : k < l.length
    · have HLT := Lib.hid (show k + 1 ≤ l.length from hlt)
      have hx := List.getElem?_eq_getElem hlt
      have hlt' : k < l'.length := by rw [HL.out]; exact hlt
      have hy := List.getElem?_eq_getElem hlt'
      have hxo := (HO.out _ (List.getElem_mem hlt)).fresh BW.out
      have hyo := (HO'.out _ (List.getElem_mem hlt')).fresh BW.out
      have hoo : l[k].o = l'[k].o := by
        have h1 := congrArg (fun m => m[k]?) HE.out
        simp only [List.getElem?_map, hx, hy, Option.map_some, Option.some.injEq] at h1
        exact h1
      obtain ⟨g, rfl, d0, d1, d2, d3, d4⟩ := OwnO.cell (OwnO.fresh HU.out BW.out) hx
      obtain ⟨g', rfl, f0, f1, f2, f3, f4⟩ := OwnO.cell (OwnO.fresh HV.out BW.out) hy
      generalize l[k] = x at *
      generalize l'[k] = y at *
      rw [← hoo] at f0 f1 f2 f3 f4 hyo
      unfold It.val at hxo hyo
      rw [← hoo] at hyo
      have HXO := Lib.hid hxo
      have HYO := Lib.hid hyo
      clear hx hy hxo hyo hoo hlt'
      go_upto_region 6 with (fail)
      have i0 : wr.drew.cell? ⟨g, k * 5, none⟩ = some (.int .i64 x.o.op) ∧ wr.drew.cell? ⟨g, k * 5 + 1, none⟩ = some (.int .i64 x.o.n) ∧ wr.drew.cell? ⟨g, k * 5 + 2, none⟩ = some (.int .i64 x.o.ar) ∧ wr.drew.cell? ⟨g, k * 5 + 3, none⟩ = some (.slice x.ra x.o.refs.length x.rc) ∧ wr.drew.cell? ⟨g, k * 5 + 4, none⟩ = some (.slice x.wa x.o.words.length x.wc) ∧ wr.drew.cell? ⟨g', k * 5, none⟩ = some (.int .i64 x.o.op) ∧ wr.drew.cell? ⟨g', k * 5 + 1, none⟩ = some (.int .i64 x.o.n) ∧ wr.drew.cell? ⟨g', k * 5 + 2, none⟩ = some (.int .i64 x.o.ar) ∧ wr.drew.cell? ⟨g', k * 5 + 3, none⟩ = some (.slice y.ra x.o.refs.length y.rc) ∧ wr.drew.cell? ⟨g', k * 5 + 4, none⟩ = some (.slice y.wa x.o.words.length y.wc) := ⟨d0, d1, d2, d3, d4, f0, f1, f2, f3, f4⟩
      have lg : g < wr.heap.size := World.block_lt_of_cell? _ _ d0
      have lg' : g' < wr.heap.size := World.block_lt_of_cell? _ _ f0
      clear d0 d1 d2 d3 d4 f0 f1 f2 f3 f4
      go_region_held3 (fun w' => w'.cell? ⟨g, k * 5, none⟩ = some (.int .i64 x.o.op) ∧ w'.cell? ⟨g, k * 5 + 1, none⟩ = some (.int .i64 x.o.n) ∧ w'.cell? ⟨g, k * 5 + 2, none⟩ = some (.int .i64 x.o.ar) ∧ w'.cell? ⟨g, k * 5 + 3, none⟩ = some (.slice x.ra x.o.refs.length x.rc) ∧ w'.cell? ⟨g, k * 5 + 4, none⟩ = some (.slice x.wa x.o.words.length x.wc) ∧ w'.cell? ⟨g', k * 5, none⟩ = some (.int .i64 x.o.op) ∧ w'.cell? ⟨g', k * 5 + 1, none⟩ = some (.int .i64 x.o.n) ∧ w'.cell? ⟨g', k * 5 + 2, none⟩ = some (.int .i64 x.o.ar) ∧ w'.cell? ⟨g', k * 5 + 3, none⟩ = some (.slice y.ra x.o.refs.length y.rc) ∧ w'.cell? ⟨g', k * 5 + 4, none⟩ = some (.slice y.wa x.o.words.length y.wc))
        (first | with_reducible exact i0 | with_reducible exact i1)
        (first
          | (go_at_call 21; refine (sameObj_any _ _ _ _ _ x.o (HXO.out.fresh (Below.refl _ _).drew) (HYO.out.fresh (Below.refl _ _).drew)).mono ?_; rintro e w16 ⟨rfl, hb16⟩; have hb16 := undrew hb16; have BW16 := Lib.hid (below_then BW.out BW.out.size hb16); have HB16 := Lib.hid (below_then HB2.out zb hb16); have i1 : w16.cell? ⟨g, k * 5, none⟩ = some (.int .i64 x.o.op) ∧ w16.cell? ⟨g, k * 5 + 1, none⟩ = some (.int .i64 x.o.n) ∧ w16.cell? ⟨g, k * 5 + 2, none⟩ = some (.int .i64 x.o.ar) ∧ w16.cell? ⟨g, k * 5 + 3, none⟩ = some (.slice x.ra x.o.refs.length x.rc) ∧ w16.cell? ⟨g, k * 5 + 4, none⟩ = some (.slice x.wa x.o.words.length x.wc) ∧ w16.cell? ⟨g', k * 5, none⟩ = some (.int .i64 x.o.op) ∧ w16.cell? ⟨g', k * 5 + 1, none⟩ = some (.int .i64 x.o.n) ∧ w16.cell? ⟨g', k * 5 + 2, none⟩ = some (.int .i64 x.o.ar) ∧ w16.cell? ⟨g', k * 5 + 3, none⟩ = some (.slice y.ra x.o.refs.length y.rc) ∧ w16.cell? ⟨g', k * 5 + 4, none⟩ = some (.slice y.wa x.o.words.length y.wc) := ⟨below_cell hb16 i0.1 lg, below_cell hb16 i0.2.1 lg, below_cell hb16 i0.2.2.1 lg, below_cell hb16 i0.2.2.2.1 lg, below_cell hb16 i0.2.2.2.2.1 lg, below_cell hb16 i0.2.2.2.2.2.1 lg', below_cell hb16 i0.2.2.2.2.2.2.1 lg', below_cell hb16 i0.2.2.2.2.2.2.2.1 lg', below_cell hb16 i0.2.2.2.2.2.2.2.2.1 lg', below_cell hb16 i0.2.2.2.2.2.2.2.2.2 lg'⟩; clear hb16))
      clear i0 i1
      rename_i hHeld
      clear hHeld
      go_wp2_with fail
      go_roundw
      case rel => exact ⟨k + 1, by have := HLT.out; omega, by go_num, HB16.out⟩
      case measure => have := HLT.out; simp [intOf]; omega
    · clear hk
      go_wp2_with fail
      go_ret
      exact ⟨rfl, BW.out⟩
end Go.Proofs.Ytobniolmielikaa

/- The walk of the law CollectIsomorphic; no condition. -/
namespace Go.Proofs.Ytobniolmielikaa
open Go.RowKit

set_option maxRecDepth 100000 in
set_option maxHeartbeats 8000000 in
theorem collectIsomorphic_law (w : World) (n o : Int) (v1 v2 rv kv : Value) (l1 l2 : List It) (roots ks : List Int) (hk : KindsAt w kv ks) (hi : HeapIn w v1 v2 l1 l2) (hr : Ints (· < w.heap.size) w rv roots) :
    Calls Try.prog 11 #[.agg #[.int .i64 n, .int .i64 o, v1, v2], rv, kv] w fun e w' => e = .returned (.bool true) ∧ Below w.heap.size w w' := by
  obtain ⟨A1, c1, rfl⟩ := hi.r1.shape
  obtain ⟨A2, c2, rfl⟩ := hi.r2.shape
  obtain ⟨A, c, rfl⟩ := hr.shape
  obtain ⟨A3, c3, rfl, hk1⟩ := hk
  have KS0 := Lib.hid (show KindsAt w (.slice A3 ks.length c3) ks from ⟨A3, c3, rfl, hk1⟩)
  clear hk1
  have HI := Lib.hid hi
  have HR := Lib.hid hr
  clear hi hr
  obtain ⟨X0, hX0⟩ : ∃ X : Obj, Obj.cells #[.int .i64 n, .int .i64 o, .slice A1 l1.length c1, .slice A2 l2.length c2] 62 = X := ⟨_, rfl⟩
  have B0 := Lib.hid ((Below.refl w.heap.size w).alloc (Nat.le_refl _) X0)
  have X62 := Lib.hid (show (w.alloc X0).heap[w.heap.size]? = some (.cells #[.int .i64 n, .int .i64 o, .slice A1 l1.length c1, .slice A2 l2.length c2] 62) by rw [hX0]; exact new0 _ _)
  have zx : (w.alloc X0).heap.size = w.heap.size + 1 := by simp
  go_enter Try.func11, Try.ntmps11
  go_upto_region 1 with (fail)
  clear hX0
  generalize w.alloc X0 = wx at *
  have cx := box62 X62.out
  go_wp2_with fail
  refine (made34_any (· < w.heap.size) wx n o _ _ l1 l2 (HI.out.r1.fresh B0.out) (HI.out.r2.fresh B0.out) (fun x hx => (HI.out.o1 x hx).fresh B0.out) (fun x hx => (HI.out.o2 x hx).fresh B0.out) (fun k hk => by omega) HI.out.room).mono ?_
  intro e w1 hm
  unfold MadeEnd at hm
  obtain ⟨hb1, hc⟩ := hm
  have B1 := Lib.hid (below_then B0.out B0.out.size hb1)
  have Y62 := Lib.hid (rowB hb1 X62.out (heap_lt X62.out))
  have D1 := Lib.hid hb1
  have zz1 := hb1.size
  clear hb1 cx
  have cy := box62 Y62.out
  have HC := Lib.hid hc
  clear hc
  rcases HC.out with ⟨rfl, -⟩ | ⟨h, y, a, r, NV, AV, H, R, rfl, m⟩
  · clear HC
    go_wp2_with fail
    refine (small35_any (· < w.heap.size) (· < w.heap.size) w1 n o _ _ _ l1 l2 roots (HI.out.r1.fresh B1.out) (HI.out.r2.fresh B1.out) (HR.out.fresh B1.out)).mono ?_
    rintro e w2 ⟨hb2, b, rfl, -⟩
    have B2 := Lib.hid (below_then B1.out B1.out.size hb2)
    clear hb2 cy
    cases b <;>
    · go_wp2_with fail
      refine (awake_any _).mono ?_
      rintro e w3 ⟨rfl, hb3⟩
      have B3 := Lib.hid (below_then B2.out B2.out.size hb3)
      clear hb3
      go_wp2_with fail
      go_ret
      exact ⟨rfl, B3.out⟩
  have M := Lib.hid m
  clear HC m
  go_wp2_with fail
  refine (small35_any (· < w.heap.size) (· < w.heap.size) w1 n o _ _ _ l1 l2 roots (HI.out.r1.fresh B1.out) (HI.out.r2.fresh B1.out) (HR.out.fresh B1.out)).mono ?_
  rintro e w2 ⟨hb2, b, rfl, hsm⟩
  have B2 := Lib.hid (below_then B1.out B1.out.size hb2)
  have D2 := Lib.hid hb2
  have SM := Lib.hid hsm
  clear hb2 cy hsm
  cases b with
  | false =>
    go_wp2_with fail
    refine (awake_any _).mono ?_
    rintro e w3 ⟨rfl, hb3⟩
    have B3 := Lib.hid (below_then B2.out B2.out.size hb3)
    clear hb3
    go_wp2_with fail
    go_ret
    exact ⟨rfl, B3.out⟩
  | true =>
  have P2 := Lib.hid ((M.out.pair (SM.out rfl)).fresh D2.out)
  have RL := Lib.hid (SM.out rfl).c
  have zz2 := D2.out.size
  have zb2 := B2.out.size
  have HR2 := Lib.hid (HR.out.fresh B2.out)
  clear SM M HI X62 Y62 HR B0 B1 D1 D2
  by_cases hk10 : ks.length ≤ 10
  · go_wp2_with fail
    clear hk10
    have LT := Lib.hid P2.out.two.lt
    go_loopw [1, 9] (fun v i W => ∃ (k : Nat) (H0 : HM) (xs : List Int), k ≤ ks.length ∧ i = .int .i64 k ∧ IsoAt wx.heap.size w2 h y a roots.length H0 xs v W) (fun _ i _ => ks.length - (intOf i).toNat)
    case atStart => exact ⟨0, H, roots, Nat.zero_le _, rfl, ⟨P2.out.two.p, P2.out.wel, P2.out.bnd, HR2.out.mono (fun k _ hk e => by have := P2.out.lowH k e; omega), rfl, Below.refl _ _⟩⟩
    case round =>
      obtain ⟨k, H0, xs, hkl, rfl, hat⟩ := hrel
      obtain ⟨A0, c0, rfl⟩ := hat.ints.shape
      have AT := Lib.hid hat
      have BW := Lib.hid (B2.out.trans (hat.bel.mono (by omega)))
      have KW := Lib.hid (KS0.out.fresh BW.out)
      have zr := hat.bel.size
      have XL := Lib.hid (show xs.length ≤ 20 by rw [hat.len]; exact RL.out)
      clear hat
      by_cases hlt : k < ks.length
      · have KL := Lib.hid hlt
        go_wp2_with fail
        refine (graph_any _ _ h y a H0 _ xs AT.out.heap AT.out.ints AT.out.wel.n1 AT.out.wel.nd (by have := AT.out.bnd.fuel XL.out; omega)).mono ?_
        intro e w3 hg
        obtain ⟨hb3, hnone, hsome⟩ := hg
        have BR3 := Lib.hid hb3
        have B3 := Lib.hid (below_then BW.out BW.out.size hb3)
        have z3 := hb3.size
        clear hb3
        cases hl : H0.live xs with
        | none =>
          have he := hnone hl
          subst he
          clear hnone hsome hl
          go_wp2_with fail
          refine (awake_any _).mono ?_
          rintro e wq ⟨rfl, hbq⟩
          have BQ := Lib.hid (below_then B3.out B3.out.size hbq)
          clear hbq
          go_wp2_with fail
          go_ret
          exact ⟨rfl, BQ.out⟩
        | some L =>
          obtain ⟨v3, u3, l3, rfl, i3, o3, m3, ob3⟩ := hsome L hl
          obtain ⟨A3a, c3a, e3a⟩ := i3.shape
          rw [List.length_map] at e3a
          subst e3a
          obtain ⟨U3, k3, rfl⟩ := o3.shape
          have I3 := Lib.hid i3
          have O3 := Lib.hid o3
          have M3 := Lib.hid m3
          have OB3 := Lib.hid ob3
          have HLV := Lib.hid hl
          have LL := Lib.hid (show L.length ≤ 1000000 from by
            have h1 := bfs_len _ _ _ _ (live_found hl).2
            have h2 := AT.out.bnd.fuel XL.out
            have h3 : ([] : List Int).length = 0 := rfl
            omega)
          have hl3 : l3.length = L.length := by simpa using congrArg List.length m3
          have HL3 := Lib.hid hl3
          clear hnone hsome hl i3 o3 m3 ob3 hl3
          obtain ⟨ad, eA, had, hcell⟩ : ∃ ad, A3 = some ad ∧ ad.block < wr.heap.size ∧ ∀ (i : Nat) (q : Int), ks[i]? = some q → wr.cell? (ad.add i) = some (.int .u8 q) := by
            obtain ⟨A', cap', e', h'⟩ := KW.out
            cases e'
            exact h' (by omega)
          have hck := cellBelow (hcell k _ (List.getElem?_eq_getElem hlt)) BR3.out (by rw [addr_block]; exact had)
          generalize ks[k] = z at hck
          subst eA
          clear hcell
          obtain ⟨w4, hws, hb4⟩ : ∃ W, W = w3.alloc (.cells #[.int .i64 0, .int .i64 0, .int .i64 0, .int .i64 0, .int .i64 0, .int .i64 0, .int .i64 0, .int .i64 0] 75) ∧ Below w3.heap.size w3 W := ⟨_, rfl, (Below.refl _ _).alloc (Nat.le_refl _) _⟩
          have hbz : w4.heap[w3.heap.size]? = some (.cells #[.int .i64 0, .int .i64 0, .int .i64 0, .int .i64 0, .int .i64 0, .int .i64 0, .int .i64 0, .int .i64 0] 75) := by rw [hws]; exact new0 _ _
          have z4 : w4.heap.size = w3.heap.size + 1 := by rw [hws]; simp
          have hck4 := cellBelow hck hb4 (by rw [addr_block]; omega)
          go_upto_region 13 with (fail)
          rw [← hws]
          clear hws hck
          have Z4 := Lib.hid hbz
          have BR4 := Lib.hid (below_then BR3.out BR3.out.size hb4)
          have T34 := Lib.hid (below_turn hb4 (HB h y a))
          have B4 := Lib.hid (below_then B3.out B3.out.size hb4)
          have HA4 := Lib.hid (AT.out.heap.fresh BR4.out)
          have I4 := Lib.hid (AT.out.ints.fresh BR4.out)
          clear hbz hb4
          have HBL := Lib.hid (show ∀ k, HB h y a k → wx.heap.size ≤ k ∧ k < w2.heap.size from fun k e => P2.out.lowH k e)
          have IR3 := Lib.hid (AT.out.ints.fresh BR3.out)
          by_cases q0 : z = 0
          · subst q0
            go_wp2_with fail
            refine (isoC_minor _ HA4.out AT.out.wel AT.out.bnd I4.out (fun k hk => hk) XL.out HLV.out).mono ?_
            intro e w5 he
            unfold IsoEnd at he
            rcases he with ⟨err, hno⟩ | ⟨H5, xs5, L5, v5, hy5, he5⟩
            · obtain ⟨rfl, hbad, ht5, hh5⟩ := hno
              have hbad' : (err == 0) = false := by simpa using hbad
              have T35 := Lib.hid (T34.out.trans ht5)
              have HA5 := Lib.hid hh5
              have Z5 := Lib.hid (rowT ht5 Z4.out (by have := LT.out; rintro (e | e | e) <;> omega))
              have B5 := Lib.hid (B4.out.trans (ht5.below (by have := B4.out.size; omega) (fun k e => by have := HBL.out k e; omega)))
              have I45 := Lib.hid (I4.out.turn ht5 (fun k hk => hk))
              have z5 := ht5.size
              clear ht5 hh5 hbad
              obtain ⟨w6, hws, ht6⟩ : ∃ W, W = set8 w5 w3.heap.size (.int .i64 0) (.int .i64 0) (.int .i64 0) (.int .i64 0) (.int .i64 0) (.int .i64 0) (.int .i64 0) (.int .i64 0) ∧ Turn (fun k => k = w3.heap.size) w5 W := ⟨_, rfl, set8_turn (S := fun k => k = w3.heap.size) (Turn.refl _ _) rfl _ _ _ _ _ _ _ _⟩
              have hbz : w6.heap[w3.heap.size]? = some (.cells #[.int .i64 0, .int .i64 0, .int .i64 0, .int .i64 0, .int .i64 0, .int .i64 0, .int .i64 0, .int .i64 0] 75) := by rw [hws]; exact set8_row Z5.out _ _ _ _ _ _ _ _
              have cx := cellsH Z5.out
              have fx := freeH Z5.out
              unfold set8 set5 at hws
              go_upto_region 19 with (fail)
              rw [← hws]
              clear hws cx fx
              have Z6 := Lib.hid hbz
              have T36 := Lib.hid (T35.out.under ht6 (fun k hk e => by omega))
              have HA6 := Lib.hid (heap_past (w := w3) (by have := LT.out; omega) HA5.out Z5.out ht6)
              have B6 := Lib.hid (B5.out.trans (ht6.below (by have := B5.out.size; omega) (fun k e => by have := B3.out.size; omega)))
              have z6 := ht6.size
              have IG := Lib.hid (IR3.out.turn T36.out (fun k hk => hk))
              clear hbz ht6
              have I36 := Lib.hid (I3.out.turn T36.out (fun k hk e => by have := LT.out; have hk2 : wr.heap.size ≤ k := hk; rcases e with e | e | e <;> omega))
              have O36 := Lib.hid (OwnO.kept O3.out (fun g hg => T36.out.block g (by obtain ⟨_, cs, f, hr⟩ := OwnO.row O3.out hg; exact heap_lt hr) (fun e => by have h1 := (OwnO.row O3.out hg).1; have := LT.out; rcases e with e | e | e <;> omega)))
              have OB36 := Lib.hid (show ∀ x ∈ l3, ObAt (wr.heap.size ≤ ·) w6 x.val x.o from fun x hx => (OB3.out x hx).turn T36.out (fun k hk e => by have := LT.out; rcases e with e | e | e <;> omega))
              have HAG := Lib.hid HA6.out
              have WG := Lib.hid AT.out.wel
              have BG := Lib.hid AT.out.bnd
              have XG := Lib.hid XL.out
              have SG := Lib.hid (sameG_refl HLV.out)
              have DG := Lib.hid (Below.refl w6.heap.size w6)
              go_wp2_with fail
              refine (graph_any _ w6 h y a H0 _ xs HAG.out IG.out WG.out.n1 WG.out.nd (by have := BG.out.fuel XG.out; omega)).mono ?_
              intro e w8 hg
              obtain ⟨hb8, -, hsome⟩ := hg
              obtain ⟨v8, u8, l8, rfl, i8, o8, m8, ob8⟩ := hsome L SG.out.live
              obtain ⟨A8, c8, e8⟩ := i8.shape
              rw [List.length_map] at e8
              subst e8
              obtain ⟨U8, k8, rfl⟩ := o8.shape
              have I8 := Lib.hid i8
              have O8 := Lib.hid o8
              have M8 := Lib.hid m8
              have OB8 := Lib.hid ob8
              have D8 := Lib.hid (below_then DG.out DG.out.size hb8)
              have E8 := Lib.hid hb8
              have B8 := Lib.hid (below_then B6.out B6.out.size D8.out)
              have z8 := D8.out.size
              clear hsome hb8 i8 o8 m8 ob8
              have ES := Lib.hid (show l3.map (·.o) = l8.map (·.o) from (M3.out.trans SG.out.obs.symm).trans M8.out.symm)
              go_wp2_with fail
              refine (sameGraph_any _ _ _ _ _ _ w8 _ _ _ _ (xs.map (mv L 0)) l3 l8 (I36.out.fresh D8.out) (by have h0 := I8.out; rw [SG.out.roots] at h0; exact h0) (OwnO.fresh O36.out D8.out) O8.out (fun x hx => (OB36.out x hx).fresh D8.out) OB8.out ES.out (by rw [HL3.out]; exact LL.out)).mono ?_
              rintro e w9 ⟨rfl, hb9⟩
              have D9 := Lib.hid (below_then D8.out D8.out.size hb9)
              have z9 := D9.out.size
              clear hb9
              go_wp2_with fail
              go_roundw
              case rel => exact ⟨k + 1, H0, xs, by have := KL.out; omega, by go_num, ⟨HA6.out.fresh D9.out, WG.out, BG.out, IG.out.fresh D9.out, AT.out.len, (AT.out.bel.trans (((T36.out.below (by omega) (fun k e => (HBL.out k e).1)) : Below wx.heap.size w3 w6) |> fun b => ((BR3.out.mono (by omega)).trans b).trans (D9.out.mono (by omega))))⟩⟩
              case measure => have := KL.out; simp [intOf]; omega
            · have HY5 := Lib.hid hy5
              obtain ⟨A5, c5, rfl⟩ := hy5.ints.shape
              have T35 := Lib.hid (T34.out.trans hy5.turn)
              have HA5 := Lib.hid hy5.heap
              have Z5 := Lib.hid (rowT hy5.turn Z4.out (by have := LT.out; rintro (e | e | e) <;> omega))
              have B5 := Lib.hid (B4.out.trans (hy5.turn.below (by have := B4.out.size; omega) (fun k e => by have := HBL.out k e; omega)))
              have z5 := hy5.turn.size
              have EL := Lib.hid hy5.len
              rw [← HL3.out] at he5
              clear hy5
              rcases he5 with ⟨co, rfl⟩ | rfl
              · skip
                obtain ⟨w6, hws, ht6⟩ : ∃ W, W = set8 w5 w3.heap.size (.int .i64 0) (.int .i64 0) (.int .i64 0) (.int .i64 0) (.int .i64 1) (.int .i64 0) (.int .i64 co) (.int .i64 H5.la.length) ∧ Turn (fun k => k = w3.heap.size) w5 W := ⟨_, rfl, set8_turn (S := fun k => k = w3.heap.size) (Turn.refl _ _) rfl _ _ _ _ _ _ _ _⟩
                have hbz : w6.heap[w3.heap.size]? = some (.cells #[.int .i64 0, .int .i64 0, .int .i64 0, .int .i64 0, .int .i64 1, .int .i64 0, .int .i64 co, .int .i64 H5.la.length] 75) := by rw [hws]; exact set8_row Z5.out _ _ _ _ _ _ _ _
                have cx := cellsH Z5.out
                have fx := freeH Z5.out
                unfold set8 set5 at hws
                go_upto_region 19 with (fail)
                rw [← hws]
                clear hws cx fx
                have Z6 := Lib.hid hbz
                have T36 := Lib.hid (T35.out.under ht6 (fun k hk e => by omega))
                have HA6 := Lib.hid (heap_past (w := w3) (by have := LT.out; omega) HA5.out Z5.out ht6)
                have B6 := Lib.hid (B5.out.trans (ht6.below (by have := B5.out.size; omega) (fun k e => by have := B3.out.size; omega)))
                have z6 := ht6.size
                have IV6 := Lib.hid (HY5.out.ints.turn ht6 (fun k hk e => by have hk2 : w4.heap.size ≤ k := hk; omega))
                clear hbz ht6
                have I36 := Lib.hid (I3.out.turn T36.out (fun k hk e => by have := LT.out; have hk2 : wr.heap.size ≤ k := hk; rcases e with e | e | e <;> omega))
                have O36 := Lib.hid (OwnO.kept O3.out (fun g hg => T36.out.block g (by obtain ⟨_, cs, f, hr⟩ := OwnO.row O3.out hg; exact heap_lt hr) (fun e => by have h1 := (OwnO.row O3.out hg).1; have := LT.out; rcases e with e | e | e <;> omega)))
                have OB36 := Lib.hid (show ∀ x ∈ l3, ObAt (wr.heap.size ≤ ·) w6 x.val x.o from fun x hx => (OB3.out x hx).turn T36.out (fun k hk e => by have := LT.out; rcases e with e | e | e <;> omega))
                go_wp2_with fail
                refine (count_any w6 h y a H5 HA6.out).mono ?_
                rintro e w7 ⟨rfl, n7, rfl⟩
                have hly : (H5.ly.length : Int) = 0 := by rw [HY5.out.ly]; rfl
                rw [hly]
                clear hly
                have DG := Lib.hid (below_drewN (Below.refl w6.heap.size w6) n7)
                generalize w6.drewN n7 = w7 at *
                have cz := cellsH (rowB DG.out Z6.out (heap_lt Z6.out))
                have z7 := DG.out.size
                have HAG := Lib.hid (HA6.out.fresh DG.out)
                have WG := Lib.hid HY5.out.wel
                have BG := Lib.hid HY5.out.bnd
                have XG := Lib.hid (show xs5.length ≤ 20 by rw [EL.out]; exact XL.out)
                have SG := Lib.hid HY5.out.same
                have IG := Lib.hid (IV6.out.fresh DG.out)
                go_upto_region 24 with (fail)
                clear cz
                go_wp2_with fail
                refine (graph_any _ w7 h y a H5 _ xs5 HAG.out IG.out WG.out.n1 WG.out.nd (by have := BG.out.fuel XG.out; omega)).mono ?_
                intro e w8 hg
                obtain ⟨hb8, -, hsome⟩ := hg
                obtain ⟨v8, u8, l8, rfl, i8, o8, m8, ob8⟩ := hsome L5 SG.out.live
                obtain ⟨A8, c8, e8⟩ := i8.shape
                rw [List.length_map] at e8
                subst e8
                obtain ⟨U8, k8, rfl⟩ := o8.shape
                have I8 := Lib.hid i8
                have O8 := Lib.hid o8
                have M8 := Lib.hid m8
                have OB8 := Lib.hid ob8
                have D8 := Lib.hid (below_then DG.out DG.out.size hb8)
                have E8 := Lib.hid hb8
                have B8 := Lib.hid (below_then B6.out B6.out.size D8.out)
                have z8 := D8.out.size
                clear hsome hb8 i8 o8 m8 ob8
                have ES := Lib.hid (show l3.map (·.o) = l8.map (·.o) from (M3.out.trans SG.out.obs.symm).trans M8.out.symm)
                go_wp2_with fail
                refine (sameGraph_any _ _ _ _ _ _ w8 _ _ _ _ (xs.map (mv L 0)) l3 l8 (I36.out.fresh D8.out) (by have h0 := I8.out; rw [SG.out.roots] at h0; exact h0) (OwnO.fresh O36.out D8.out) O8.out (fun x hx => (OB36.out x hx).fresh D8.out) OB8.out ES.out (by rw [HL3.out]; exact LL.out)).mono ?_
                rintro e w9 ⟨rfl, hb9⟩
                have D9 := Lib.hid (below_then D8.out D8.out.size hb9)
                have z9 := D9.out.size
                clear hb9
                go_wp2_with fail
                go_roundw
                case rel => exact ⟨k + 1, H5, xs5, by have := KL.out; omega, by go_num, ⟨HA6.out.fresh D9.out, WG.out, BG.out, (IV6.out.fresh D9.out).mono (fun k _ hk e => by have := HBL.out k e; have hk2 : w4.heap.size ≤ k := hk; omega), by rw [EL.out]; exact AT.out.len, (AT.out.bel.trans (((T36.out.below (by omega) (fun k e => (HBL.out k e).1)) : Below wx.heap.size w3 w6) |> fun b => ((BR3.out.mono (by omega)).trans b).trans (D9.out.mono (by omega))))⟩⟩
                case measure => have := KL.out; simp [intOf]; omega
              · skip
                obtain ⟨w6, hws, ht6⟩ : ∃ W, W = set8 w5 w3.heap.size (.int .i64 0) (.int .i64 0) (.int .i64 0) (.int .i64 0) (.int .i64 0) (.int .i64 1) (.int .i64 l3.length) (.int .i64 H5.la.length) ∧ Turn (fun k => k = w3.heap.size) w5 W := ⟨_, rfl, set8_turn (S := fun k => k = w3.heap.size) (Turn.refl _ _) rfl _ _ _ _ _ _ _ _⟩
                have hbz : w6.heap[w3.heap.size]? = some (.cells #[.int .i64 0, .int .i64 0, .int .i64 0, .int .i64 0, .int .i64 0, .int .i64 1, .int .i64 l3.length, .int .i64 H5.la.length] 75) := by rw [hws]; exact set8_row Z5.out _ _ _ _ _ _ _ _
                have cx := cellsH Z5.out
                have fx := freeH Z5.out
                unfold set8 set5 at hws
                go_upto_region 19 with (fail)
                rw [← hws]
                clear hws cx fx
                have Z6 := Lib.hid hbz
                have T36 := Lib.hid (T35.out.under ht6 (fun k hk e => by omega))
                have HA6 := Lib.hid (heap_past (w := w3) (by have := LT.out; omega) HA5.out Z5.out ht6)
                have B6 := Lib.hid (B5.out.trans (ht6.below (by have := B5.out.size; omega) (fun k e => by have := B3.out.size; omega)))
                have z6 := ht6.size
                have IV6 := Lib.hid (HY5.out.ints.turn ht6 (fun k hk e => by have hk2 : w4.heap.size ≤ k := hk; omega))
                clear hbz ht6
                have I36 := Lib.hid (I3.out.turn T36.out (fun k hk e => by have := LT.out; have hk2 : wr.heap.size ≤ k := hk; rcases e with e | e | e <;> omega))
                have O36 := Lib.hid (OwnO.kept O3.out (fun g hg => T36.out.block g (by obtain ⟨_, cs, f, hr⟩ := OwnO.row O3.out hg; exact heap_lt hr) (fun e => by have h1 := (OwnO.row O3.out hg).1; have := LT.out; rcases e with e | e | e <;> omega)))
                have OB36 := Lib.hid (show ∀ x ∈ l3, ObAt (wr.heap.size ≤ ·) w6 x.val x.o from fun x hx => (OB3.out x hx).turn T36.out (fun k hk e => by have := LT.out; rcases e with e | e | e <;> omega))
                go_wp2_with fail
                refine (count_any w6 h y a H5 HA6.out).mono ?_
                rintro e w7 ⟨rfl, n7, rfl⟩
                have hly : (H5.ly.length : Int) = 0 := by rw [HY5.out.ly]; rfl
                rw [hly]
                clear hly
                have DG := Lib.hid (below_drewN (Below.refl w6.heap.size w6) n7)
                generalize w6.drewN n7 = w7 at *
                have cz := cellsH (rowB DG.out Z6.out (heap_lt Z6.out))
                have z7 := DG.out.size
                have HAG := Lib.hid (HA6.out.fresh DG.out)
                have WG := Lib.hid HY5.out.wel
                have BG := Lib.hid HY5.out.bnd
                have XG := Lib.hid (show xs5.length ≤ 20 by rw [EL.out]; exact XL.out)
                have SG := Lib.hid HY5.out.same
                have IG := Lib.hid (IV6.out.fresh DG.out)
                go_upto_region 24 with (fail)
                clear cz
                go_wp2_with fail
                refine (graph_any _ w7 h y a H5 _ xs5 HAG.out IG.out WG.out.n1 WG.out.nd (by have := BG.out.fuel XG.out; omega)).mono ?_
                intro e w8 hg
                obtain ⟨hb8, -, hsome⟩ := hg
                obtain ⟨v8, u8, l8, rfl, i8, o8, m8, ob8⟩ := hsome L5 SG.out.live
                obtain ⟨A8, c8, e8⟩ := i8.shape
                rw [List.length_map] at e8
                subst e8
                obtain ⟨U8, k8, rfl⟩ := o8.shape
                have I8 := Lib.hid i8
                have O8 := Lib.hid o8
                have M8 := Lib.hid m8
                have OB8 := Lib.hid ob8
                have D8 := Lib.hid (below_then DG.out DG.out.size hb8)
                have E8 := Lib.hid hb8
                have B8 := Lib.hid (below_then B6.out B6.out.size D8.out)
                have z8 := D8.out.size
                clear hsome hb8 i8 o8 m8 ob8
                have ES := Lib.hid (show l3.map (·.o) = l8.map (·.o) from (M3.out.trans SG.out.obs.symm).trans M8.out.symm)
                go_wp2_with fail
                refine (sameGraph_any _ _ _ _ _ _ w8 _ _ _ _ (xs.map (mv L 0)) l3 l8 (I36.out.fresh D8.out) (by have h0 := I8.out; rw [SG.out.roots] at h0; exact h0) (OwnO.fresh O36.out D8.out) O8.out (fun x hx => (OB36.out x hx).fresh D8.out) OB8.out ES.out (by rw [HL3.out]; exact LL.out)).mono ?_
                rintro e w9 ⟨rfl, hb9⟩
                have D9 := Lib.hid (below_then D8.out D8.out.size hb9)
                have z9 := D9.out.size
                clear hb9
                go_wp2_with fail
                go_roundw
                case rel => exact ⟨k + 1, H5, xs5, by have := KL.out; omega, by go_num, ⟨HA6.out.fresh D9.out, WG.out, BG.out, (IV6.out.fresh D9.out).mono (fun k _ hk e => by have := HBL.out k e; have hk2 : w4.heap.size ≤ k := hk; omega), by rw [EL.out]; exact AT.out.len, (AT.out.bel.trans (((T36.out.below (by omega) (fun k e => (HBL.out k e).1)) : Below wx.heap.size w3 w6) |> fun b => ((BR3.out.mono (by omega)).trans b).trans (D9.out.mono (by omega))))⟩⟩
                case measure => have := KL.out; simp [intOf]; omega
          by_cases q1 : z = 1
          · subst q1
            go_wp2_with fail
            refine (isoC_major _ HA4.out AT.out.wel AT.out.bnd I4.out (fun k hk => hk) XL.out HLV.out).mono ?_
            intro e w5 he
            unfold IsoEnd at he
            rcases he with ⟨err, hno⟩ | ⟨H5, xs5, L5, v5, hy5, he5⟩
            · obtain ⟨rfl, hbad, ht5, hh5⟩ := hno
              have hbad' : (err == 0) = false := by simpa using hbad
              have T35 := Lib.hid (T34.out.trans ht5)
              have HA5 := Lib.hid hh5
              have Z5 := Lib.hid (rowT ht5 Z4.out (by have := LT.out; rintro (e | e | e) <;> omega))
              have B5 := Lib.hid (B4.out.trans (ht5.below (by have := B4.out.size; omega) (fun k e => by have := HBL.out k e; omega)))
              have I45 := Lib.hid (I4.out.turn ht5 (fun k hk => hk))
              have z5 := ht5.size
              clear ht5 hh5 hbad
              obtain ⟨w6, hws, ht6⟩ : ∃ W, W = set8 w5 w3.heap.size (.int .i64 0) (.int .i64 0) (.int .i64 0) (.int .i64 0) (.int .i64 0) (.int .i64 0) (.int .i64 0) (.int .i64 0) ∧ Turn (fun k => k = w3.heap.size) w5 W := ⟨_, rfl, set8_turn (S := fun k => k = w3.heap.size) (Turn.refl _ _) rfl _ _ _ _ _ _ _ _⟩
              have hbz : w6.heap[w3.heap.size]? = some (.cells #[.int .i64 0, .int .i64 0, .int .i64 0, .int .i64 0, .int .i64 0, .int .i64 0, .int .i64 0, .int .i64 0] 75) := by rw [hws]; exact set8_row Z5.out _ _ _ _ _ _ _ _
              have cx := cellsH Z5.out
              have fx := freeH Z5.out
              unfold set8 set5 at hws
              go_upto_region 19 with (fail)
              rw [← hws]
              clear hws cx fx
              have Z6 := Lib.hid hbz
              have T36 := Lib.hid (T35.out.under ht6 (fun k hk e => by omega))
              have HA6 := Lib.hid (heap_past (w := w3) (by have := LT.out; omega) HA5.out Z5.out ht6)
              have B6 := Lib.hid (B5.out.trans (ht6.below (by have := B5.out.size; omega) (fun k e => by have := B3.out.size; omega)))
              have z6 := ht6.size
              have IG := Lib.hid (IR3.out.turn T36.out (fun k hk => hk))
              clear hbz ht6
              have I36 := Lib.hid (I3.out.turn T36.out (fun k hk e => by have := LT.out; have hk2 : wr.heap.size ≤ k := hk; rcases e with e | e | e <;> omega))
              have O36 := Lib.hid (OwnO.kept O3.out (fun g hg => T36.out.block g (by obtain ⟨_, cs, f, hr⟩ := OwnO.row O3.out hg; exact heap_lt hr) (fun e => by have h1 := (OwnO.row O3.out hg).1; have := LT.out; rcases e with e | e | e <;> omega)))
              have OB36 := Lib.hid (show ∀ x ∈ l3, ObAt (wr.heap.size ≤ ·) w6 x.val x.o from fun x hx => (OB3.out x hx).turn T36.out (fun k hk e => by have := LT.out; rcases e with e | e | e <;> omega))
              have HAG := Lib.hid HA6.out
              have WG := Lib.hid AT.out.wel
              have BG := Lib.hid AT.out.bnd
              have XG := Lib.hid XL.out
              have SG := Lib.hid (sameG_refl HLV.out)
              have DG := Lib.hid (Below.refl w6.heap.size w6)
              go_wp2_with fail
              refine (graph_any _ w6 h y a H0 _ xs HAG.out IG.out WG.out.n1 WG.out.nd (by have := BG.out.fuel XG.out; omega)).mono ?_
              intro e w8 hg
              obtain ⟨hb8, -, hsome⟩ := hg
              obtain ⟨v8, u8, l8, rfl, i8, o8, m8, ob8⟩ := hsome L SG.out.live
              obtain ⟨A8, c8, e8⟩ := i8.shape
              rw [List.length_map] at e8
              subst e8
              obtain ⟨U8, k8, rfl⟩ := o8.shape
              have I8 := Lib.hid i8
              have O8 := Lib.hid o8
              have M8 := Lib.hid m8
              have OB8 := Lib.hid ob8
              have D8 := Lib.hid (below_then DG.out DG.out.size hb8)
              have E8 := Lib.hid hb8
              have B8 := Lib.hid (below_then B6.out B6.out.size D8.out)
              have z8 := D8.out.size
              clear hsome hb8 i8 o8 m8 ob8
              have ES := Lib.hid (show l3.map (·.o) = l8.map (·.o) from (M3.out.trans SG.out.obs.symm).trans M8.out.symm)
              go_wp2_with fail
              refine (sameGraph_any _ _ _ _ _ _ w8 _ _ _ _ (xs.map (mv L 0)) l3 l8 (I36.out.fresh D8.out) (by have h0 := I8.out; rw [SG.out.roots] at h0; exact h0) (OwnO.fresh O36.out D8.out) O8.out (fun x hx => (OB36.out x hx).fresh D8.out) OB8.out ES.out (by rw [HL3.out]; exact LL.out)).mono ?_
              rintro e w9 ⟨rfl, hb9⟩
              have D9 := Lib.hid (below_then D8.out D8.out.size hb9)
              have z9 := D9.out.size
              clear hb9
              go_wp2_with fail
              go_roundw
              case rel => exact ⟨k + 1, H0, xs, by have := KL.out; omega, by go_num, ⟨HA6.out.fresh D9.out, WG.out, BG.out, IG.out.fresh D9.out, AT.out.len, (AT.out.bel.trans (((T36.out.below (by omega) (fun k e => (HBL.out k e).1)) : Below wx.heap.size w3 w6) |> fun b => ((BR3.out.mono (by omega)).trans b).trans (D9.out.mono (by omega))))⟩⟩
              case measure => have := KL.out; simp [intOf]; omega
            · have HY5 := Lib.hid hy5
              obtain ⟨A5, c5, rfl⟩ := hy5.ints.shape
              have T35 := Lib.hid (T34.out.trans hy5.turn)
              have HA5 := Lib.hid hy5.heap
              have Z5 := Lib.hid (rowT hy5.turn Z4.out (by have := LT.out; rintro (e | e | e) <;> omega))
              have B5 := Lib.hid (B4.out.trans (hy5.turn.below (by have := B4.out.size; omega) (fun k e => by have := HBL.out k e; omega)))
              have z5 := hy5.turn.size
              have EL := Lib.hid hy5.len
              rw [← HL3.out] at he5
              clear hy5
              rcases he5 with ⟨co, rfl⟩ | rfl
              · skip
                obtain ⟨w6, hws, ht6⟩ : ∃ W, W = set8 w5 w3.heap.size (.int .i64 0) (.int .i64 0) (.int .i64 0) (.int .i64 0) (.int .i64 1) (.int .i64 0) (.int .i64 co) (.int .i64 H5.la.length) ∧ Turn (fun k => k = w3.heap.size) w5 W := ⟨_, rfl, set8_turn (S := fun k => k = w3.heap.size) (Turn.refl _ _) rfl _ _ _ _ _ _ _ _⟩
                have hbz : w6.heap[w3.heap.size]? = some (.cells #[.int .i64 0, .int .i64 0, .int .i64 0, .int .i64 0, .int .i64 1, .int .i64 0, .int .i64 co, .int .i64 H5.la.length] 75) := by rw [hws]; exact set8_row Z5.out _ _ _ _ _ _ _ _
                have cx := cellsH Z5.out
                have fx := freeH Z5.out
                unfold set8 set5 at hws
                go_upto_region 19 with (fail)
                rw [← hws]
                clear hws cx fx
                have Z6 := Lib.hid hbz
                have T36 := Lib.hid (T35.out.under ht6 (fun k hk e => by omega))
                have HA6 := Lib.hid (heap_past (w := w3) (by have := LT.out; omega) HA5.out Z5.out ht6)
                have B6 := Lib.hid (B5.out.trans (ht6.below (by have := B5.out.size; omega) (fun k e => by have := B3.out.size; omega)))
                have z6 := ht6.size
                have IV6 := Lib.hid (HY5.out.ints.turn ht6 (fun k hk e => by have hk2 : w4.heap.size ≤ k := hk; omega))
                clear hbz ht6
                have I36 := Lib.hid (I3.out.turn T36.out (fun k hk e => by have := LT.out; have hk2 : wr.heap.size ≤ k := hk; rcases e with e | e | e <;> omega))
                have O36 := Lib.hid (OwnO.kept O3.out (fun g hg => T36.out.block g (by obtain ⟨_, cs, f, hr⟩ := OwnO.row O3.out hg; exact heap_lt hr) (fun e => by have h1 := (OwnO.row O3.out hg).1; have := LT.out; rcases e with e | e | e <;> omega)))
                have OB36 := Lib.hid (show ∀ x ∈ l3, ObAt (wr.heap.size ≤ ·) w6 x.val x.o from fun x hx => (OB3.out x hx).turn T36.out (fun k hk e => by have := LT.out; rcases e with e | e | e <;> omega))
                go_wp2_with fail
                refine (count_any w6 h y a H5 HA6.out).mono ?_
                rintro e w7 ⟨rfl, n7, rfl⟩
                have hly : (H5.ly.length : Int) = 0 := by rw [HY5.out.ly]; rfl
                rw [hly]
                clear hly
                have DG := Lib.hid (below_drewN (Below.refl w6.heap.size w6) n7)
                generalize w6.drewN n7 = w7 at *
                have cz := cellsH (rowB DG.out Z6.out (heap_lt Z6.out))
                have z7 := DG.out.size
                have HAG := Lib.hid (HA6.out.fresh DG.out)
                have WG := Lib.hid HY5.out.wel
                have BG := Lib.hid HY5.out.bnd
                have XG := Lib.hid (show xs5.length ≤ 20 by rw [EL.out]; exact XL.out)
                have SG := Lib.hid HY5.out.same
                have IG := Lib.hid (IV6.out.fresh DG.out)
                go_upto_region 24 with (fail)
                clear cz
                go_wp2_with fail
                refine (graph_any _ w7 h y a H5 _ xs5 HAG.out IG.out WG.out.n1 WG.out.nd (by have := BG.out.fuel XG.out; omega)).mono ?_
                intro e w8 hg
                obtain ⟨hb8, -, hsome⟩ := hg
                obtain ⟨v8, u8, l8, rfl, i8, o8, m8, ob8⟩ := hsome L5 SG.out.live
                obtain ⟨A8, c8, e8⟩ := i8.shape
                rw [List.length_map] at e8
                subst e8
                obtain ⟨U8, k8, rfl⟩ := o8.shape
                have I8 := Lib.hid i8
                have O8 := Lib.hid o8
                have M8 := Lib.hid m8
                have OB8 := Lib.hid ob8
                have D8 := Lib.hid (below_then DG.out DG.out.size hb8)
                have E8 := Lib.hid hb8
                have B8 := Lib.hid (below_then B6.out B6.out.size D8.out)
                have z8 := D8.out.size
                clear hsome hb8 i8 o8 m8 ob8
                have ES := Lib.hid (show l3.map (·.o) = l8.map (·.o) from (M3.out.trans SG.out.obs.symm).trans M8.out.symm)
                go_wp2_with fail
                refine (sameGraph_any _ _ _ _ _ _ w8 _ _ _ _ (xs.map (mv L 0)) l3 l8 (I36.out.fresh D8.out) (by have h0 := I8.out; rw [SG.out.roots] at h0; exact h0) (OwnO.fresh O36.out D8.out) O8.out (fun x hx => (OB36.out x hx).fresh D8.out) OB8.out ES.out (by rw [HL3.out]; exact LL.out)).mono ?_
                rintro e w9 ⟨rfl, hb9⟩
                have D9 := Lib.hid (below_then D8.out D8.out.size hb9)
                have z9 := D9.out.size
                clear hb9
                go_wp2_with fail
                go_roundw
                case rel => exact ⟨k + 1, H5, xs5, by have := KL.out; omega, by go_num, ⟨HA6.out.fresh D9.out, WG.out, BG.out, (IV6.out.fresh D9.out).mono (fun k _ hk e => by have := HBL.out k e; have hk2 : w4.heap.size ≤ k := hk; omega), by rw [EL.out]; exact AT.out.len, (AT.out.bel.trans (((T36.out.below (by omega) (fun k e => (HBL.out k e).1)) : Below wx.heap.size w3 w6) |> fun b => ((BR3.out.mono (by omega)).trans b).trans (D9.out.mono (by omega))))⟩⟩
                case measure => have := KL.out; simp [intOf]; omega
              · skip
                obtain ⟨w6, hws, ht6⟩ : ∃ W, W = set8 w5 w3.heap.size (.int .i64 0) (.int .i64 0) (.int .i64 0) (.int .i64 0) (.int .i64 0) (.int .i64 1) (.int .i64 l3.length) (.int .i64 H5.la.length) ∧ Turn (fun k => k = w3.heap.size) w5 W := ⟨_, rfl, set8_turn (S := fun k => k = w3.heap.size) (Turn.refl _ _) rfl _ _ _ _ _ _ _ _⟩
                have hbz : w6.heap[w3.heap.size]? = some (.cells #[.int .i64 0, .int .i64 0, .int .i64 0, .int .i64 0, .int .i64 0, .int .i64 1, .int .i64 l3.length, .int .i64 H5.la.length] 75) := by rw [hws]; exact set8_row Z5.out _ _ _ _ _ _ _ _
                have cx := cellsH Z5.out
                have fx := freeH Z5.out
                unfold set8 set5 at hws
                go_upto_region 19 with (fail)
                rw [← hws]
                clear hws cx fx
                have Z6 := Lib.hid hbz
                have T36 := Lib.hid (T35.out.under ht6 (fun k hk e => by omega))
                have HA6 := Lib.hid (heap_past (w := w3) (by have := LT.out; omega) HA5.out Z5.out ht6)
                have B6 := Lib.hid (B5.out.trans (ht6.below (by have := B5.out.size; omega) (fun k e => by have := B3.out.size; omega)))
                have z6 := ht6.size
                have IV6 := Lib.hid (HY5.out.ints.turn ht6 (fun k hk e => by have hk2 : w4.heap.size ≤ k := hk; omega))
                clear hbz ht6
                have I36 := Lib.hid (I3.out.turn T36.out (fun k hk e => by have := LT.out; have hk2 : wr.heap.size ≤ k := hk; rcases e with e | e | e <;> omega))
                have O36 := Lib.hid (OwnO.kept O3.out (fun g hg => T36.out.block g (by obtain ⟨_, cs, f, hr⟩ := OwnO.row O3.out hg; exact heap_lt hr) (fun e => by have h1 := (OwnO.row O3.out hg).1; have := LT.out; rcases e with e | e | e <;> omega)))
                have OB36 := Lib.hid (show ∀ x ∈ l3, ObAt (wr.heap.size ≤ ·) w6 x.val x.o from fun x hx => (OB3.out x hx).turn T36.out (fun k hk e => by have := LT.out; rcases e with e | e | e <;> omega))
                go_wp2_with fail
                refine (count_any w6 h y a H5 HA6.out).mono ?_
                rintro e w7 ⟨rfl, n7, rfl⟩
                have hly : (H5.ly.length : Int) = 0 := by rw [HY5.out.ly]; rfl
                rw [hly]
                clear hly
                have DG := Lib.hid (below_drewN (Below.refl w6.heap.size w6) n7)
                generalize w6.drewN n7 = w7 at *
                have cz := cellsH (rowB DG.out Z6.out (heap_lt Z6.out))
                have z7 := DG.out.size
                have HAG := Lib.hid (HA6.out.fresh DG.out)
                have WG := Lib.hid HY5.out.wel
                have BG := Lib.hid HY5.out.bnd
                have XG := Lib.hid (show xs5.length ≤ 20 by rw [EL.out]; exact XL.out)
                have SG := Lib.hid HY5.out.same
                have IG := Lib.hid (IV6.out.fresh DG.out)
                go_upto_region 24 with (fail)
                clear cz
                go_wp2_with fail
                refine (graph_any _ w7 h y a H5 _ xs5 HAG.out IG.out WG.out.n1 WG.out.nd (by have := BG.out.fuel XG.out; omega)).mono ?_
                intro e w8 hg
                obtain ⟨hb8, -, hsome⟩ := hg
                obtain ⟨v8, u8, l8, rfl, i8, o8, m8, ob8⟩ := hsome L5 SG.out.live
                obtain ⟨A8, c8, e8⟩ := i8.shape
                rw [List.length_map] at e8
                subst e8
                obtain ⟨U8, k8, rfl⟩ := o8.shape
                have I8 := Lib.hid i8
                have O8 := Lib.hid o8
                have M8 := Lib.hid m8
                have OB8 := Lib.hid ob8
                have D8 := Lib.hid (below_then DG.out DG.out.size hb8)
                have E8 := Lib.hid hb8
                have B8 := Lib.hid (below_then B6.out B6.out.size D8.out)
                have z8 := D8.out.size
                clear hsome hb8 i8 o8 m8 ob8
                have ES := Lib.hid (show l3.map (·.o) = l8.map (·.o) from (M3.out.trans SG.out.obs.symm).trans M8.out.symm)
                go_wp2_with fail
                refine (sameGraph_any _ _ _ _ _ _ w8 _ _ _ _ (xs.map (mv L 0)) l3 l8 (I36.out.fresh D8.out) (by have h0 := I8.out; rw [SG.out.roots] at h0; exact h0) (OwnO.fresh O36.out D8.out) O8.out (fun x hx => (OB36.out x hx).fresh D8.out) OB8.out ES.out (by rw [HL3.out]; exact LL.out)).mono ?_
                rintro e w9 ⟨rfl, hb9⟩
                have D9 := Lib.hid (below_then D8.out D8.out.size hb9)
                have z9 := D9.out.size
                clear hb9
                go_wp2_with fail
                go_roundw
                case rel => exact ⟨k + 1, H5, xs5, by have := KL.out; omega, by go_num, ⟨HA6.out.fresh D9.out, WG.out, BG.out, (IV6.out.fresh D9.out).mono (fun k _ hk e => by have := HBL.out k e; have hk2 : w4.heap.size ≤ k := hk; omega), by rw [EL.out]; exact AT.out.len, (AT.out.bel.trans (((T36.out.below (by omega) (fun k e => (HBL.out k e).1)) : Below wx.heap.size w3 w6) |> fun b => ((BR3.out.mono (by omega)).trans b).trans (D9.out.mono (by omega))))⟩⟩
                case measure => have := KL.out; simp [intOf]; omega
          have q0' : (z == 0) = false := by simpa using q0
          have q1' : (z == 1) = false := by simpa using q1
          clear q0 q1
          go_wp2_with fail
          refine (isoC_auto _ HA4.out AT.out.wel AT.out.bnd I4.out (fun k hk => hk) XL.out HLV.out).mono ?_
          intro e w5 he
          unfold IsoEnd at he
          rcases he with ⟨err, hno⟩ | ⟨H5, xs5, L5, v5, hy5, he5⟩
          · obtain ⟨rfl, hbad, ht5, hh5⟩ := hno
            have hbad' : (err == 0) = false := by simpa using hbad
            have T35 := Lib.hid (T34.out.trans ht5)
            have HA5 := Lib.hid hh5
            have Z5 := Lib.hid (rowT ht5 Z4.out (by have := LT.out; rintro (e | e | e) <;> omega))
            have B5 := Lib.hid (B4.out.trans (ht5.below (by have := B4.out.size; omega) (fun k e => by have := HBL.out k e; omega)))
            have I45 := Lib.hid (I4.out.turn ht5 (fun k hk => hk))
            have z5 := ht5.size
            clear ht5 hh5 hbad
            obtain ⟨w6, hws, ht6⟩ : ∃ W, W = set8 w5 w3.heap.size (.int .i64 0) (.int .i64 0) (.int .i64 0) (.int .i64 0) (.int .i64 0) (.int .i64 0) (.int .i64 0) (.int .i64 0) ∧ Turn (fun k => k = w3.heap.size) w5 W := ⟨_, rfl, set8_turn (S := fun k => k = w3.heap.size) (Turn.refl _ _) rfl _ _ _ _ _ _ _ _⟩
            have hbz : w6.heap[w3.heap.size]? = some (.cells #[.int .i64 0, .int .i64 0, .int .i64 0, .int .i64 0, .int .i64 0, .int .i64 0, .int .i64 0, .int .i64 0] 75) := by rw [hws]; exact set8_row Z5.out _ _ _ _ _ _ _ _
            have cx := cellsH Z5.out
            have fx := freeH Z5.out
            unfold set8 set5 at hws
            go_upto_region 19 with (fail)
            rw [← hws]
            clear hws cx fx
            have Z6 := Lib.hid hbz
            have T36 := Lib.hid (T35.out.under ht6 (fun k hk e => by omega))
            have HA6 := Lib.hid (heap_past (w := w3) (by have := LT.out; omega) HA5.out Z5.out ht6)
            have B6 := Lib.hid (B5.out.trans (ht6.below (by have := B5.out.size; omega) (fun k e => by have := B3.out.size; omega)))
            have z6 := ht6.size
            have IG := Lib.hid (IR3.out.turn T36.out (fun k hk => hk))
            clear hbz ht6
            have I36 := Lib.hid (I3.out.turn T36.out (fun k hk e => by have := LT.out; have hk2 : wr.heap.size ≤ k := hk; rcases e with e | e | e <;> omega))
            have O36 := Lib.hid (OwnO.kept O3.out (fun g hg => T36.out.block g (by obtain ⟨_, cs, f, hr⟩ := OwnO.row O3.out hg; exact heap_lt hr) (fun e => by have h1 := (OwnO.row O3.out hg).1; have := LT.out; rcases e with e | e | e <;> omega)))
            have OB36 := Lib.hid (show ∀ x ∈ l3, ObAt (wr.heap.size ≤ ·) w6 x.val x.o from fun x hx => (OB3.out x hx).turn T36.out (fun k hk e => by have := LT.out; rcases e with e | e | e <;> omega))
            have HAG := Lib.hid HA6.out
            have WG := Lib.hid AT.out.wel
            have BG := Lib.hid AT.out.bnd
            have XG := Lib.hid XL.out
            have SG := Lib.hid (sameG_refl HLV.out)
            have DG := Lib.hid (Below.refl w6.heap.size w6)
            go_wp2_with fail
            refine (graph_any _ w6 h y a H0 _ xs HAG.out IG.out WG.out.n1 WG.out.nd (by have := BG.out.fuel XG.out; omega)).mono ?_
            intro e w8 hg
            obtain ⟨hb8, -, hsome⟩ := hg
            obtain ⟨v8, u8, l8, rfl, i8, o8, m8, ob8⟩ := hsome L SG.out.live
            obtain ⟨A8, c8, e8⟩ := i8.shape
            rw [List.length_map] at e8
            subst e8
            obtain ⟨U8, k8, rfl⟩ := o8.shape
            have I8 := Lib.hid i8
            have O8 := Lib.hid o8
            have M8 := Lib.hid m8
            have OB8 := Lib.hid ob8
            have D8 := Lib.hid (below_then DG.out DG.out.size hb8)
            have E8 := Lib.hid hb8
            have B8 := Lib.hid (below_then B6.out B6.out.size D8.out)
            have z8 := D8.out.size
            clear hsome hb8 i8 o8 m8 ob8
            have ES := Lib.hid (show l3.map (·.o) = l8.map (·.o) from (M3.out.trans SG.out.obs.symm).trans M8.out.symm)
            go_wp2_with fail
            refine (sameGraph_any _ _ _ _ _ _ w8 _ _ _ _ (xs.map (mv L 0)) l3 l8 (I36.out.fresh D8.out) (by have h0 := I8.out; rw [SG.out.roots] at h0; exact h0) (OwnO.fresh O36.out D8.out) O8.out (fun x hx => (OB36.out x hx).fresh D8.out) OB8.out ES.out (by rw [HL3.out]; exact LL.out)).mono ?_
            rintro e w9 ⟨rfl, hb9⟩
            have D9 := Lib.hid (below_then D8.out D8.out.size hb9)
            have z9 := D9.out.size
            clear hb9
            go_wp2_with fail
            go_roundw
            case rel => exact ⟨k + 1, H0, xs, by have := KL.out; omega, by go_num, ⟨HA6.out.fresh D9.out, WG.out, BG.out, IG.out.fresh D9.out, AT.out.len, (AT.out.bel.trans (((T36.out.below (by omega) (fun k e => (HBL.out k e).1)) : Below wx.heap.size w3 w6) |> fun b => ((BR3.out.mono (by omega)).trans b).trans (D9.out.mono (by omega))))⟩⟩
            case measure => have := KL.out; simp [intOf]; omega
          · have HY5 := Lib.hid hy5
            obtain ⟨A5, c5, rfl⟩ := hy5.ints.shape
            have T35 := Lib.hid (T34.out.trans hy5.turn)
            have HA5 := Lib.hid hy5.heap
            have Z5 := Lib.hid (rowT hy5.turn Z4.out (by have := LT.out; rintro (e | e | e) <;> omega))
            have B5 := Lib.hid (B4.out.trans (hy5.turn.below (by have := B4.out.size; omega) (fun k e => by have := HBL.out k e; omega)))
            have z5 := hy5.turn.size
            have EL := Lib.hid hy5.len
            rw [← HL3.out] at he5
            clear hy5
            rcases he5 with ⟨co, rfl⟩ | rfl
            · skip
              obtain ⟨w6, hws, ht6⟩ : ∃ W, W = set8 w5 w3.heap.size (.int .i64 0) (.int .i64 0) (.int .i64 0) (.int .i64 0) (.int .i64 1) (.int .i64 0) (.int .i64 co) (.int .i64 H5.la.length) ∧ Turn (fun k => k = w3.heap.size) w5 W := ⟨_, rfl, set8_turn (S := fun k => k = w3.heap.size) (Turn.refl _ _) rfl _ _ _ _ _ _ _ _⟩
              have hbz : w6.heap[w3.heap.size]? = some (.cells #[.int .i64 0, .int .i64 0, .int .i64 0, .int .i64 0, .int .i64 1, .int .i64 0, .int .i64 co, .int .i64 H5.la.length] 75) := by rw [hws]; exact set8_row Z5.out _ _ _ _ _ _ _ _
              have cx := cellsH Z5.out
              have fx := freeH Z5.out
              unfold set8 set5 at hws
              go_upto_region 19 with (fail)
              rw [← hws]
              clear hws cx fx
              have Z6 := Lib.hid hbz
              have T36 := Lib.hid (T35.out.under ht6 (fun k hk e => by omega))
              have HA6 := Lib.hid (heap_past (w := w3) (by have := LT.out; omega) HA5.out Z5.out ht6)
              have B6 := Lib.hid (B5.out.trans (ht6.below (by have := B5.out.size; omega) (fun k e => by have := B3.out.size; omega)))
              have z6 := ht6.size
              have IV6 := Lib.hid (HY5.out.ints.turn ht6 (fun k hk e => by have hk2 : w4.heap.size ≤ k := hk; omega))
              clear hbz ht6
              have I36 := Lib.hid (I3.out.turn T36.out (fun k hk e => by have := LT.out; have hk2 : wr.heap.size ≤ k := hk; rcases e with e | e | e <;> omega))
              have O36 := Lib.hid (OwnO.kept O3.out (fun g hg => T36.out.block g (by obtain ⟨_, cs, f, hr⟩ := OwnO.row O3.out hg; exact heap_lt hr) (fun e => by have h1 := (OwnO.row O3.out hg).1; have := LT.out; rcases e with e | e | e <;> omega)))
              have OB36 := Lib.hid (show ∀ x ∈ l3, ObAt (wr.heap.size ≤ ·) w6 x.val x.o from fun x hx => (OB3.out x hx).turn T36.out (fun k hk e => by have := LT.out; rcases e with e | e | e <;> omega))
              go_wp2_with fail
              refine (count_any w6 h y a H5 HA6.out).mono ?_
              rintro e w7 ⟨rfl, n7, rfl⟩
              have hly : (H5.ly.length : Int) = 0 := by rw [HY5.out.ly]; rfl
              rw [hly]
              clear hly
              have DG := Lib.hid (below_drewN (Below.refl w6.heap.size w6) n7)
              generalize w6.drewN n7 = w7 at *
              have cz := cellsH (rowB DG.out Z6.out (heap_lt Z6.out))
              have z7 := DG.out.size
              have HAG := Lib.hid (HA6.out.fresh DG.out)
              have WG := Lib.hid HY5.out.wel
              have BG := Lib.hid HY5.out.bnd
              have XG := Lib.hid (show xs5.length ≤ 20 by rw [EL.out]; exact XL.out)
              have SG := Lib.hid HY5.out.same
              have IG := Lib.hid (IV6.out.fresh DG.out)
              go_upto_region 24 with (fail)
              clear cz
              go_wp2_with fail
              refine (graph_any _ w7 h y a H5 _ xs5 HAG.out IG.out WG.out.n1 WG.out.nd (by have := BG.out.fuel XG.out; omega)).mono ?_
              intro e w8 hg
              obtain ⟨hb8, -, hsome⟩ := hg
              obtain ⟨v8, u8, l8, rfl, i8, o8, m8, ob8⟩ := hsome L5 SG.out.live
              obtain ⟨A8, c8, e8⟩ := i8.shape
              rw [List.length_map] at e8
              subst e8
              obtain ⟨U8, k8, rfl⟩ := o8.shape
              have I8 := Lib.hid i8
              have O8 := Lib.hid o8
              have M8 := Lib.hid m8
              have OB8 := Lib.hid ob8
              have D8 := Lib.hid (below_then DG.out DG.out.size hb8)
              have E8 := Lib.hid hb8
              have B8 := Lib.hid (below_then B6.out B6.out.size D8.out)
              have z8 := D8.out.size
              clear hsome hb8 i8 o8 m8 ob8
              have ES := Lib.hid (show l3.map (·.o) = l8.map (·.o) from (M3.out.trans SG.out.obs.symm).trans M8.out.symm)
              go_wp2_with fail
              refine (sameGraph_any _ _ _ _ _ _ w8 _ _ _ _ (xs.map (mv L 0)) l3 l8 (I36.out.fresh D8.out) (by have h0 := I8.out; rw [SG.out.roots] at h0; exact h0) (OwnO.fresh O36.out D8.out) O8.out (fun x hx => (OB36.out x hx).fresh D8.out) OB8.out ES.out (by rw [HL3.out]; exact LL.out)).mono ?_
              rintro e w9 ⟨rfl, hb9⟩
              have D9 := Lib.hid (below_then D8.out D8.out.size hb9)
              have z9 := D9.out.size
              clear hb9
              go_wp2_with fail
              go_roundw
              case rel => exact ⟨k + 1, H5, xs5, by have := KL.out; omega, by go_num, ⟨HA6.out.fresh D9.out, WG.out, BG.out, (IV6.out.fresh D9.out).mono (fun k _ hk e => by have := HBL.out k e; have hk2 : w4.heap.size ≤ k := hk; omega), by rw [EL.out]; exact AT.out.len, (AT.out.bel.trans (((T36.out.below (by omega) (fun k e => (HBL.out k e).1)) : Below wx.heap.size w3 w6) |> fun b => ((BR3.out.mono (by omega)).trans b).trans (D9.out.mono (by omega))))⟩⟩
              case measure => have := KL.out; simp [intOf]; omega
            · skip
              obtain ⟨w6, hws, ht6⟩ : ∃ W, W = set8 w5 w3.heap.size (.int .i64 0) (.int .i64 0) (.int .i64 0) (.int .i64 0) (.int .i64 0) (.int .i64 1) (.int .i64 l3.length) (.int .i64 H5.la.length) ∧ Turn (fun k => k = w3.heap.size) w5 W := ⟨_, rfl, set8_turn (S := fun k => k = w3.heap.size) (Turn.refl _ _) rfl _ _ _ _ _ _ _ _⟩
              have hbz : w6.heap[w3.heap.size]? = some (.cells #[.int .i64 0, .int .i64 0, .int .i64 0, .int .i64 0, .int .i64 0, .int .i64 1, .int .i64 l3.length, .int .i64 H5.la.length] 75) := by rw [hws]; exact set8_row Z5.out _ _ _ _ _ _ _ _
              have cx := cellsH Z5.out
              have fx := freeH Z5.out
              unfold set8 set5 at hws
              go_upto_region 19 with (fail)
              rw [← hws]
              clear hws cx fx
              have Z6 := Lib.hid hbz
              have T36 := Lib.hid (T35.out.under ht6 (fun k hk e => by omega))
              have HA6 := Lib.hid (heap_past (w := w3) (by have := LT.out; omega) HA5.out Z5.out ht6)
              have B6 := Lib.hid (B5.out.trans (ht6.below (by have := B5.out.size; omega) (fun k e => by have := B3.out.size; omega)))
              have z6 := ht6.size
              have IV6 := Lib.hid (HY5.out.ints.turn ht6 (fun k hk e => by have hk2 : w4.heap.size ≤ k := hk; omega))
              clear hbz ht6
              have I36 := Lib.hid (I3.out.turn T36.out (fun k hk e => by have := LT.out; have hk2 : wr.heap.size ≤ k := hk; rcases e with e | e | e <;> omega))
              have O36 := Lib.hid (OwnO.kept O3.out (fun g hg => T36.out.block g (by obtain ⟨_, cs, f, hr⟩ := OwnO.row O3.out hg; exact heap_lt hr) (fun e => by have h1 := (OwnO.row O3.out hg).1; have := LT.out; rcases e with e | e | e <;> omega)))
              have OB36 := Lib.hid (show ∀ x ∈ l3, ObAt (wr.heap.size ≤ ·) w6 x.val x.o from fun x hx => (OB3.out x hx).turn T36.out (fun k hk e => by have := LT.out; rcases e with e | e | e <;> omega))
              go_wp2_with fail
              refine (count_any w6 h y a H5 HA6.out).mono ?_
              rintro e w7 ⟨rfl, n7, rfl⟩
              have hly : (H5.ly.length : Int) = 0 := by rw [HY5.out.ly]; rfl
              rw [hly]
              clear hly
              have DG := Lib.hid (below_drewN (Below.refl w6.heap.size w6) n7)
              generalize w6.drewN n7 = w7 at *
              have cz := cellsH (rowB DG.out Z6.out (heap_lt Z6.out))
              have z7 := DG.out.size
              have HAG := Lib.hid (HA6.out.fresh DG.out)
              have WG := Lib.hid HY5.out.wel
              have BG := Lib.hid HY5.out.bnd
              have XG := Lib.hid (show xs5.length ≤ 20 by rw [EL.out]; exact XL.out)
              have SG := Lib.hid HY5.out.same
              have IG := Lib.hid (IV6.out.fresh DG.out)
              go_upto_region 24 with (fail)
              clear cz
              go_wp2_with fail
              refine (graph_any _ w7 h y a H5 _ xs5 HAG.out IG.out WG.out.n1 WG.out.nd (by have := BG.out.fuel XG.out; omega)).mono ?_
              intro e w8 hg
              obtain ⟨hb8, -, hsome⟩ := hg
              obtain ⟨v8, u8, l8, rfl, i8, o8, m8, ob8⟩ := hsome L5 SG.out.live
              obtain ⟨A8, c8, e8⟩ := i8.shape
              rw [List.length_map] at e8
              subst e8
              obtain ⟨U8, k8, rfl⟩ := o8.shape
              have I8 := Lib.hid i8
              have O8 := Lib.hid o8
              have M8 := Lib.hid m8
              have OB8 := Lib.hid ob8
              have D8 := Lib.hid (below_then DG.out DG.out.size hb8)
              have E8 := Lib.hid hb8
              have B8 := Lib.hid (below_then B6.out B6.out.size D8.out)
              have z8 := D8.out.size
              clear hsome hb8 i8 o8 m8 ob8
              have ES := Lib.hid (show l3.map (·.o) = l8.map (·.o) from (M3.out.trans SG.out.obs.symm).trans M8.out.symm)
              go_wp2_with fail
              refine (sameGraph_any _ _ _ _ _ _ w8 _ _ _ _ (xs.map (mv L 0)) l3 l8 (I36.out.fresh D8.out) (by have h0 := I8.out; rw [SG.out.roots] at h0; exact h0) (OwnO.fresh O36.out D8.out) O8.out (fun x hx => (OB36.out x hx).fresh D8.out) OB8.out ES.out (by rw [HL3.out]; exact LL.out)).mono ?_
              rintro e w9 ⟨rfl, hb9⟩
              have D9 := Lib.hid (below_then D8.out D8.out.size hb9)
              have z9 := D9.out.size
              clear hb9
              go_wp2_with fail
              go_roundw
              case rel => exact ⟨k + 1, H5, xs5, by have := KL.out; omega, by go_num, ⟨HA6.out.fresh D9.out, WG.out, BG.out, (IV6.out.fresh D9.out).mono (fun k _ hk e => by have := HBL.out k e; have hk2 : w4.heap.size ≤ k := hk; omega), by rw [EL.out]; exact AT.out.len, (AT.out.bel.trans (((T36.out.below (by omega) (fun k e => (HBL.out k e).1)) : Below wx.heap.size w3 w6) |> fun b => ((BR3.out.mono (by omega)).trans b).trans (D9.out.mono (by omega))))⟩⟩
              case measure => have := KL.out; simp [intOf]; omega
      · clear hkl
        go_wp2_with fail
        refine (awake_any _).mono ?_
        rintro e wq ⟨rfl, hbq⟩
        have BQ := Lib.hid (below_then BW.out BW.out.size hbq)
        clear hbq
        go_wp2_with fail
        go_ret
        exact ⟨rfl, BQ.out⟩
  · have hk11 : 10 < ks.length := by omega
    clear hk10
    go_wp2_with fail
    refine (awake_any _).mono ?_
    rintro e wq ⟨rfl, hbq⟩
    have BQ := Lib.hid (below_then B2.out B2.out.size hbq)
    clear hbq
    go_wp2_with fail
    go_ret
    exact ⟨rfl, BQ.out⟩
end Go.Proofs.Ytobniolmielikaa

/- The statement CollectIsomorphic, where what it reads is of bulk at most 1048576: for every heap, roots and kinds the call answers true and turns nothing; no other condition. -/
namespace Go.Proofs.Ytobniolmielikaa
open Go.ChangeShapes Go.WideShapes Go.ChangeAt Go.RowKit Go.Joins

theorem cells5k : Try.prog.cellsOf 5 = 1 := by kernel_rfl
theorem kinds_of_trod {H : Type} {enc : TypeId × Value → H} {w : World} {fuel : Nat} {cs : List Value} {x : DataW H × List MemPlace} (h : DataW.trod enc Try.prog w 0 (fun _ => true) true fuel 79 cs = some x) : ∃ v ks, cs = [v] ∧ KindsAt w v ks := by
  rcases open_ints Try.underlying79 Try.underlying5 cells5k h with ⟨rfl, rfl⟩ | ⟨a, len, cap, zs, rfl, _, hl, hm, hz, rfl, hc, hw⟩
  · exact ⟨_, [], rfl, ⟨none, 0, rfl, fun h => by simp at h⟩⟩
  · have hz' : zs.length = cap := by simpa using hz
    have hlen : (zs.take len).length = len := by simp; omega
    refine ⟨_, zs.take len, rfl, ⟨some a, cap, by rw [hlen], fun h0 => ⟨a, rfl, ?_, ?_⟩⟩⟩
    · have h1 := hc 0 (by omega)
      have := World.block_lt_of_cell? _ _ h1
      rwa [addr_block] at this
    · intro i y hy
      rw [List.getElem?_take] at hy
      split at hy
      · have hi' : i < zs.length := (List.getElem?_eq_some_iff.1 hy).1
        rw [hc i hi']
        simp [List.getD_eq_getElem?_getD, hy]
      · cases hy

set_option maxRecDepth 100000 in
theorem collectIsomorphic_lifted (os : Os) (started : os.Started) (H : Type) (enc : TypeId × Value → H) (F : Stop.Interp) :
    ReturnsInHanded {} Try.checked os 11 .any ((Rows.OpenSpec.upto Rows.collectIsomorphicSpec).pre6 enc Try.prog Try.f11 Rows.collectIsomorphicUptoRow.domain false) (((Rows.OpenSpec.upto Rows.collectIsomorphicSpec).at F).post enc Try.prog Try.f11 false true false false) :=
  law_upto (s := Rows.collectIsomorphicSpec) os started enc F (by kernel_rfl) Try.func11 rfl Try.underlying4 (by kernel_rfl) rfl
    (fun ds h => by match ds, h with | [_, _, _], _ => rfl)
    (OpenSpec.witness (enc := enc) (C := Try.checked) (s := Rows.OpenSpec.upto Rows.collectIsomorphicSpec) (k := Rows.uptoSmall) rfl false ⟨#[], #[.agg #[.int .i64 0, .int .i64 0, .slice none 0 0, .slice none 0 0], .slice none 0 0, .slice none 0 0], []⟩ 8 (by kernel_rfl) (by kernel_rfl) (by kernel_rfl)
      (x := ([.agg [.agg [.lit (.int .i64 0), .lit (.int .i64 0)], .nil, .nil], .nil, .nil], [], [])) (by kernel_rfl) rfl (by kernel_rfl))
    (fun W base args ds p hval hA hsz hb => by
      rw [Try.params11] at hA hval hsz
      obtain ⟨v0, vs0, d0, ds0, p0, q0, hargs, rfl, rfl, h0, r0⟩ := trodAll_cons hA
      obtain ⟨v1, vs1, d1, ds1, p1, q1, rfl, rfl, rfl, h1, r1⟩ := trodAll_cons r0
      obtain ⟨v4, vs2, d2, ds2, p2, q2, rfl, rfl, rfl, h2, r2⟩ := trodAll_cons r1
      obtain ⟨rfl, rfl, rfl⟩ := trodAll_nil r2
      obtain rfl : args = #[v0, v1, v4] := by cases args; simp_all
      obtain ⟨cs, rfl, hcs⟩ := okWide_struct Try.underlying62 (hval 0 62 v0 rfl rfl)
      obtain ⟨f0, hf0⟩ := h0
      obtain ⟨f1, hf1⟩ := h1
      have hw : ∀ n ∈ DataW.weightsEach Try.prog [62, 23, 79] [d0, d1, d2], n ≤ reachBytes := by simpa using hsz
      simp only [Rows.uptoBulkAll] at hb
      obtain ⟨n, o, v2, v3, l1, l2, e, hi⟩ := heap_of_trod hf0 (fits_each (j := 0) hw rfl rfl) (show Rows.uptoBulk d0 ≤ 1048576 by omega)
      obtain ⟨v, xs, e1, hr⟩ := roots_of_trod hf1 (fits_each (j := 1) hw rfl rfl)
      obtain rfl : cs = #[.int .i64 n, .int .i64 o, v2, v3] := by
        cases cs
        simpa [Value.cells] using e
      obtain ⟨A, len, c, rfl⟩ := okWide_slice Try.underlying23 (hval 1 23 v1 rfl rfl)
      obtain rfl : v = .slice A len c := by simpa [Value.cells] using e1.symm
      obtain ⟨f2, hf2⟩ := h2
      obtain ⟨vk, ks, e3, hk⟩ := kinds_of_trod hf2
      obtain ⟨A', len', c', rfl⟩ := okWide_slice Try.underlying79 (hval 2 79 v4 rfl rfl)
      obtain rfl : vk = .slice A' len' c' := by simpa [Value.cells] using e3.symm
      exact collectIsomorphic_law W n o v2 v3 _ _ l1 l2 xs ks hk hi hr)

theorem collectIsomorphic_holds : Rows.CollectIsomorphicUptoSaid :=
  OpenClaim.holds_of_cond 11 Try.f11 rfl rfl rfl rfl rfl rfl rfl ⟨rfl, rfl, rfl, rfl, rfl⟩ rfl rfl rfl rfl rfl (by kernel_rfl) Try.func11 (by kernel_rfl)
    (of_decide_eq_true (by kernel_rfl)) (by unfold Func.isWrapper; rw [if_neg (of_decide_eq_false (by kernel_rfl))]; exact ⟨rfl, rfl⟩)
    (fun os started H enc _ F => collectIsomorphic_lifted os started H enc F)

#print axioms collectIsomorphic_holds
end Go.Proofs.Ytobniolmielikaa

