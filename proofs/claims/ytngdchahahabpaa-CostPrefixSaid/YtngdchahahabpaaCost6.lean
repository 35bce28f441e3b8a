/- The program's ages: the map that it makes, entry by entry; no condition. -/
import Derived.Test.YtngdchahahabpaaCost5
namespace Go.Proofs.Ytngdchahahabpaa
open Go.RowKit

theorem zero3 (w : World) : (zeroValue 3).run Try.prog w = .ok (.int .i64 0) w := by kernel_rfl
theorem zero4 (w : World) : (zeroValue 4).run Try.prog w = .ok (.bool false) w := by kernel_rfl
/-- Ints and bools as values. -/
def vi (x : Int) : Value := .int .i64 x
def vb (x : Bool) : Value := .bool x

/-- When thunks were first allocated. -/
def bornF (m : List (Int × Int)) (e : Ev) : List (Int × Int) := if e.op = 1 ∧ get m e.id = none then put m e.id e.step else m
def bornL (l : List Ev) : List (Int × Int) := l.foldl bornF []
/-- The three maps of the second loop. -/
structure A3 where
  seen : List (Int × Bool)
  aged : List (Int × Bool)
  ages : List (Int × Int)
def seenF (m : List (Int × Bool)) (e : Ev) : List (Int × Bool) := if e.op = 1 then put m e.id true else m
def agedF (born : List (Int × Int)) (s : A3) (e : Ev) : A3 :=
  if e.op = 2 ∧ (get (seenF s.seen e) e.id).getD false = true ∧ (get s.aged e.id).getD false = false then
    ⟨seenF s.seen e, put s.aged e.id true, put s.ages e.id (wrap64 (e.step - (get born e.id).getD 0))⟩
  else ⟨seenF s.seen e, s.aged, s.ages⟩
def agL (l : List Ev) : A3 := l.foldl (agedF (bornL l)) ⟨[], [], []⟩
/-- The map of the ages. -/
def agM (l : List Ev) : List (Int × Int) := (agL l).ages

theorem fold_take {α β : Type} (f : β → α → β) (b : β) (l : List α) {k : Nat} (h : k < l.length) : (l.take (k + 1)).foldl f b = f ((l.take k).foldl f b) l[k] := by
  rw [List.take_succ_eq_append_getElem h, List.foldl_append]
  rfl

/-- Where the maps of the second loop lie. -/
structure AgeAt (w : World) (n1 : Nat) (M : List (Int × Int)) (S : A3) (W : World) : Prop where
  born : MapAt W w.heap.size (vals vi M)
  ages : MapAt W (w.heap.size + 1) (vals vi S.ages)
  seen : MapAt W n1 (vals vb S.seen)
  aged : MapAt W (n1 + 1) (vals vb S.aged)
  bel : Below w.heap.size w W
theorem AgeAt.alloc {w : World} {n1 : Nat} {M : List (Int × Int)} {S : A3} {W : World} (h : AgeAt w n1 M S W) (o : Obj) : AgeAt w n1 M S (W.alloc o) :=
  ⟨h.born.alloc o, h.ages.alloc o, h.seen.alloc o, h.aged.alloc o, h.bel.alloc h.bel.size o⟩
theorem AgeAt.same {w : World} {n1 : Nat} {M : List (Int × Int)} {S S' : A3} {W : World} (h : AgeAt w n1 M S W) (e : S' = S) : AgeAt w n1 M S' W := e ▸ h

set_option maxHeartbeats 2000000 in
theorem age_any (w : World) (v : Value) (l : List Ev) (h : Evs w v l) :
    Calls Try.prog 17 #[v] w fun e w' => ∃ b, e = .returned (.map (some b)) ∧ w.heap.size ≤ b ∧ MapAt w' b (vals vi (agM l)) ∧ Below w.heap.size w w' := by
  obtain ⟨A, c, rfl⟩ := h.shape
  have hl := h.len
  have H := Lib.hid h
  clear h
  have hmm := @run_makeMap Try.prog
  go_enter Try.func17, Try.ntmps17
  go_wp2_with fail
  go_loopw [17] (fun i wr => ∃ k : Nat, k ≤ l.length ∧ i = .int .i64 k ∧ MapAt wr w.heap.size (vals vi ((l.take k).foldl bornF [])) ∧ MapAt wr (w.heap.size + 1) [] ∧ Below w.heap.size w wr) (fun i _ => l.length - (intOf i).toNat)
  case atStart =>
    refine ⟨0, Nat.zero_le _, rfl, (MapAt.made w).alloc _, ?_, ((Below.refl _ _).alloc (Nat.le_refl _) _).alloc (by simp) _⟩
    have := MapAt.made (w.alloc (.map #[] 0))
    simpa using this
  case round =>
    obtain ⟨k, hk, rfl, hm, hm2, hb⟩ := hrel
    have hbs := hb.size
    have hms := hm.lt
    have hms2 := hm2.lt
    by_cases hlt : k < l.length
    · obtain ⟨b, o, rfl, c1, c2, c3⟩ := (H.out.fresh hb).cell hlt
      have hf := fold_take bornF [] l hlt
      generalize (l.take k).foldl bornF [] = M at hm hf
      generalize l[k] = ev at c1 c2 c3 hf
      have HF := Lib.hid hf
      have HM2 := Lib.hid hm2
      have HB := Lib.hid hb
      have HM := Lib.hid hm
      obtain ⟨op, id, step⟩ := ev
      dsimp only at c1 c2 c3
      clear hf hm2 hb
      have hlk := fun p => run_lookup_map (P := Try.prog) (t := 36) (k := 3) (e := 3) Try.underlying36 Try.underlying3 (zero3 _) (hm.alloc p) id true
      simp only [get_vals] at hlk
      clear hm
      by_cases hop : op = 1
      · subst hop
        cases hg : get M id with
        | none =>
          have HN := Lib.hid (show bornF M ⟨1, id, step⟩ = put M id step by simp [bornF, hg])
          simp only [hg, Option.map_none, Option.getD_none, Option.isSome_none] at hlk
          clear hg
          go_wp2_with (at_mapUpdate; refine wpList_update_map _ rfl _ _ _ 36 3 3 rfl Try.underlying36 Try.underlying3 w.heap.size _ rfl id rfl (vi step) rfl (HM.out.alloc _) ?_; intro w' hm' ht' hs'; have HM' := Lib.hid hm'; have HT' := Lib.hid ht'; have HS' := Lib.hid hs'; clear hm' ht' hs')
          go_roundw
          case rel =>
            refine ⟨k + 1, by omega, by go_num, ?_, ?_, ?_⟩
            · rw [HF.out, HN.out, ← put_vals]; exact HM'.out
            · exact (HM2.out.alloc _).turn HT'.out (by omega)
            · exact (HB.out.alloc hbs _).trans (HT'.out.below (by simp; omega) (fun q hq => by omega))
          case measure => simp [intOf]; omega
        | some x =>
          have HN := Lib.hid (show bornF M ⟨1, id, step⟩ = M by simp [bornF, hg])
          simp only [hg, Option.map_some, Option.getD_some, Option.isSome_some, vi] at hlk
          clear hg
          go_wp2_with fail
          go_roundw
          case rel => exact ⟨k + 1, by omega, by go_num, by rw [HF.out, HN.out]; exact HM.out.alloc _, HM2.out.alloc _, HB.out.alloc hbs _⟩
          case measure => simp [intOf]; omega
      · have hop' : (op == 1) = false := by simpa using hop
        have HN := Lib.hid (show bornF M ⟨op, id, step⟩ = M by simp [bornF, hop])
        clear hop
        cases hg : get M id with
        | none =>
          simp only [hg, Option.map_none, Option.getD_none, Option.isSome_none] at hlk
          clear hg
          go_wp2_with fail
          go_roundw
          case rel => exact ⟨k + 1, by omega, by go_num, by rw [HF.out, HN.out]; exact HM.out.alloc _, HM2.out.alloc _, HB.out.alloc hbs _⟩
          case measure => simp [intOf]; omega
        | some x =>
          simp only [hg, Option.map_some, Option.getD_some, Option.isSome_some, vi] at hlk
          clear hg
          go_wp2_with fail
          go_roundw
          case rel => exact ⟨k + 1, by omega, by go_num, by rw [HF.out, HN.out]; exact HM.out.alloc _, HM2.out.alloc _, HB.out.alloc hbs _⟩
          case measure => simp [intOf]; omega
    · have he : k = l.length := by omega
      have hbl : bornL l = (l.take k).foldl bornF [] := by rw [he, List.take_length]; rfl
      rw [← hbl] at hm
      clear hbl
      have HM := Lib.hid hm
      have HM2 := Lib.hid hm2
      have HB := Lib.hid hb
      clear he hm hm2 hb
      go_wp2_with fail
      have hn1 : w.heap.size + 1 < wr.heap.size := HM2.out.lt
      have hrow := MapAt.made (wr.alloc (.map #[] 0))
      have hst : AgeAt w wr.heap.size (bornL l) ⟨[], [], []⟩ ((wr.alloc (.map #[] 0)).alloc (.map #[] 0)) :=
        ⟨(HM.out.alloc _).alloc _, (HM2.out.alloc _).alloc _, (MapAt.made wr).alloc _, by simpa [vals] using hrow, (HB.out.alloc HB.out.size _).alloc (by have := HB.out.size; simp; omega) _⟩
      have HS := Lib.hid hst
      clear hst hrow
      clear HM HM2 HB
      generalize wr.heap.size = n1 at hn1 HS
      generalize hMM : bornL l = M at HS
      have HMM := Lib.hid hMM
      clear hMM
      generalize ((wr.alloc (.map #[] 0)).alloc (.map #[] 0)) = wq at HS
      go_loopw [45] (fun i W => ∃ k : Nat, k ≤ l.length ∧ i = .int .i64 k ∧ AgeAt w n1 M ((l.take k).foldl (agedF M) ⟨[], [], []⟩) W) (fun i _ => l.length - (intOf i).toNat)
      case atStart => exact ⟨0, Nat.zero_le _, rfl, HS.out⟩
      case round =>
        obtain ⟨k, hk, rfl, hat⟩ := hrel
        by_cases hlt : k < l.length
        · obtain ⟨b, o, rfl, c1, c2, c3⟩ := (H.out.fresh hat.bel).cell hlt
          have hf := fold_take (agedF M) ⟨[], [], []⟩ l hlt
          generalize (l.take k).foldl (agedF M) ⟨[], [], []⟩ = S at hat hf
          generalize l[k] = ev at c1 c2 c3 hf
          have HF := Lib.hid hf
          have HA := Lib.hid hat
          have hn2 : w.heap.size + 1 < wr.heap.size := HA.out.ages.lt
          have hn3 : n1 + 1 < wr.heap.size := HA.out.aged.lt
          obtain ⟨op, id, step⟩ := ev
          obtain ⟨sn, ag, ags⟩ := S
          dsimp only at c1 c2 c3
          clear hf hat
          by_cases hop : op = 1
          · subst hop
            have HN := Lib.hid (show agedF M ⟨sn, ag, ags⟩ ⟨1, id, step⟩ = ⟨put sn id true, ag, ags⟩ by simp [agedF, seenF])
            go_wp2_with (at_mapUpdate; refine wpList_update_map _ rfl _ _ _ 56 3 4 rfl Try.underlying56 Try.underlying3 n1 _ rfl id rfl (vb true) rfl (HA.out.seen.alloc _) ?_; intro w' hm' ht' hs'; have HM' := Lib.hid hm'; have HT' := Lib.hid ht'; have HS' := Lib.hid hs'; have hcell' := cellsH (rowT ht' (new0 wr _) (by omega)); clear hm' ht' hs')
            go_roundw
            case rel =>
              refine ⟨k + 1, by omega, by go_num, ?_⟩
              rw [HF.out, HN.out]
              refine ⟨(HA.out.born.alloc _).turn HT'.out (by omega), (HA.out.ages.alloc _).turn HT'.out (by omega), ?_, (HA.out.aged.alloc _).turn HT'.out (by omega), ?_⟩
              · rw [← put_vals]; exact HM'.out
              · exact (HA.out.alloc _).bel.trans (HT'.out.below (by simp; omega) (fun q hq => by omega))
            case measure => simp [intOf]; omega
          · have hop' : (op == 1) = false := by simpa using hop
            by_cases hop2 : op = 2
            · subst hop2
              have hlk1 := fun p => run_lookup_map (P := Try.prog) (t := 56) (k := 3) (e := 4) Try.underlying56 Try.underlying3 (zero4 _) (HA.out.seen.alloc p) id false
              have hlk2 := fun p => run_lookup_map (P := Try.prog) (t := 56) (k := 3) (e := 4) Try.underlying56 Try.underlying3 (zero4 _) (HA.out.aged.alloc p) id false
              have ev1 : ((get (vals vb sn) id).getD (.bool false)) = .bool ((get sn id).getD false) := by rw [get_vals]; cases get sn id <;> rfl
              have ev2 : ((get (vals vb ag) id).getD (.bool false)) = .bool ((get ag id).getD false) := by rw [get_vals]; cases get ag id <;> rfl
              simp only [ev1, ev2] at hlk1 hlk2
              have hag : agedF M ⟨sn, ag, ags⟩ ⟨2, id, step⟩ = if (get sn id).getD false = true ∧ (get ag id).getD false = false then ⟨sn, put ag id true, put ags id (wrap64 (step - (get M id).getD 0))⟩ else ⟨sn, ag, ags⟩ := by
                simp [agedF, seenF]
              have HN := Lib.hid hag
              clear hag ev1 ev2
              generalize hs1 : (get sn id).getD false = s1 at hlk1
              generalize hs2 : (get ag id).getD false = s2 at hlk2
              have HS1 := Lib.hid hs1
              have HS2 := Lib.hid hs2
              clear hs1 hs2
              cases s1 with
              | false =>
                have HN' := HN.out
                simp only [HS1.out, HS2.out, Bool.false_eq_true, false_and, if_false] at HN'
                clear HN
                have HN := Lib.hid HN'
                clear HN'
                go_wp2_with fail
                go_roundw
                case rel => exact ⟨k + 1, by omega, by go_num, by rw [HF.out, HN.out]; exact HA.out.alloc _⟩
                case measure => simp [intOf]; omega
              | true =>
                cases s2 with
                | true =>
                  have HN' := HN.out
                  simp only [HS1.out, HS2.out, Bool.true_eq_false, and_false, if_false] at HN'
                  clear HN
                  have HN := Lib.hid HN'
                  clear HN'
                  go_wp2_with fail
                  go_roundw
                  case rel => exact ⟨k + 1, by omega, by go_num, by rw [HF.out, HN.out]; exact HA.out.alloc _⟩
                  case measure => simp [intOf]; omega
                | false =>
                  have HN' := HN.out
                  simp only [HS1.out, HS2.out, and_self, if_true] at HN'
                  clear HN
                  have HN := Lib.hid HN'
                  clear HN'
                  have ev3 : ((get (vals vi M) id).getD (.int .i64 0)) = .int .i64 ((get M id).getD 0) := by rw [get_vals]; cases get M id <;> rfl
                  go_wp2_with (first | (at_mapUpdate; refine wpList_update_map _ rfl _ _ _ 56 3 4 rfl Try.underlying56 Try.underlying3 (n1 + 1) _ rfl id rfl (vb true) rfl (HA.out.aged.alloc _) ?_; intro w' hm' ht' hs'; have HM' := Lib.hid hm'; have HT' := Lib.hid ht'; have HS' := Lib.hid hs'; have hcell' := cellsH (rowT ht' (new0 wr _) (by omega)); have hlk' := run_lookup_map (P := Try.prog) (t := 36) (k := 3) (e := 3) Try.underlying36 Try.underlying3 (zero3 _) ((HA.out.born.alloc _).turn ht' (by omega)) id false; rw [ev3] at hlk'; clear hm' ht' hs') | (at_mapUpdate; refine wpList_update_map _ rfl _ _ _ 36 3 3 rfl Try.underlying36 Try.underlying3 (w.heap.size + 1) _ rfl id rfl (vi (wrap64 (step - (get M id).getD 0))) rfl ((HA.out.ages.alloc _).turn HT'.out (by omega)) ?_; intro w'' hm'' ht'' hs''; have HM'' := Lib.hid hm''; have HT'' := Lib.hid ht''; have HS'' := Lib.hid hs''; clear hm'' ht'' hs''))
                  go_roundw
                  case rel =>
                    refine ⟨k + 1, by omega, by go_num, ?_⟩
                    rw [HF.out, HN.out]
                    refine ⟨((HA.out.born.alloc _).turn HT'.out (by omega)).turn HT''.out (by omega), ?_, ((HA.out.seen.alloc _).turn HT'.out (by omega)).turn HT''.out (by omega), ?_, ?_⟩
                    · rw [← put_vals]; exact HM''.out
                    · rw [← put_vals]; exact HM'.out.turn HT''.out (by omega)
                    · exact ((HA.out.alloc _).bel.trans (HT'.out.below (by simp; omega) (fun q hq => by omega))).trans (HT''.out.below (by have := HT'.out.size; simp at this; omega) (fun q hq => by omega))
                  case measure => simp [intOf]; omega
            · have hop2' : (op == 2) = false := by simpa using hop2
              have HN := Lib.hid (show agedF M ⟨sn, ag, ags⟩ ⟨op, id, step⟩ = ⟨sn, ag, ags⟩ by simp [agedF, seenF, hop, hop2])
              clear hop hop2
              go_wp2_with fail
              go_roundw
              case rel => exact ⟨k + 1, by omega, by go_num, by rw [HF.out, HN.out]; exact HA.out.alloc _⟩
              case measure => simp [intOf]; omega
        · have he : k = l.length := by omega
          have HA := Lib.hid (show AgeAt w n1 M (l.foldl (agedF M) ⟨[], [], []⟩) wr by rw [he, List.take_length] at hat; exact hat)
          clear he hat
          go_wp2_with fail
          go_ret
          exact ⟨w.heap.size + 1, rfl, by omega, by rw [agM, agL, HMM.out]; exact HA.out.ages, HA.out.bel⟩
end Go.Proofs.Ytngdchahahabpaa
