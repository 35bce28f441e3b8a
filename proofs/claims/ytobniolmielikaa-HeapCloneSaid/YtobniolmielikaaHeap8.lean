/- The contract of the heap's refill; no condition. -/
import Derived.Test.YtobniolmielikaaHeap7
import Derived.Deep.LoopGhost
namespace Go.Proofs.Ytobniolmielikaa
open Go.RowKit

/-- An iterator over a map of objects: those that are still to come read as todo. -/
def ObIter (w : World) (r b : Nat) (m todo : List (Int × Ob)) : Prop := ∃ l tv, IterAt w r b l tv ∧ Kin (ObR 0 w) l m ∧ Kin (ObR 0 w) tv todo
theorem ObIter.map {w : World} {r b : Nat} {m todo : List (Int × Ob)} (h : ObIter w r b m todo) : ObjMap w b m := by
  obtain ⟨l, tv, h1, h2, _⟩ := h
  exact ⟨l, h1.map, h2⟩
theorem ObIter.turn {S : Nat → Prop} {w w' : World} {r b : Nat} {m todo : List (Int × Ob)} (h : ObIter w r b m todo) (ht : Turn S w w') (h1 : ¬ S b) (h2 : ¬ S r) (hn : ∀ k, IsRow 3 w k → ¬ S k) : ObIter w' r b m todo := by
  obtain ⟨l, tv, a1, a2, a3⟩ := h
  exact ⟨l, tv, a1.turn ht h1 h2, a2.imp fun x y q => q.turn ht (fun k _ hk => hn k hk), a3.imp fun x y q => q.turn ht (fun k _ hk => hn k hk)⟩
theorem ObIter.fresh {w w' : World} {r b : Nat} {m todo : List (Int × Ob)} (h : ObIter w r b m todo) (hb : Below w.heap.size w w') : ObIter w' r b m todo :=
  h.turn (below_turn hb fun _ => False) (fun x => x) (fun x => x) (fun _ _ x => x)
theorem ObIter.lt {w : World} {r b : Nat} {m todo : List (Int × Ob)} (h : ObIter w r b m todo) : r < w.heap.size := by
  obtain ⟨l, tv, h1, _⟩ := h
  exact h1.lt
theorem ObIter.notRow {w : World} {r b : Nat} {m todo : List (Int × Ob)} (h : ObIter w r b m todo) : ¬ IsRow 3 w r := by
  obtain ⟨l, tv, ⟨es, clock, si, se, la, _, _, h1, _⟩, _⟩ := h
  rintro ⟨cs, f, h2⟩
  rw [h1] at h2
  simp at h2
theorem ObjMap.notRow {w : World} {b : Nat} {m : List (Int × Ob)} (h : ObjMap w b m) : ¬ IsRow 3 w b := by
  obtain ⟨l, ⟨es, c, h1, _⟩, _⟩ := h
  rintro ⟨cs, f, h2⟩
  rw [h1] at h2
  simp at h2
theorem ObjMap.lt {w : World} {b : Nat} {m : List (Int × Ob)} (h : ObjMap w b m) : b < w.heap.size := by
  obtain ⟨l, h1, _⟩ := h
  exact h1.lt
theorem ObjMap.nodup {w : World} {b : Nat} {m : List (Int × Ob)} (h : ObjMap w b m) : (m.map (·.1)).Nodup := by
  obtain ⟨l, h1, h2⟩ := h
  rw [← h2.keys]
  exact h1.nodup
theorem ob_range {w : World} {b : Nat} {m : List (Int × Ob)} (h : ObjMap w b m) :
    ∃ w', (Instr.range 52 (.map (some b))).run Try.prog w = .ok (.pointer (some ⟨w.heap.size, 0, none⟩)) w' ∧ ObIter w' w.heap.size b m m ∧ Below w.heap.size w w' ∧ w'.heap.size = w.heap.size + 1 := by
  obtain ⟨l, h1, h2⟩ := h
  obtain ⟨w', a1, a2, a3, a4⟩ := run_range_map (P := Try.prog) (t := 52) (k := 3) (e := 25) Try.underlying52 h1
  have h2' : Kin (ObR 0 w') l m := h2.imp fun x y q => q.fresh a3
  exact ⟨w', a1, ⟨l, l, a2, h2', h2'⟩, a3, a4⟩
theorem ob_next {w : World} {r b : Nat} {m todo : List (Int × Ob)} (h : ObIter w r b m todo) (ty : TypeId) :
    (todo = [] ∧ (Instr.next (.pointer (some ⟨r, 0, none⟩)) false ty).run Try.prog w = .ok (.tuple #[.bool false]) w) ∨
    ∃ (i : Nat) (x : Int) (o : Ob) (ra wa : Option Addr) (rc wc : Nat) (w' : World), todo[i]? = some (x, o) ∧
      ObR 0 w' (.agg #[.int .i64 o.op, .int .i64 o.n, .int .i64 o.ar, .slice ra o.refs.length rc, .slice wa o.words.length wc]) o ∧
      (Instr.next (.pointer (some ⟨r, 0, none⟩)) false ty).run Try.prog w = .ok (.tuple #[.bool true, .int .i64 x, .agg #[.int .i64 o.op, .int .i64 o.n, .int .i64 o.ar, .slice ra o.refs.length rc, .slice wa o.words.length wc]]) w' ∧
      ObIter w' r b m (todo.eraseIdx i) ∧ Turn (· = r) w w' ∧ w'.heap.size = w.heap.size ∧
      (Instr.entry (.pointer (some ⟨r, 0, none⟩))).run Try.prog w' = .ok (.tuple #[.int .i64 x, .agg #[.int .i64 o.op, .int .i64 o.n, .int .i64 o.ar, .slice ra o.refs.length rc, .slice wa o.words.length wc]]) w' := by
  have hnr := h.notRow
  obtain ⟨l, tv, h1, h2, h3⟩ := h
  rcases run_next_map (P := Try.prog) h1 ty with ⟨h0, hrun⟩ | ⟨i, x, v, w', h4, hrun, hit, ht, hs, hentry⟩
  · left
    refine ⟨?_, hrun⟩
    have := h3.length
    rw [h0] at this
    exact List.eq_nil_of_length_eq_zero this.symm
  · right
    obtain ⟨⟨x', o⟩, h5, hx, ho⟩ := forall2_get h3 h4
    dsimp only at hx ho
    subst hx
    have hk : ∀ k, IsRow 3 w k → ¬ k = r := by
      rintro k hk rfl
      exact hnr hk
    have ho' := ho.turn ht (fun k _ h => hk k h)
    obtain ⟨ra, rc, wa, wc, rfl⟩ := ho.open
    exact ⟨i, x, o, ra, wa, rc, wc, w', h5, ho', hrun, ⟨l, tv.eraseIdx i, hit, h2.imp fun p q g => g.turn ht (fun k _ h => hk k h), forall2_erase (h3.imp fun p q g => g.turn ht (fun k _ h => hk k h)) i⟩, ht, hs, hentry⟩

theorem Turn.under {S S' : Nat → Prop} {a b c : World} (h : Turn S a b) (k : Turn S' b c) (hs : ∀ k, k < a.heap.size → S' k → S k) : Turn S a c :=
  ((h.mono (S' := fun k => S k ∨ S' k) fun _ _ => .inl).trans (k.mono fun _ _ => .inr)).mono fun k hk h => h.elim id (hs k hk)

/-- Where the second loop of refill stands. -/
structure FillAt (w : World) (b b' r : Nat) (m' done todo : List (Int × Ob)) (W : World) : Prop where
  to : ObjMap W b done
  it : ObIter W r b' m' todo
  perm : (done ++ todo).Perm m'
  turn : Turn (· = b) w W

set_option maxHeartbeats 1000000 in
theorem refill_any (w : World) (b b' : Nat) (m m' : List (Int × Ob)) (hb : ObjMap w b m) (hb' : ObjMap w b' m') (hne : b ≠ b') (hk : ∀ p ∈ m', 0 ≤ p.1 ∧ p.1 < 9223372036854775807) :
    Calls Try.prog 65 #[.map (some b), .map (some b')] w fun e w' => e = .returned (.int .i64 (nxt m')) ∧ ∃ m2, m2.Perm m' ∧ ObjMap w' b m2 ∧ Turn (· = b) w w' := by
  have hnd := hb'.nodup
  have hltb := hb.lt
  have NR := Lib.hid (show ∀ k, IsRow 3 w k → ¬ k = b from fun k hk e => hb.notRow (e ▸ hk))
  obtain ⟨l0, hm0, hk0⟩ := hb
  obtain ⟨wi, hrun, hit, hwb, hws⟩ := run_range_map (P := Try.prog) (t := 52) (k := 3) (e := 25) Try.underlying52 hm0
  have hnd1 := hm0.nodup
  have HB' := Lib.hid hb'
  have HN := Lib.hid hnd
  have HN1 := Lib.hid hnd1
  have HK := Lib.hid hk
  have HIT := Lib.hid hit
  have HWB := Lib.hid hwb
  clear hb' hnd hk hit hwb hm0 hk0 hws hnd1
  go_enter Try.func65, Try.ntmps65
  go_wp2_with fail
  clear hrun
  go_loopg [] l0.length (fun g W => ∃ l todo : List (Int × Value), g = todo.length ∧ l.Perm todo ∧ (l.map (·.1)).Nodup ∧ IterAt W w.heap.size b l todo ∧ Turn (· = b) w W)
  case atStart => exact ⟨l0, l0, rfl, .refl _, HN1.out, HIT.out, below_turn HWB.out _⟩
  case round =>
    obtain ⟨l, todo, rfl, hp, hnl, hit, ht0⟩ := hrel
    rcases run_next_map (P := Try.prog) hit 0 with ⟨h0, hrun⟩ | ⟨i, x, v, w', h1, hrun, hit', ht, hs, hentry⟩
    · subst h0
      have hl : l = [] := List.Perm.eq_nil hp
      subst hl
      have hm : ObjMap wr b [] := ⟨[], hit.map, .nil⟩
      have hb2 : ObjMap wr b' m' := HB'.out.turn ht0 (fun e => hne e.symm) NR.out
      obtain ⟨w2, hrun2, hit2, hwb2, hws2⟩ := ob_range hb2
      have hsz := ht0.size
      have HST := Lib.hid (show FillAt w b b' wr.heap.size m' [] m' w2 from ⟨hm.fresh hwb2, hit2, .refl _, ht0.then hwb2⟩)
      clear hp hnl hit ht0 hm hb2 hit2 hwb2 hws2
      go_wp2_with fail
      clear hrun hrun2
      generalize wr.heap.size = n1 at HST hsz
      go_loopg [6] m'.length (fun g u W => ∃ done todo : List (Int × Ob), g = todo.length ∧ u = .int .i64 (nxt done) ∧ FillAt w b b' n1 m' done todo W)
      case atStart => exact ⟨[], m', rfl, rfl, HST.out⟩
      case round =>
        obtain ⟨done, todo, rfl, rfl, hst⟩ := hrel
        rcases ob_next hst.it 0 with ⟨h0, hrun⟩ | ⟨i, x, o, ra, wa, rc, wc, w', h1, hob, hrun, hit', ht, hs, hentry⟩
        · subst h0
          have hperm : done.Perm m' := by simpa using hst.perm
          rw [nxt_perm hperm]
          have HS := Lib.hid hst
          have HP := Lib.hid hperm
          clear hst hperm
          go_wp2_with fail
          go_ret
          exact ⟨rfl, done, HP.out, HS.out.to, HS.out.turn⟩
        · have hx := HK.out (x, o) (hst.perm.mem_iff.1 (List.mem_append_right _ (List.mem_of_getElem? h1)))
          obtain ⟨hx1, hx2⟩ := hx
          dsimp only at hx1 hx2
          have hnx := nxt_snoc done (x, o)
          have HNX := Lib.hid hnx
          have hw : wrap64 (x + 1) = x + 1 := by unfold wrap64; omega
          have hnew : x ∉ done.map (·.1) := by
            have h2 := ((hst.perm.map (·.1)).nodup_iff).2 HN.out
            rw [List.map_append, List.nodup_append] at h2
            intro h3
            exact h2.2.2 x h3 x (List.mem_map_of_mem (f := (·.1)) (List.mem_of_getElem? h1)) rfl
          have HNEW := Lib.hid hnew
          have to1 := (hst.to.turn ht (by omega) (fun k hk e => hst.it.notRow (e ▸ hk))).fresh ((Below.refl _ _).alloc (Nat.le_refl _) (.cells #[.int .i64 o.op, .int .i64 o.n, .int .i64 o.ar, .slice ra o.refs.length rc, .slice wa o.words.length wc] 25))
          have TO1 := Lib.hid to1
          have HS := Lib.hid hst
          have HO := Lib.hid hob
          have HI := Lib.hid hit'
          have HT := Lib.hid ht
          have H1 := Lib.hid h1
          clear hst hob hit' ht h1 hnx hnew to1
          go_wp2_with fail
          refine (copied_any _ _ o _ (HO.out.fresh ((Below.refl _ _).alloc (Nat.le_refl _) _)).at).mono ?_
          rintro e w3 ⟨v3, rfl, ho3, hb3⟩
          obtain ⟨ra3, rc3, wa3, wc3, rfl⟩ := ho3.open
          have to3 := TO1.out.fresh hb3
          have hnr3 := to3.notRow
          obtain ⟨L, hm3, hk3⟩ := to3
          have HM3 := Lib.hid hm3
          have HK3 := Lib.hid hk3
          have HO3 := Lib.hid ho3
          have HB3 := Lib.hid hb3
          have NR3 := Lib.hid hnr3
          clear hm3 hk3 ho3 hb3 hnr3
          go_wp2_with (at_mapUpdate; refine wpList_update_map _ rfl _ _ _ 52 3 25 rfl Try.underlying52 Try.underlying3 b _ rfl x rfl _ rfl HM3.out ?_; intro w4 hm4 ht4 hs4; have HM4 := Lib.hid hm4; have HT4 := Lib.hid ht4; clear hm4 ht4)
          all_goals (
            go_roundg (todo.eraseIdx i).length
            case measure =>
              have := (List.getElem?_eq_some_iff.1 H1.out).1
              rw [List.length_eraseIdx_of_lt this]; omega
            case rel =>
              have hnL : x ∉ L.map (·.1) := by rw [HK3.out.keys]; exact HNEW.out
              have hnb : ∀ k, IsRow 3 w3 k → ¬ k = b := fun k hk e => NR3.out (e ▸ hk)
              have hm4 := HM4.out
              rw [put_new hnL] at hm4
              refine ⟨done ++ [(x, o)], todo.eraseIdx i, rfl, ?_, ⟨⟨_, hm4, ?_⟩, ?_, ?_, ?_⟩⟩
              · rw [HNX.out]
                exact congrArg (Value.int IntKind.i64) (by omega)
              · exact forall2_append (HK3.out.imp fun p q g => g.turn HT4.out (fun k _ h => hnb k h)) (.cons ⟨rfl, (HO3.out.base (Nat.zero_le _)).turn HT4.out (fun k _ h => hnb k h)⟩ .nil)
              · exact (((HI.out.fresh ((Below.refl _ _).alloc (Nat.le_refl _) _)).fresh HB3.out)).turn HT4.out (fun e => hne e.symm) (by omega) hnb
              · rw [List.append_assoc]
                exact ((perm_erase todo i _ H1.out).append_left done).trans HS.out.perm
              · exact ((((HS.out.turn.under HT.out (fun k hk e => by omega)).alloc _).then HB3.out)).trans HT4.out)
    · have hnot := erase_key ((hp.map _).nodup_iff.1 hnl) h1
      obtain ⟨w2, hdel, hit2, ht2, hs2⟩ := run_delete_iter (P := Try.prog) (t := 52) (k := 3) (e := 25) Try.underlying52 Try.underlying3 hit' x hnot 0 3
      have HP := Lib.hid hp
      have HNL := Lib.hid hnl
      have HI2 := Lib.hid hit2
      have HT0 := Lib.hid ht0
      have HT := Lib.hid ht
      have HT2 := Lib.hid ht2
      have H1 := Lib.hid h1
      clear hp hnl hit2 ht0 ht ht2 h1 hnot hit'
      go_wp2_with fail
      go_roundg (todo.eraseIdx i).length
      case measure =>
        have := (List.getElem?_eq_some_iff.1 H1.out).1
        rw [List.length_eraseIdx_of_lt this]; omega
      case rel =>
        refine ⟨_, todo.eraseIdx i, rfl, del_perm HP.out HNL.out H1.out, ?_, HI2.out, (HT0.out.under HT.out (fun k hk e => by omega)).trans HT2.out⟩
        have := (perm_erase todo i _ H1.out).map (·.1)
        have h3 := (((del_perm HP.out HNL.out H1.out).map (·.1))).nodup_iff
        rw [h3]
        have h4 := (this.trans (HP.out.map (·.1)).symm).nodup_iff.2 HNL.out
        rw [List.map_cons, List.nodup_cons] at h4
        exact h4.2
end Go.Proofs.Ytobniolmielikaa
