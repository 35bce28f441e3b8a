/- The reference's Has, include and Collect; no condition. -/
import Derived.Test.YtmehknlijcbphaaGreatDoorFun2
import Derived.Deep.AppendLies
import Derived.Lib.Hide
import Derived.WalkLawsBesides
import Derived.WalkSpells
import Derived.Deep.CutRange
namespace Go.Proofs.YtmehknlijcbphaaGreatDoor
open Go Go.RowKit Go.Shelf Ev

theorem info9 : (Tryz.prog.info? 9).map (fun i => (i.zero, i.size, i.bytes)) = some (some (.string .empty), 1, 16) := by kernel_rfl
theorem partsOf {e : TypeId} {z : Value} {s b : Nat} (h : (Tryz.prog.info? e).map (fun i => (i.zero, i.size, i.bytes)) = some (some z, s, b)) : ∃ i, Tryz.prog.info? e = some i ∧ i.zero = some z ∧ i.size = s ∧ i.bytes = b := by
  cases hi : Tryz.prog.info? e with
  | none => rw [hi] at h; cases h
  | some i =>
    rw [hi] at h
    simp only [Option.map_some, Option.some.injEq, Prod.mk.injEq] at h
    exact ⟨i, rfl, h.1, h.2.1, h.2.2⟩

/-- v is a row of strings of its own, from base on. -/
abbrev Ss (base : Nat) (w : World) (v : Value) (l : List ByteArray) : Prop := w.ownsRow base 9 1 v l.length (l.map Value.string)
def hasS (l : List ByteArray) (x : ByteArray) : Bool := l.any fun s => bytesEq s.data.toList x.data.toList
def incl (l : List ByteArray) (x : ByteArray) : List ByteArray := if hasS l x = true then l else l ++ [x]

theorem ss_shape {base : Nat} {w : World} {v : Value} {l : List ByteArray} (h : Ss base w v l) : ∃ A c, v = .slice A l.length c := by
  rcases h.2 with ⟨rfl, h0⟩ | ⟨g, cap, cur, rfl, _⟩
  · exact ⟨none, 0, by rw [h0]⟩
  · exact ⟨_, cap, rfl⟩
theorem ss_cell {base : Nat} {w : World} {A : Option Addr} {n c : Nat} {l : List ByteArray} (h : Ss base w (.slice A n c) l) {k : Nat} (hk : k < l.length) : ∃ g, A = some ⟨g, 0, none⟩ ∧ w.cell? ⟨g, k, none⟩ = some (.string l[k]) := by
  rcases h.2 with ⟨_, h0⟩ | ⟨g, cap, cur, e, _⟩
  · omega
  · cases e
    refine ⟨g, rfl, ?_⟩
    rw [World.ownsRow.cellAt h k (by simpa using hk)]
    simp [hk]
theorem ss_len {base : Nat} {w : World} {v : Value} {l : List ByteArray} (h : Ss base w v l) : l.length ≤ 9223372036854775807 := by
  rcases h.2 with ⟨_, h0⟩ | ⟨g, cap, cur, _, _, _, h1, h2, _⟩
  · omega
  · unfold maxLen at h2; omega
theorem any_upto {l : List ByteArray} {x : ByteArray} {k : Nat} (hk : k < l.length) : hasS (l.take (k + 1)) x = (hasS (l.take k) x || bytesEq l[k].data.toList x.data.toList) := by
  have e : l.take (k + 1) = l.take k ++ [l[k]] := by simp
  unfold hasS
  rw [e, List.any_append]
  simp
theorem str_beq (a b : ByteArray) : bytesEq a.data.toList b.data.toList = (a.toList == b.toList) := by rw [bytesEq_eq, ByteArray.toList_eq, ByteArray.toList_eq]
theorem has_mono {l : List ByteArray} {x : ByteArray} {k : Nat} (h : hasS (l.take k) x = true) : hasS l x = true := by
  unfold hasS at h ⊢
  obtain ⟨y, hy, e⟩ := List.any_eq_true.1 h
  exact List.any_eq_true.2 ⟨y, List.mem_of_mem_take hy, e⟩

set_option maxHeartbeats 400000 in
theorem has_any (base : Nat) (w : World) (v : Value) (l : List ByteArray) (x : ByteArray) (h : Ss base w v l) :
    Calls Tryz.prog 43 #[v, .string x] w fun e w' => e = .returned (.bool (hasS l x)) ∧ w' = w := by
  obtain ⟨A, c, rfl⟩ := ss_shape h
  have hlen := ss_len h
  have H := Lib.hid h
  clear h
  go_enter Tryz.func43, Tryz.ntmps43
  go_wp2_with fail
  go_loopw [5] (fun i wr => ∃ n : Nat, n ≤ l.length ∧ i = .int .i64 n ∧ hasS (l.take n) x = false ∧ wr = w) (fun i _ => l.length - (intOf i).toNat)
  case atStart => exact ⟨0, Nat.zero_le _, rfl, rfl, rfl⟩
  case round =>
    obtain ⟨n, hn, rfl, hno, rfl⟩ := hrel
    have HNO := Lib.hid hno
    clear hno
    by_cases hlt : n < l.length
    · obtain ⟨g, rfl, hc⟩ := ss_cell H.out hlt
      have HLT := Lib.hid hlt
      have HU := Lib.hid (any_upto (x := x) hlt)
      have HM := Lib.hid (fun h => has_mono (l := l) (x := x) (k := n + 1) h)
      generalize l[n] = y at hc HU
      by_cases he : (y.toList == x.toList) = true
      · have HF := Lib.hid (HM.out (by rw [HU.out, str_beq, he]; simp))
        clear HM HU
        go_wp2_with fail
        go_ret
        exact ⟨by rw [HF.out]; rfl, by first | rfl | trivial⟩
      · rw [Bool.not_eq_true] at he
        have HF := Lib.hid (show hasS (l.take (n + 1)) x = false by rw [HU.out, str_beq, he, HNO.out]; rfl)
        clear HM HU
        go_wp2_with fail
        go_roundw
        case rel => exact ⟨n + 1, HLT.out, by go_num, HF.out, by first | rfl | trivial⟩
        case measure => have := HLT.out; simp [intOf]; omega
    · have he : n = l.length := by omega
      subst he
      have HF := Lib.hid (show hasS l x = false by have := HNO.out; rwa [List.take_length] at this)
      go_wp2_with fail
      go_ret
      exact ⟨by rw [HF.out]; rfl, by first | rfl | trivial⟩

/-- A step of a row: only its own block turns; the new row lies in the same block or in a new one. -/
def Nxt (w w' : World) (v v' : Value) : Prop := w.grownBy w' v.ownBlock ∧ (v'.ownBlock = v.ownBlock ∨ ∃ g, v'.ownBlock = some g ∧ w.heap.size ≤ g)
theorem Nxt.refl (w : World) (v : Value) : Nxt w w v v := ⟨World.grownBy.refl w _, .inl rfl⟩
theorem Nxt.trans {a b c : World} {u v x : Value} (h : Nxt a b u v) (k : Nxt b c v x) : Nxt a c u x := by
  obtain ⟨h1, h2⟩ := h
  obtain ⟨k1, k2⟩ := k
  refine ⟨⟨k1.os.trans h1.os, k1.tape.trans h1.tape, k1.output.trans h1.output, Nat.le_trans h1.size k1.size, fun i hi hne => ?_⟩, ?_⟩
  · rw [← h1.block i hi hne]
    refine k1.block i (Nat.lt_of_lt_of_le hi h1.size) ?_
    rcases h2 with h2 | ⟨g, h2, h3⟩
    · rw [h2]; exact hne
    · rw [h2]; intro e; injection e with e; omega
  · rcases k2 with k2 | ⟨g, k2, k3⟩
    · rcases h2 with h2 | ⟨g, h2, h3⟩
      · exact .inl (k2.trans h2)
      · exact .inr ⟨g, k2.trans h2, h3⟩
    · exact .inr ⟨g, k2, Nat.le_trans h1.size k3⟩
theorem Nxt.alloc (w : World) (o : Obj) (v : Value) : Nxt w (w.alloc o) v v := ⟨World.grownBy_alloc w o _, .inl rfl⟩
theorem Nxt.below {w w' : World} {v v' : Value} (h : Nxt w w' v v') {B : Nat} (hB : B ≤ w.heap.size) (hv : ∀ k, v.ownBlock = some k → B ≤ k) : Below B w w' := (Below.refl B w).grown h.1 hB hv
theorem Nxt.at {w w' : World} {v v' : Value} (h : Nxt w w' v v') {k : Nat} {o : Obj} (hk : w.heap[k]? = some o) (hne : v.ownBlock ≠ some k) : w'.heap[k]? = some o :=
  (h.1.block k (Array.getElem?_eq_some_iff.1 hk).1 (fun e => hne e.symm)).trans hk

theorem ss_append {base : Nat} {w : World} {v : Value} {l : List ByteArray} (h : Ss base w v l) (hb : base ≤ w.heap.size) (hn : l.length < 1000) (x : ByteArray) (ty : TypeId) :
    ∃ g cap w', (Builtin.append_ #[46, 46] ty #[v, .slice (some ⟨w.heap.size, 0, none⟩) 1 1]).run Tryz.prog (w.alloc (.cells #[.string x] 9)) = .ok (.slice (some ⟨g, 0, none⟩) (l.length + 1) cap) w' ∧
      Ss base w' (.slice (some ⟨g, 0, none⟩) (l.length + 1) cap) (l ++ [x]) ∧ Nxt w w' v (.slice (some ⟨g, 0, none⟩) (l.length + 1) cap) := by
  obtain ⟨i, hi, hz0, hz1, hz2⟩ := partsOf info9
  obtain ⟨g, cap, w', h1, h2, h3, h4, _⟩ := run_append_lies (P := Tryz.prog) (w.alloc (.cells #[.string x] 9)) 46 ty base 9 i _ 1 16 Tryz.underlying46 hi hz0 hz1 hz2 rfl (by decide) v l.length (l.map Value.string) (h.kept (World.grownBy_alloc w _ none) (by cases v.ownBlock <;> simp)) ⟨w.heap.size, 0, none⟩ 1 1 [.string x] rfl
    (by
      intro j u hj
      rw [add_at]
      simp only [Nat.zero_add]
      rw [row_cell (vs := [.string x]) (alloc_new _ _)]
      exact hj) (by simp [Value.oneCell']) (by decide) (by unfold maxLen; omega) (by omega) (by rw [World.size_alloc]; omega) _ rfl
  refine ⟨g, cap, w', h1, ?_, (Nxt.alloc w _ v).trans ⟨h3, ?_⟩⟩
  · unfold Ss
    rw [List.length_append, List.map_append]
    exact h2
  · rcases h4 with h4 | h4
    · exact .inl h4.symm
    · exact .inr ⟨g, rfl, Nat.le_of_eq h4.symm⟩

theorem wpList_append_run {P : Program} (w : World) {ops : Array Oper} {rest : List Oper} {o : Oper} {a : Act} {Q : Exit → Act → World → Prop}
    (hg : o.guard = none) (s x : Operand) (t : TypeId) (hop : o.op = Op.call { callee := Callee.builtin Builtin.append, args := #[s, x], argTypes := #[t, t] })
    (u y : Value) (hs : a.eval s = u) (hx : a.eval x = y) (v : Value) (w' : World) (hrun : (Builtin.append_ #[t, t] o.type #[u, y]).run P w = .ok v w')
    (hK : wpList P ops Q rest (a.put o.dst v) w') : wpList P ops Q (o :: rest) a w := by
  refine wpList_plain hg fun K hK' => ?_
  unfold Oper.wp
  simp [execOp, hop, resolve, invoke, builtin, hs, hx, hrun, Result.andThen]
  exact hK' _ _ hK
set_option maxHeartbeats 400000 in
theorem include_any (n0 : Nat) (w : World) (v : Value) (l : List ByteArray) (x : ByteArray) (h : Ss n0 w v l) (hb : n0 ≤ w.heap.size) (hl : l.length < 1000) :
    Calls Tryz.prog 44 #[v, .string x] w fun e w' => ∃ v', e = .returned v' ∧ Ss n0 w' v' (incl l x) ∧ Nxt w w' v v' := by
  have H := Lib.hid h
  obtain ⟨A, c, rfl⟩ := ss_shape h
  clear h
  go_enter Tryz.func44, Tryz.ntmps44
  go_wp2_with fail
  refine (has_any n0 w _ l x H.out).mono ?_
  rintro e w1 ⟨rfl, rfl⟩
  by_cases hh : hasS l x = true
  · go_wp2_with fail
    go_ret
    exact ⟨_, rfl, by simp only [incl, hh, if_true]; exact H.out, Nxt.refl _ _⟩
  · rw [Bool.not_eq_true] at hh
    obtain ⟨g, cap, w', h1, h2, h3⟩ := ss_append H.out hb hl x 46
    have H2 := Lib.hid h2
    have H3 := Lib.hid h3
    clear h2 h3
    go_wp2_with (at_builtin; refine wpList_append_run _ rfl _ _ 46 rfl _ _ rfl rfl _ _ h1 ?_)
    go_ret
    exact ⟨_, rfl, by simp only [incl, hh]; exact H2.out, H3.out⟩

/-- What Collect leaves, no name bound: so deep. -/
def coll : Nat → List ByteArray → AV → Option (List ByteArray)
  | 0, _, _ => none
  | d + 1, l, t => match t with
    | .agg [.lit (.int .i64 op), .lit (.string nm), _, kids] =>
      if op = 1 then (if l.length < 1000 then some (incl l nm) else none)
      else if op = 4 then none
      else match kids with
        | .lit (.slice none 0 0) => some l
        | .sl n cs none => if n ≤ 1000 ∧ cs.length = n * 4 then (List.range n).foldlM (fun l j => coll d l (.agg ((cs.drop (j * 4)).take 4))) l else none
        | _ => none
    | _ => none
theorem fold_split {α : Type} (f : α → Nat → Option α) : ∀ (n : Nat) (l r : α), (List.range n).foldlM f l = some r → ∀ k, k < n → ∃ m m', (List.range k).foldlM f l = some m ∧ f m k = some m' ∧ (List.range (k + 1)).foldlM f l = some m' := by
  intro n l r h k hk
  obtain ⟨j, rfl⟩ := Nat.exists_eq_add_of_le (show k + 1 ≤ n from hk)
  rw [List.range_add, List.foldlM_append] at h
  cases h1 : (List.range (k + 1)).foldlM f l with
  | none => rw [h1] at h; cases h
  | some m' =>
    have h2 := h1
    rw [List.range_succ, List.foldlM_append] at h2
    cases h3 : (List.range k).foldlM f l with
    | none => rw [h3] at h2; cases h2
    | some m =>
      rw [h3] at h2
      refine ⟨m, m', rfl, ?_, rfl⟩
      have : (f m k).bind (fun s' => some s') = some m' := h2
      simpa using this

/-- The kids of a type: their cells, and what they are. -/
structure Kids [Syms] (n0 : Nat) (ok : Nat → Nat → Prop) (cs : List AV) (w : World) (A : Option Addr) (n : Nat) (es : Nat → Value × Value × Value × Value) : Prop where
  el : Elems n0 w A n es
  one : ∀ j, j < n → ((es j).1.oneCell' = true ∧ (es j).2.1.oneCell' = true ∧ (es j).2.2.1.oneCell' = true ∧ (es j).2.2.2.oneCell' = true)
  real : ∀ j, j < n → Real (argCx w ok) (.agg ((cs.drop (j * 4)).take 4)) (.agg #[(es j).1, (es j).2.1, (es j).2.2.1, (es j).2.2.2])
theorem kids_of [Syms] {n0 : Nat} {ok : Nat → Nat → Prop} (hok : ∀ b o, ok b o → b < n0) {w : World} {n : Nat} {cs : List AV} {tk : Option (Nat × TypeId × Nat)} {v : Value} (h : Real (argCx w ok) (.sl n cs tk) v) (hl : cs.length = n * 4) :
    ∃ b off cap es, v = .slice (some ⟨b, off, none⟩) n cap ∧ Kids n0 ok cs w (some ⟨b, off, none⟩) n es := by
  simp only [Real] at h
  obtain ⟨b, off, cap, vps, rfl, _, hps, hc, _⟩ := h
  have hvl := hps.length
  rw [hl] at hvl
  obtain ⟨es, hes⟩ : ∃ es : Nat → Value × Value × Value × Value, es = fun j => (vps.getD (j * 4) undef, vps.getD (j * 4 + 1) undef, vps.getD (j * 4 + 2) undef, vps.getD (j * 4 + 3) undef) := ⟨_, rfl⟩
  have hget : ∀ j, j < n * 4 → vps[j]? = some (vps.getD j undef) := fun j hj => by
    rw [List.getD_eq_getElem?_getD, List.getElem?_eq_getElem (by omega)]; rfl
  have hone : ∀ j, j < n → ((es j).1.oneCell' = true ∧ (es j).2.1.oneCell' = true ∧ (es j).2.2.1.oneCell' = true ∧ (es j).2.2.2.oneCell' = true) := by
    intro j hj
    rw [hes]
    exact ⟨(hc (j * 4) _ (hget (j * 4) (by omega))).2.2, (hc (j * 4 + 1) _ (hget (j * 4 + 1) (by omega))).2.2, (hc (j * 4 + 2) _ (hget (j * 4 + 2) (by omega))).2.2, (hc (j * 4 + 3) _ (hget (j * 4 + 3) (by omega))).2.2⟩
  refine ⟨b, off, cap, es, rfl, ?_, hone, ?_⟩
  · intro h
    refine ⟨b, off, rfl, hok _ _ (hc 0 _ (hget 0 (by omega))).2.1, fun j hj => ?_⟩
    rw [hes]
    exact ⟨(hc (j * 4) _ (hget (j * 4) (by omega))).1, (hc (j * 4 + 1) _ (hget (j * 4 + 1) (by omega))).1, (hc (j * 4 + 2) _ (hget (j * 4 + 2) (by omega))).1, (hc (j * 4 + 3) _ (hget (j * 4 + 3) (by omega))).1⟩
  · intro j hj
    have h1 := (hps.drop (j * 4)).take 4
    have h2 : (vps.drop (j * 4)).take 4 = [(es j).1, (es j).2.1, (es j).2.2.1, (es j).2.2.2] := by
      apply List.ext_getElem?
      intro i
      rw [hes]
      rw [List.getElem?_take]
      by_cases hi : i < 4
      · rw [if_pos hi, List.getElem?_drop, hget _ (by omega)]
        match i, hi with
        | 0, _ => rfl
        | 1, _ => rfl
        | 2, _ => rfl
        | 3, _ => rfl
      · rw [if_neg hi]
        simp
        omega
    rw [h2] at h1
    simp only [Real]
    obtain ⟨o0, o1, o2, o3⟩ := hone j hj
    refine ⟨_, rfl, h1, ?_⟩
    intro v hv
    simp only [List.mem_cons, List.not_mem_nil, or_false] at hv
    rcases hv with rfl | rfl | rfl | rfl <;> assumption
theorem Kids.below [Syms] {n0 : Nat} {ok : Nat → Nat → Prop} (hok : ∀ b o, ok b o → b < n0) {cs : List AV} {w w' : World} {A : Option Addr} {n : Nat} {es : Nat → Value × Value × Value × Value} (h : Kids n0 ok cs w A n es) (hb : Below n0 w w') : Kids n0 ok cs w' A n es :=
  ⟨h.el.below hb, h.one, fun j hj => (h.real j hj).le (le_arg (fun _ _ h => h) (fun b o v hb' hv => by rw [cell_eq (hb.block b (hok b o hb'))]; exact hv))⟩

theorem ss_above {n0 : Nat} {w : World} {v : Value} {l : List ByteArray} (h : Ss n0 w v l) : ∀ k, v.ownBlock = some k → n0 ≤ k := fun k hk => (h.lt k hk).1
theorem ss_ne {n0 : Nat} {w : World} {v : Value} {l : List ByteArray} (h : Ss n0 w v l) {k : Nat} (hk : w.heap.size ≤ k) : v.ownBlock ≠ some k := fun e => by have := (h.lt k e).2; omega
theorem ss_alloc {n0 : Nat} {w : World} {v : Value} {l : List ByteArray} (h : Ss n0 w v l) (o : Obj) : Ss n0 (w.alloc o) v l := h.kept (World.grownBy_alloc w _ none) (by cases v.ownBlock <;> simp)

theorem incl_ne (l : List ByteArray) (x : ByteArray) : incl l x ≠ [] := by
  unfold incl
  split
  · rintro rfl
    simp_all [hasS]
  · simp

set_option maxRecDepth 10000 in
set_option maxHeartbeats 4000000 in
theorem coll_any [Syms] : ∀ (d : Nat) (l : List ByteArray) (t : AV) (r : List ByteArray), coll d l t = some r → ∀ (W : World) (ok : Nat → Nat → Prop) (n0 : Nat) (vt v : Value), (∀ b o, ok b o → b < n0) → n0 ≤ W.heap.size → Real (argCx W ok) t vt → Ss n0 W v l → (l = [] → v = .slice none 0 0) →
    Calls Tryz.prog 24 #[v, .slice none 0 0, vt] W fun e W' => ∃ v', e = .returned v' ∧ (Ss n0 W' v' r ∧ (r = [] → v' = .slice none 0 0)) ∧ Nxt W W' v v'
  | 0, l, t, r, h => by cases h
  | d + 1, l, t, r, h => by
    intro W ok n0 vt v hok hn0 hR hS hnil
    have HNIL := Lib.hid hnil
    clear hnil
    have ih := coll_any d
    unfold coll at h
    split at h
    case h_2 => cases h
    rename_i op nm bnd kids
    simp only [Real] at hR
    obtain ⟨vs, rfl, hvs, hv1⟩ := hR
    obtain ⟨u0, us0, rfl, h0, hvs1⟩ := realL_cons_inv hvs
    obtain ⟨u1, us1, rfl, h1, hvs2⟩ := realL_cons_inv hvs1
    obtain ⟨ub, us2, rfl, hb, hvs3⟩ := realL_cons_inv hvs2
    obtain ⟨uk, us3, rfl, hk, hvs4⟩ := realL_cons_inv hvs3
    obtain rfl := realL_nil_inv hvs4
    simp only [Real] at h0 h1
    subst h0
    subst h1
    have ob : ub.oneCell' = true := hv1 _ (by simp)
    have okk : uk.oneCell' = true := hv1 _ (by simp)
    clear hv1 hvs hvs1 hvs2 hvs3 hvs4 hb
    have HS := Lib.hid hS
    have HOK := Lib.hid hok
    have IH := Lib.hid ih
    obtain ⟨A, c, rfl⟩ := ss_shape hS
    clear hS hok ih
    by_cases h1 : op = 1
    · subst h1
      rw [if_pos rfl] at h
      split at h
      case isFalse => cases h
      rename_i hl
      injection h with h
      subst h
      obtain ⟨W1, hW1⟩ : ∃ W1, W.alloc (.cells #[.int .i64 1, .string nm, ub, uk] 39) = W1 := ⟨_, rfl⟩
      have X1 : W1.heap[W.heap.size]? = some (.cells #[.int .i64 1, .string nm, ub, uk] 39 (0, 0)) := by rw [← hW1]; exact alloc_new _ _
      have hs1 : W1.heap.size = W.heap.size + 1 := by rw [← hW1]; exact alloc_size _ _
      have N1 := Lib.hid (show Nxt W W1 (.slice A l.length c) (.slice A l.length c) by rw [← hW1]; exact Nxt.alloc _ _ _)
      have S1 := Lib.hid (show Ss n0 W1 (.slice A l.length c) l by rw [← hW1]; exact ss_alloc HS.out _)
      obtain ⟨c0, c1, c2, c3⟩ := cells4 X1
      clear X1
      go_enter Tryz.func24, Tryz.ntmps24
      go_upto_region 1 with (fail)
      try rw [hW1]
      clear hW1
      go_wp2_with fail
      refine (has_any 0 W1 _ [] nm (World.ownsRow_nil _ _ _ _)).mono ?_
      rintro e w2 ⟨rfl, rfl⟩
      rw [show hasS [] nm = false from rfl]
      go_wp2_with fail
      refine (include_any n0 w2 _ l nm S1.out (by omega) hl).mono ?_
      rintro e w3 ⟨v', rfl, s3, n3⟩
      have S3 := Lib.hid s3
      have N3 := Lib.hid n3
      clear s3 n3
      go_wp2_with fail
      go_ret
      exact ⟨_, rfl, ⟨S3.out, fun h => absurd h (incl_ne l nm)⟩, N1.out.trans N3.out⟩
    · rw [if_neg h1] at h
      by_cases h4 : op = 4
      · rw [if_pos h4] at h; cases h
      rw [if_neg h4] at h
      have b1 : (op == 1) = false := by simpa using h1
      have b4 : (op == 4) = false := by simpa using h4
      clear h1 h4
      have hkids : ∃ A2 n cap2 es cs, uk = .slice A2 n cap2 ∧ n ≤ 1000 ∧ Kids n0 ok cs W A2 n es ∧ (List.range n).foldlM (fun l j => coll d l (.agg ((cs.drop (j * 4)).take 4))) l = some r := by
        split at h
        · simp only [Real] at hk
          subst hk
          injection h with h
          subst h
          exact ⟨none, 0, 0, fun _ => (undef, undef, undef, undef), [], rfl, by omega, ⟨fun h => by omega, fun j hj => by omega, fun j hj => by omega⟩, rfl⟩
        · rename_i n cs
          split at h
          · rename_i hc
            obtain ⟨b, off, cap, es, rfl, hK⟩ := kids_of HOK.out hk hc.2
            exact ⟨_, n, cap, es, cs, rfl, hc.1, hK, h⟩
          · cases h
        · cases h
      obtain ⟨A2, n, cap2, es, cs, rfl, hn, hK, hf⟩ := hkids
      clear h hk okk
      have HK := Lib.hid hK
      have HF := Lib.hid (fold_split _ n l r hf)
      have HR := Lib.hid hf
      clear hK hf
      obtain ⟨W1, hW1⟩ : ∃ W1, W.alloc (.cells #[.int .i64 op, .string nm, ub, .slice A2 n cap2] 39) = W1 := ⟨_, rfl⟩
      have X1 : W1.heap[W.heap.size]? = some (.cells #[.int .i64 op, .string nm, ub, .slice A2 n cap2] 39 (0, 0)) := by rw [← hW1]; exact alloc_new _ _
      have hs1 : W1.heap.size = W.heap.size + 1 := by rw [← hW1]; exact alloc_size _ _
      have N1 := Lib.hid (show Nxt W W1 (.slice A l.length c) (.slice A l.length c) by rw [← hW1]; exact Nxt.alloc _ _ _)
      have S1 := Lib.hid (show Ss n0 W1 (.slice A l.length c) l by rw [← hW1]; exact ss_alloc HS.out _)
      have NE := Lib.hid (ss_ne HS.out (Nat.le_refl _))
      have AB := Lib.hid (ss_above HS.out)
      have XX := Lib.hid X1
      obtain ⟨c0, c1, c2, c3⟩ := cells4 X1
      clear X1
      go_enter Tryz.func24, Tryz.ntmps24
      go_upto_region 1 with (fail)
      try rw [hW1]
      clear hW1
      go_wp2_with fail
      clear c0 c1 c2 c3
      go_loopw [0, 8] (fun o i wr => ∃ (k : Nat) (m : List ByteArray), k ≤ n ∧ i = .int .i64 k ∧ (List.range k).foldlM (fun l j => coll d l (.agg ((cs.drop (j * 4)).take 4))) l = some m ∧ (Ss n0 wr o m ∧ RowKit.Hid (m = [] → o = .slice none 0 0)) ∧ Nxt W1 wr (.slice A l.length c) o) (fun _ i _ => n - (intOf i).toNat)
      case atStart => exact ⟨0, l, Nat.zero_le _, rfl, rfl, ⟨S1.out, HNIL⟩, Nxt.refl _ _⟩
      case round =>
        obtain ⟨k, m, hkn, rfl, hfk, ⟨hSr, HZ⟩, hNr⟩ := hrel
        have hBr : Below n0 W wr := (N1.out.trans hNr).below hn0 AB.out
        have hsz : n0 ≤ wr.heap.size := Nat.le_trans hn0 hBr.size
        obtain ⟨c0, c1, c2, c3⟩ := cells4 (hNr.at XX.out NE.out)
        have KR := Lib.hid (HK.out.below HOK.out hBr)
        have SR := Lib.hid hSr
        have NR := Lib.hid hNr
        obtain ⟨Ar, cr, rfl⟩ := ss_shape hSr
        have FK := Lib.hid hfk
        clear hSr hNr hfk hBr
        by_cases hlt : k < n
        · obtain ⟨b, off, rfl, hlb, hcs⟩ := KR.out.el (by omega)
          obtain ⟨d0, d1, d2, d3⟩ := hcs k hlt
          have HRE := Lib.hid (KR.out.real k hlt)
          obtain ⟨m1, m', f1, f2, f3⟩ := HF.out k hlt
          have : m1 = m := by have := FK.out; rw [f1] at this; injection this
          subst this
          have F2 := Lib.hid f2
          have F3 := Lib.hid f3
          clear f1 f2 f3 hcs
          generalize es k = e4 at *
          obtain ⟨e0, e1, e2, e3⟩ := e4
          dsimp only at *
          go_wp2_with fail
          refine (IH.out m1 _ m' F2.out wr ok n0 _ _ HOK.out hsz HRE.out SR.out HZ.out).mono ?_
          rintro e w3 ⟨v', rfl, ⟨s3, z3⟩, n3⟩
          have Z3 := Lib.hid z3
          clear z3
          have S3 := Lib.hid s3
          have N3 := Lib.hid n3
          clear s3 n3 c0 c1 c2 c3 d0 d1 d2 d3
          go_wp2_with fail
          go_roundw
          case rel => exact ⟨k + 1, m', hlt, by go_num, F3.out, ⟨S3.out, Z3⟩, NR.out.trans N3.out⟩
          case measure => simp [intOf]; omega
        · have he : k = n := by omega
          subst he
          have : m = r := by have := FK.out; rw [HR.out] at this; injection this with this; exact this.symm
          subst this
          go_wp2_with fail
          go_ret
          exact ⟨_, rfl, ⟨SR.out, HZ.out⟩, N1.out.trans NR.out⟩
end Go.Proofs.YtmehknlijcbphaaGreatDoor
