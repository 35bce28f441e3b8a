/- The statement CollectIndirections, where what it reads is of bulk at most 1048576: for every heap and roots the call answers true and turns nothing; no other condition. -/
import Derived.Test.YtobniolmielikaaZar
import Derived.Test.YtobniolmielikaaZaq
import Derived.Test.YtobniolmielikaaZas
import Derived.Test.YtobniolmielikaaZat
import Derived.Lib.SmallJoins
/- The law level on lists: where an indirection leads, and a heap without them; no program in sight; no condition. -/
namespace Go.Proofs.Ytobniolmielikaa
open Go.RowKit

def nx (f : Int → Ob) (b : Int) : Int := (f b).refs.headD 0
def tgt (f : Int → Ob) (a : Int) : Nat → List Int → Int → Int
  | 0, _, _ => a
  | n + 1, seen, b => if (f b).op = 7 then (if b ∈ seen then a else tgt f a n (seen ++ [b]) (nx f b)) else b
def tgtL (f : Int → Ob) (L : List Int) (a : Int) : Int := tgt f a (L.length + 1) [] a
/-- What may be followed. -/
structure Chn (f : Int → Ob) (L : List Int) : Prop where
  nd : L.Nodup
  one : ∀ b ∈ L, (f b).op = 7 → (f b).refs.length = 1
  step : ∀ b ∈ L, (f b).op = 7 → nx f b ∈ L
/-- Where a search of a target stands. -/
structure TgtAt (f : Int → Ob) (L : List Int) (a : Int) (seen : List Int) (b : Int) : Prop where
  nd : seen.Nodup
  sub : ∀ x ∈ seen, x ∈ L
  mem : b ∈ L
  val : tgt f a (L.length + 1 - seen.length) seen b = tgtL f L a
  ind : ∀ x ∈ seen, (f x).op = 7
  path : ∀ x ∈ seen, nx f x ∈ seen ∨ nx f x = b
  orig : a ∈ seen ∨ b = a
theorem TgtAt.start {f : Int → Ob} {L : List Int} {a : Int} (h : a ∈ L) : TgtAt f L a [] a := ⟨by simp, by simp, h, rfl, by simp, by simp, .inr rfl⟩
theorem TgtAt.len {f : Int → Ob} {L : List Int} {a b : Int} {seen : List Int} (t : TgtAt f L a seen b) : seen.length ≤ L.length := nodup_le t.nd t.sub
theorem TgtAt.fuel {f : Int → Ob} {L : List Int} {a b : Int} {seen : List Int} (t : TgtAt f L a seen b) : L.length + 1 - seen.length = (L.length - seen.length) + 1 := by
  have := t.len
  omega
theorem TgtAt.done {f : Int → Ob} {L : List Int} {a b : Int} {seen : List Int} (t : TgtAt f L a seen b) (h : (f b).op ≠ 7) : tgtL f L a = b := by
  rw [← t.val, t.fuel, tgt, if_neg h]
theorem TgtAt.ring {f : Int → Ob} {L : List Int} {a b : Int} {seen : List Int} (t : TgtAt f L a seen b) (h : (f b).op = 7) (hb : b ∈ seen) : tgtL f L a = a := by
  rw [← t.val, t.fuel, tgt, if_pos h, if_pos hb]
theorem TgtAt.go {f : Int → Ob} {L : List Int} {a b : Int} {seen : List Int} (c : Chn f L) (t : TgtAt f L a seen b) (h : (f b).op = 7) (hb : b ∉ seen) : TgtAt f L a (seen ++ [b]) (nx f b) := by
  have hs : ∀ x ∈ seen ++ [b], x ∈ L := fun x hx => by
    rcases List.mem_append.1 hx with hx | hx
    · exact t.sub x hx
    · simp at hx; subst hx; exact t.mem
  have hn : (seen ++ [b]).Nodup := by
    rw [List.nodup_append]
    refine ⟨t.nd, by simp, ?_⟩
    intro x hx y hy e
    simp at hy
    subst hy
    exact hb (e ▸ hx)
  have hl := nodup_le hn hs
  rw [List.length_append] at hl
  simp only [List.length_cons, List.length_nil] at hl
  refine ⟨hn, hs, c.step b t.mem h, ?_, ?_, ?_, ?_⟩
  · have := t.val
    rw [t.fuel, tgt, if_pos h, if_neg hb] at this
    rw [← this, List.length_append]
    congr 1
    simp only [List.length_cons, List.length_nil]
    omega
  · intro x hx
    rcases List.mem_append.1 hx with hx | hx
    · exact t.ind x hx
    · simp at hx; subst hx; exact h
  · intro x hx
    rcases List.mem_append.1 hx with hx | hx
    · rcases t.path x hx with h1 | h1
      · exact .inl (List.mem_append_left _ h1)
      · rw [h1]; exact .inl (by simp)
    · simp at hx; subst hx; exact .inr rfl
  · rcases t.orig with h1 | h1
    · exact .inl (List.mem_append_left _ h1)
    · subst h1; exact .inl (by simp)
/-- A ring of indirections. -/
def steps (f : Int → Ob) : Nat → Int → Int
  | 0, b => b
  | n + 1, b => steps f n (nx f b)
def Ring (f : Int → Ob) (a : Int) : Prop := ∀ n, (f (steps f n a)).op = 7
theorem TgtAt.last {f : Int → Ob} {L : List Int} {a : Int} (c : Chn f L) : ∀ (n : Nat) {seen : List Int} {b : Int}, TgtAt f L a seen b → L.length - seen.length ≤ n → tgtL f L a ∈ L ∧ ((f (tgtL f L a)).op ≠ 7 ∨ (tgtL f L a = a ∧ Ring f a))
  | n, seen, b, t, hn => by
    by_cases h : (f b).op = 7
    · by_cases hb : b ∈ seen
      · have hcl : ∀ x ∈ seen, nx f x ∈ seen := fun x hx => by
          rcases t.path x hx with h1 | h1
          · exact h1
          · rw [h1]; exact hb
        have ha : a ∈ seen := by
          rcases t.orig with h1 | h1
          · exact h1
          · rw [← h1]; exact hb
        have hr : ∀ (m : Nat) (x : Int), x ∈ seen → (f (steps f m x)).op = 7 := by
          intro m
          induction m with
          | zero => exact fun x hx => t.ind x hx
          | succ m ih => exact fun x hx => ih _ (hcl x hx)
        rw [t.ring h hb]
        exact ⟨t.sub a ha, .inr ⟨rfl, fun m => hr m a ha⟩⟩
      · have t' := t.go c h hb
        have hl := t'.len
        rw [List.length_append] at hl
        simp only [List.length_cons, List.length_nil] at hl
        match n, hn with
        | 0, hn => omega
        | n + 1, hn =>
          exact TgtAt.last c n t' (by rw [List.length_append]; simp only [List.length_cons, List.length_nil]; omega)
    · rw [t.done h]
      exact ⟨t.mem, .inl h⟩
theorem tgtL_last {f : Int → Ob} {L : List Int} (c : Chn f L) {a : Int} (ha : a ∈ L) : tgtL f L a ∈ L ∧ ((f (tgtL f L a)).op ≠ 7 ∨ (tgtL f L a = a ∧ Ring f a)) := TgtAt.last c _ (TgtAt.start ha) (Nat.le_refl _)
theorem tgtL_id {f : Int → Ob} {L : List Int} {a : Int} (h : (f a).op ≠ 7) : tgtL f L a = a := by
  unfold tgtL
  rw [tgt, if_neg h]
theorem tgt_congr {f g : Int → Ob} (h : ∀ b, (f b).op = (g b).op ∧ ((g b).op = 7 → (f b).refs = (g b).refs)) (a : Int) : ∀ (n : Nat) (seen : List Int) (b : Int), tgt f a n seen b = tgt g a n seen b
  | 0, _, _ => rfl
  | n + 1, seen, b => by
    rw [tgt, tgt, (h b).1]
    by_cases h7 : (g b).op = 7
    · rw [if_pos h7, if_pos h7]
      have : nx f b = nx g b := by unfold nx; rw [(h b).2 h7]
      rw [this, tgt_congr h a n]
    · rw [if_neg h7, if_neg h7]
theorem tgtL_congr {f g : Int → Ob} (h : ∀ b, (f b).op = (g b).op ∧ ((g b).op = 7 → (f b).refs = (g b).refs)) (L : List Int) (a : Int) : tgtL f L a = tgtL g L a := tgt_congr h a _ _ _

/-! ### the heap without them -/
def cpr (T : Int → Int) (S : List Int) (p : Int × Ob) : Int × Ob := if p.1 ∈ S ∧ p.2.op ≠ 7 then (p.1, { p.2 with refs := p.2.refs.map T }) else p
theorem cpr_key (T : Int → Int) (S : List Int) (p : Int × Ob) : (cpr T S p).1 = p.1 := by unfold cpr; split <;> rfl
theorem cpr_op (T : Int → Int) (S : List Int) (p : Int × Ob) : (cpr T S p).2.op = p.2.op := by unfold cpr; split <;> rfl
theorem cpr_len (T : Int → Int) (S : List Int) (p : Int × Ob) : (cpr T S p).2.refs.length = p.2.refs.length := by unfold cpr; split <;> simp
theorem cpr_ind (T : Int → Int) (S : List Int) {p : Int × Ob} (h : p.2.op = 7) : cpr T S p = p := by unfold cpr; rw [if_neg (by simp [h])]
def HM.upd (H : HM) (T : Int → Int) (S : List Int) : HM := { H with ly := H.ly.map (cpr T S), la := H.la.map (cpr T S) }
theorem upd_all (H : HM) (T : Int → Int) (S : List Int) : (H.upd T S).all = H.all.map (cpr T S) := by
  unfold HM.all HM.upd
  rw [List.map_append]
theorem cpr_keys (T : Int → Int) (S : List Int) (l : List (Int × Ob)) : (l.map (cpr T S)).map (·.1) = l.map (·.1) := by
  rw [List.map_map]
  apply List.map_congr_left
  intro p _
  exact cpr_key T S p
theorem get_cpr (T : Int → Int) (S : List Int) : ∀ (l : List (Int × Ob)) (x : Int), get (l.map (cpr T S)) x = (get l x).map fun o => (cpr T S (x, o)).2
  | [], x => rfl
  | p :: l, x => by
    rw [List.map_cons, get_cons, get_cons, cpr_key]
    by_cases h : x = p.1
    · rw [if_pos h, if_pos h]
      subst h
      rfl
    · rw [if_neg h, if_neg h, get_cpr T S l x]
theorem upd_has (H : HM) (T : Int → Int) (S : List Int) (x : Int) : (H.upd T S).has x = H.has x := by
  unfold HM.has
  rw [upd_all, get_cpr]
  cases get H.all x <;> rfl
theorem upd_ob (H : HM) (T : Int → Int) (S : List Int) {x : Int} (h : H.has x = true) : (H.upd T S).ob x = (cpr T S (x, H.ob x)).2 := by
  have hg := HM.get_some h
  unfold HM.ob
  rw [upd_all, get_cpr]
  cases hx : get H.all x with
  | none => unfold HM.has at h; rw [hx] at h; cases h
  | some o => rfl
theorem upd_ob_out (H : HM) (T : Int → Int) (S : List Int) {x : Int} (h : H.has x = false) : (H.upd T S).ob x = H.ob x := by
  have hg := HM.get_none' h
  unfold HM.ob
  rw [upd_all, get_cpr, hg]
  rfl
theorem upd_same (H : HM) (T : Int → Int) (S : List Int) (x : Int) : ((H.upd T S).ob x).op = (H.ob x).op ∧ ((H.ob x).op = 7 → ((H.upd T S).ob x).refs = (H.ob x).refs) := by
  cases hx : H.has x with
  | true =>
    rw [upd_ob H T S hx]
    exact ⟨cpr_op T S _, fun h => by rw [cpr_ind T S h]⟩
  | false =>
    rw [upd_ob_out H T S hx]
    exact ⟨rfl, fun _ => rfl⟩
theorem upd_nil (H : HM) (T : Int → Int) : H.upd T [] = H := by
  have : ∀ l : List (Int × Ob), l.map (cpr T []) = l := fun l => by
    conv => rhs; rw [← List.map_id l]
    apply List.map_congr_left
    intro p _
    unfold cpr
    simp
  unfold HM.upd
  rw [this, this]
theorem cpr_snoc {T : Int → Int} {S : List Int} {x : Int} {p : Int × Ob} (h : p.1 ≠ x ∨ p.2.op = 7) : cpr T (S ++ [x]) p = cpr T S p := by
  unfold cpr
  rcases h with h | h
  · have : p.1 ∈ S ++ [x] ↔ p.1 ∈ S := by simp [h]
    simp only [this]
  · rw [if_neg (by simp [h]), if_neg (by simp [h])]
theorem Sim.upd {H G : HM} (s : Sim H G) (T : Int → Int) (S : List Int) : Sim (H.upd T S) (G.upd T S) :=
  ⟨s.nur, s.eld, s.ly.map _, s.la.map _, by rw [upd_all, cpr_keys]; exact s.nd⟩
theorem upd_skip {H : HM} (hn : (H.all.map (·.1)).Nodup) {T : Int → Int} {S : List Int} {x : Int} (h : H.has x = true) (h7 : (H.ob x).op = 7) : H.upd T (S ++ [x]) = H.upd T S := by
  have hp : ∀ p ∈ H.all, cpr T (S ++ [x]) p = cpr T S p := by
    intro p hp
    refine cpr_snoc ?_
    by_cases e : p.1 = x
    · right
      have h1 : get H.all p.1 = some p.2 := (get_mem hn).2 hp
      rw [e, HM.get_some h] at h1
      rw [← Option.some.inj h1]
      exact h7
    · exact .inl e
  unfold HM.upd
  congr 1
  · exact List.map_congr_left fun p hq => hp p (List.mem_append_left _ hq)
  · exact List.map_congr_left fun p hq => hp p (List.mem_append_right _ hq)
theorem upd_set {H : HM} (hn : (H.all.map (·.1)).Nodup) {T : Int → Int} {S : List Int} {x : Int} (h : H.has x = true) (h7 : (H.ob x).op ≠ 7) (hv : vld { H.ob x with refs := (H.ob x).refs.map T } = true) :
    (H.upd T S).set x { H.ob x with refs := (H.ob x).refs.map T } = (0, H.upd T (S ++ [x])) := by
  have hg := HM.get_some h
  have hob : ∀ p ∈ H.all, p.1 = x → cpr T (S ++ [x]) p = (x, { H.ob x with refs := (H.ob x).refs.map T }) := by
    intro p hp e
    have h1 : get H.all p.1 = some p.2 := (get_mem hn).2 hp
    rw [e, hg] at h1
    have h2 := Option.some.inj h1
    unfold cpr
    rw [← h2, if_pos ⟨by simp [e], h7⟩, e]
  have hne : ∀ p : Int × Ob, p.1 ≠ x → cpr T (S ++ [x]) p = cpr T S p := fun p e => cpr_snoc (.inl e)
  have hput : ∀ l : List (Int × Ob), (∀ p ∈ l, p ∈ H.all) → (l.map (·.1)).Nodup → x ∈ l.map (·.1) → put (l.map (cpr T S)) x { H.ob x with refs := (H.ob x).refs.map T } = l.map (cpr T (S ++ [x])) := by
    intro l hl hnd hx
    rw [put_map (by rw [cpr_keys]; exact hnd) (by rw [cpr_keys]; exact hx), List.map_map]
    apply List.map_congr_left
    intro p hp
    show (if (cpr T S p).1 = x then _ else cpr T S p) = _
    rw [cpr_key]
    by_cases e : p.1 = x
    · rw [if_pos e, hob p (hl p hp) e]
    · rw [if_neg e, hne p e]
  have hout : ∀ l : List (Int × Ob), x ∉ l.map (·.1) → l.map (cpr T S) = l.map (cpr T (S ++ [x])) := by
    intro l hx
    apply List.map_congr_left
    intro p hp
    exact (hne p (fun e => hx (e ▸ List.mem_map_of_mem (f := (·.1)) hp))).symm
  have hsplit := hn
  unfold HM.all at hsplit
  rw [List.map_append, List.nodup_append] at hsplit
  obtain ⟨n1, n2, n3⟩ := hsplit
  have hgy : Go.Proofs.Ytobniolmielikaa.get (H.upd T S).ly x = (Go.Proofs.Ytobniolmielikaa.get H.ly x).map fun o => (cpr T S (x, o)).2 := get_cpr T S H.ly x
  have hga : Go.Proofs.Ytobniolmielikaa.get (H.upd T S).la x = (Go.Proofs.Ytobniolmielikaa.get H.la x).map fun o => (cpr T S (x, o)).2 := get_cpr T S H.la x
  unfold HM.set
  rw [if_pos hv, hgy, hga]
  cases hy : Go.Proofs.Ytobniolmielikaa.get H.ly x with
  | some o =>
    have hx : x ∈ H.ly.map (·.1) := List.mem_map_of_mem (f := (·.1)) (get_in_list hy)
    simp only [Option.map_some]
    congr 1
    unfold HM.upd
    rw [hput H.ly (fun p hp => List.mem_append_left _ hp) n1 hx]
    have : x ∉ H.la.map (·.1) := fun h2 => n3 x hx x h2 rfl
    rw [hout H.la this]
  | none =>
    have hx : x ∉ H.ly.map (·.1) := get_none.1 hy
    unfold HM.all at hg
    rw [get_append, hy] at hg
    simp only at hg
    simp only [hg, Option.map_none, Option.map_some]
    congr 1
    unfold HM.upd
    rw [hput H.la (fun p hp => List.mem_append_right _ hp) n2 (List.mem_map_of_mem (f := (·.1)) (get_in_list hg)), hout H.ly hx]
theorem vld_map {o : Ob} {T : Int → Int} (hv : vld o = true) (hT : ∀ r ∈ o.refs, 0 ≤ T r) : vld { o with refs := o.refs.map T } = true := by
  unfold vld at hv ⊢
  simp only [Bool.and_eq_true, List.all_eq_true, decide_eq_true_eq] at hv ⊢
  obtain ⟨⟨h1, h2⟩, h3⟩ := hv
  refine ⟨⟨h1, ?_⟩, ?_⟩
  · intro r hr
    obtain ⟨z, hz, rfl⟩ := List.mem_map.1 hr
    exact hT z hz
  · simpa using h3
theorem Wel.pos {H : HM} (h : Wel H) {a : Int} (ha : H.has a = true) : 0 ≤ a := (h.key (get_in_list (HM.get_some ha))).1
theorem live_chn {H : HM} (hW : Wel H) {roots L : List Int} (hl : H.live roots = some L) : Chn H.ob L := by
  obtain ⟨h1, h2, h3, h4⟩ := live_has hl
  have one : ∀ b ∈ L, (H.ob b).op = 7 → (H.ob b).refs.length = 1 := by
    intro b hb h7
    have hv := hW.vld (h2 b hb)
    unfold Go.Proofs.Ytobniolmielikaa.vld at hv
    simp only [Bool.and_eq_true] at hv
    have h5 := hv.2
    unfold vTail at h5
    rw [h7] at h5
    simp at h5
    exact Int.ofNat.inj h5.2
  refine ⟨h1, one, fun b hb h7 => ?_⟩
  have h5 := one b hb h7
  unfold nx
  cases hr : (H.ob b).refs with
  | nil => rw [hr] at h5; simp at h5
  | cons r t => exact h4 b hb r (by rw [hr]; simp)
theorem upd_wel {H : HM} (hW : Wel H) {T : Int → Int} {S : List Int} (hv : ∀ x ∈ S, H.has x = true → vld { H.ob x with refs := (H.ob x).refs.map T } = true) : Wel (H.upd T S) := by
  have hfit : ∀ p ∈ H.all, fit1 (cpr T S p) = true := by
    intro p hp
    have h1 := hW.fall p hp
    unfold cpr
    split
    · rename_i hc
      have h2 : get H.all p.1 = some p.2 := (get_mem hW.nd).2 hp
      have h3 : H.has p.1 = true := by unfold HM.has; rw [h2]; rfl
      have h4 := hv p.1 hc.1 h3
      have h5 : H.ob p.1 = p.2 := by unfold HM.ob; rw [h2]; rfl
      rw [h5] at h4
      unfold fit1 at h1 ⊢
      rw [h4]
      simp only [Bool.and_eq_true] at h1 ⊢
      exact ⟨h1.1, trivial⟩
    · exact h1
  refine ⟨hW.n1, hW.n2, hW.e1, hW.e2, by show ((H.ly.map (cpr T S)).length : Int) ≤ _; rw [List.length_map]; exact hW.ly, by show ((H.la.map (cpr T S)).length : Int) ≤ _; rw [List.length_map]; exact hW.la, by rw [upd_all, cpr_keys]; exact hW.nd, ?_, ?_⟩
  · refine List.all_eq_true.2 fun q hq => ?_
    obtain ⟨p, hp, rfl⟩ := List.mem_map.1 hq
    exact hfit p (List.mem_append_left _ hp)
  · refine List.all_eq_true.2 fun q hq => ?_
    obtain ⟨p, hp, rfl⟩ := List.mem_map.1 hq
    exact hfit p (List.mem_append_right _ hp)
theorem upd_bnd {H : HM} (hB : Bnd H) (T : Int → Int) (S : List Int) : Bnd (H.upd T S) := by
  refine ⟨by rw [upd_all, List.length_map]; exact hB.len, fun q hq => ?_⟩
  rw [upd_all] at hq
  obtain ⟨p, hp, rfl⟩ := List.mem_map.1 hq
  rw [cpr_len]
  exact hB.refs p hp
end Go.Proofs.Ytobniolmielikaa

/- The collector's target; no condition. -/
namespace Go.Proofs.Ytobniolmielikaa
open Go.RowKit

theorem ints_head {ok : Nat → Prop} {w : World} {A : Option Addr} {n c : Nat} {xs : List Int} (h : Ints ok w (.slice A n c) xs) (h1 : xs.length = 1) : ∃ ad, A = some ad ∧ ok ad.block ∧ ad.block < w.heap.size ∧ w.cell? (ad.add 0) = some (.int .i64 (xs.headD 0)) := by
  obtain ⟨A', cap, e, -, -, -, h4, -⟩ := h
  cases e
  obtain ⟨ad, rfl, ho, hlt, hc⟩ := h4 (by omega)
  refine ⟨ad, rfl, ho, hlt, hc 0 _ ?_⟩
  cases xs with
  | nil => simp at h1
  | cons x t => rfl

theorem fld0 (W : World) (x n ar : Int) (rv wv : Value) : (Instr.field 25 (.agg #[.int .i64 x, .int .i64 n, .int .i64 ar, rv, wv]) 0).run Try.prog W = .ok (.int .i64 x) W := by kernel_rfl
theorem fld3 (W : World) (x n ar : Int) (A : Option Addr) (c d : Nat) (wv : Value) : (Instr.field 25 (.agg #[.int .i64 x, .int .i64 n, .int .i64 ar, .slice A c d, wv]) 3).run Try.prog W = .ok (.slice A c d) W := by kernel_rfl

set_option maxRecDepth 100000 in
set_option maxHeartbeats 2000000 in
theorem target_any (ok : Nat → Prop) (w : World) (b : Nat) (f : Int → Ob) (L : List Int) (x : Int) (hm : ObjMapO ok w b (L.map fun a => (a, f a))) (hc : Chn f L) (hx : x ∈ L) (hok : ∀ k, ok k → k < w.heap.size) :
    Calls Try.prog 90 #[.map (some b), .int .i64 x] w fun e w' => e = .returned (.int .i64 (tgtL f L x)) ∧ Below w.heap.size w w' := by
  have hbl := ObjMapO.lt hm
  have HM := Lib.hid hm
  have HC := Lib.hid hc
  have HX := Lib.hid hx
  have hmm := @run_makeMap Try.prog
  have hf0 := fld0
  have hf3 := fld3
  clear hm hc hx
  go_enter Try.func90, Try.ntmps90
  go_wp2_with fail
  go_loopg [6] L.length (fun g v wr => ∃ (y : Int) (seen : List Int), g = L.length - seen.length ∧ v = .int .i64 y ∧ TgtAt f L x seen y ∧ MapAt wr w.heap.size (seenL seen) ∧ Below w.heap.size w wr ∧ w.heap.size < wr.heap.size)
  case atStart => exact ⟨x, [], rfl, rfl, TgtAt.start HX.out, ⟨#[], 0, new0 _ _, ⟨rfl, by simp, by simp, by simp [seenL]⟩⟩, (Below.refl _ _).alloc (Nat.le_refl _) _, by simp⟩
  case round =>
    obtain ⟨y, seen, rfl, rfl, ht, hmap, hb, hsz⟩ := hrel
    have HT := Lib.hid ht
    have HB := Lib.hid hb
    have HO := Lib.hid (HM.out.fresh hb)
    obtain ⟨oa, oc, ob, od, hlk, hov⟩ := run_lookup_obj HO.out (get_objs f ht.mem)
    have hlk0 := hlk wr rfl
    have HLK := Lib.hid hlk
    have HOV := Lib.hid hov
    clear hlk hov
    by_cases h7 : (f y).op = 7
    · have h7' : ((f y).op == 7) = true := by simp [h7]
      have H7 := Lib.hid h7
      have lk := run_lookup_map (P := Try.prog) (t := 139) (k := 3) (e := 4) Try.underlying139 Try.underlying3 (zero4 _) hmap y false
      rw [get_seen] at lk
      simp only [Bool.false_eq_true, if_false] at lk
      by_cases hy : y ∈ seen
      · simp only [if_pos hy, Option.getD_some] at lk
        have HR := Lib.hid (ht.ring h7 hy)
        rw [h7] at hlk0
        clear ht hmap hb h7 hy h7'
        go_wp2_with fail
        go_ret
        exact ⟨by rw [HR.out]; rfl, HB.out⟩
      · simp only [if_neg hy, Option.getD_none] at lk
        have HN := Lib.hid (ht.go HC.out h7 hy)
        have H1 := Lib.hid (HC.out.one y ht.mem h7)
        obtain ⟨W6, hrun6, hm6, ht6, hs6⟩ := run_update_map (P := Try.prog) (t := 139) (k := 3) (e := 4) Try.underlying139 Try.underlying3 hmap y (.bool true)
        rw [put_seen hy] at hm6
        have hbl' := ObjMapO.lt HO.out
        have hlk6 := HLK.out W6 (ht6.block b hbl' (by omega))
        obtain ⟨_, _, hev, hrf, -⟩ := HOV.out
        cases hev
        obtain ⟨ad, eA, hao, hal, hc⟩ := ints_head hrf H1.out
        subst eA
        have hal2 := hok _ hao
        have hc6 : W6.cell? (ad.add 0) = some (.int .i64 (nx f y)) := (World.cell?_of_block (a := ad.add 0) (by rw [addr_block]; exact ht6.block _ hal (by omega))).trans hc
        have hc6' : W6.cell? ad = some (.int .i64 (nx f y)) := by
          have e0 : ad.add 0 = ad := by unfold Addr.add; simp
          rw [← e0]; exact hc6
        have HM6 := Lib.hid hm6
        have HB6 := Lib.hid (hb.trans (ht6.below (Nat.le_of_lt hsz) (fun k e => by omega)))
        have hlen := HN.out.len
        rw [List.length_append] at hlen
        simp only [List.length_cons, List.length_nil] at hlen
        have HLEN := Lib.hid hlen
        have H1' := H1.out
        have hs6' : w.heap.size < W6.heap.size := by omega
        rw [h7] at hlk0 hlk6
        rw [H1'] at hlk0 hlk6
        clear ht hmap hb h7 hy h7' hm6 ht6 hrf hc hlen H1' hao hal
        go_wp2_with fail
        go_roundg (L.length - (seen ++ [y]).length)
        case rel => exact ⟨nx f y, seen ++ [y], rfl, rfl, HN.out, HM6.out, HB6.out, hs6'⟩
        case measure => have := HLEN.out; rw [List.length_append]; simp only [List.length_cons, List.length_nil]; omega
    · have h7' : ((f y).op == 7) = false := by simpa using h7
      have HD := Lib.hid (ht.done h7)
      clear ht hmap hb h7
      go_wp2_with fail
      go_ret
      exact ⟨by rw [HD.out]; rfl, HB.out⟩
end Go.Proofs.Ytobniolmielikaa

/- The collector's Compress; no condition. -/
namespace Go.Proofs.Ytobniolmielikaa
open Go.RowKit

/-- The targets that are laid aside. -/
def tos (f : Int → Ob) (L S : List Int) : List (Int × Int) := (S.filter fun a => (f a).op == 7).map fun a => (a, tgtL f L a)
theorem tos_keys (f : Int → Ob) (L S : List Int) : (tos f L S).map (·.1) = S.filter fun a => (f a).op == 7 := by
  unfold tos
  rw [List.map_map]
  conv => rhs; rw [← List.map_id (S.filter fun a => (f a).op == 7)]
  rfl
theorem tos_snoc {f : Int → Ob} {L : List Int} {k : Nat} {x : Int} (hx : L[k]? = some x) : tos f L (L.take (k + 1)) = tos f L (L.take k) ++ if (f x).op = 7 then [(x, tgtL f L x)] else [] := by
  unfold tos
  rw [List.take_add_one, hx, List.filter_append, List.map_append]
  congr 1
  by_cases h : (f x).op = 7
  · simp [h]
  · simp [h]
theorem get_map_self {β : Type} (g : Int → β) : ∀ (l : List Int) (x : Int), get (l.map fun a => (a, g a)) x = if x ∈ l then some (g x) else none
  | [], x => rfl
  | a :: l, x => by
    rw [List.map_cons, get_cons, get_map_self g l x]
    by_cases h : x = a
    · subst h; simp
    · simp [h]
theorem via_tos {f : Int → Ob} {L : List Int} {x : Int} (hx : x ∈ L) : via (tos f L L) x = tgtL f L x := by
  unfold via tos
  rw [get_map_self (tgtL f L)]
  by_cases h : (f x).op = 7
  · rw [if_pos (List.mem_filter.2 ⟨hx, by simp [h]⟩)]
    rfl
  · rw [if_neg (fun e => h (by simpa using (List.mem_filter.1 e).2)), tgtL_id h]
    rfl
/-- How Compress ends. -/
def CmpEnd (w : World) (h y a : Nat) (H : HM) (roots : List Int) (e : Ending) (w' : World) : Prop :=
  Turn (HB h y a) w w' ∧ (H.live roots = none → e = .returned (.tuple #[.slice none 0 0, .int .i64 35]) ∧ HeapAt w' h y a H) ∧
  ∀ L, H.live roots = some L → ∃ v, e = .returned (.tuple #[v, .int .i64 0]) ∧ Ints (w.heap.size ≤ ·) w' v (roots.map (tgtL H.ob L)) ∧ HeapAt w' h y a (H.upd (tgtL H.ob L) L) ∧
    ∃ W : World, Turn (HB h y a) w W ∧ HeapAt W h y a (H.upd (tgtL H.ob L) L) ∧ Below W.heap.size W w' ∧ w'.ownsRow W.heap.size 3 1 v roots.length ((roots.map (tgtL H.ob L)).map (Value.int .i64))
theorem tgt_vld {H : HM} (hW : Wel H) {roots L : List Int} (hl : H.live roots = some L) : ∀ x ∈ L, vld { H.ob x with refs := (H.ob x).refs.map (tgtL H.ob L) } = true := by
  intro x hx
  obtain ⟨h1, h2, h3, h4⟩ := live_has hl
  refine vld_map (hW.vld (h2 x hx)) fun r hr => ?_
  exact hW.pos (h2 _ (tgtL_last (live_chn hW hl) (h4 x hx r hr)).1)

set_option maxRecDepth 100000 in
set_option maxHeartbeats 4000000 in
theorem compress_any (ok : Nat → Prop) (w : World) (h y a : Nat) (H : HM) (rv : Value) (roots : List Int) (hh : HeapAt w h y a H) (hW : Wel H) (hr : Ints ok w rv roots) (hok : ∀ k, ok k → ¬ HB h y a k) (hvol : H.fuel roots ≤ 1000000) :
    Calls Try.prog 50 #[.pointer (some ⟨h, 0, none⟩), rv] w (CmpEnd w h y a H roots) := by
  obtain ⟨A, c, rfl⟩ := hr.shape
  have HLA := Lib.hid (live_any ok w h y a H _ roots hh hr hW.n1 hW.nd hvol)
  have hlen := Lib.hid (show ∀ L, H.live roots = some L → L.length ≤ 1000000 from fun L hl => by
    have := bfs_len _ _ _ _ (live_found hl).2
    simp at this
    omega)
  have HH := Lib.hid hh
  have HR := Lib.hid (hr.mono (ok' := fun k => ¬ HB h y a k) (fun k _ hk => hok k hk))
  have HW := Lib.hid hW
  have hhl := hh.lt
  have hmm := @run_makeMap Try.prog
  have hf0 := fld0
  clear hh hr hok hvol
  go_enter Try.func50, Try.ntmps50
  go_wp2_with fail
  refine HLA.out.mono ?_
  rintro e w1 ⟨hb1, hno, hyes⟩
  have HB1 := Lib.hid hb1
  have hz1 := hb1.size
  cases hl : H.live roots with
  | none =>
    have he := hno hl
    subst he
    have HLV := Lib.hid hl
    clear hno hyes hl hb1
    go_wp2_with fail
    go_ret2
    exact ⟨below_turn HB1.out _, fun _ => ⟨rfl, HH.out.fresh HB1.out⟩, fun L e => by rw [HLV.out] at e; cases e⟩
  | some L =>
    obtain ⟨v, b, he, hown, hwf, hobj, hbb⟩ := hyes L hl
    subst he
    obtain ⟨Ao, co, rfl⟩ := row_shape hown
    have hll := hlen.out L hl
    have HI1 := Lib.hid (ints_row hown (by omega) hwf)
    have HOBJ := Lib.hid hobj
    have HLV := Lib.hid hl
    have HWF := Lib.hid hwf
    have HCH := Lib.hid (live_chn hW hl)
    have hbl := ObjMapO.lt hobj
    clear hno hyes hl hb1 hown hwf hobj
    go_wp2_with fail
    go_loopw [28] (fun i wr => ∃ k : Nat, k ≤ L.length ∧ i = .int .i64 k ∧ IntMap wr w1.heap.size (tos H.ob L (L.take k)) ∧ Below w1.heap.size w1 wr) (fun i _ => L.length - (intOf i).toNat)
    case atStart => exact ⟨0, Nat.zero_le _, rfl, ⟨#[], 0, new0 _ _, ⟨rfl, by simp, by simp, by simp [tos, vals]⟩⟩, (Below.refl _ _).alloc (Nat.le_refl _) _⟩
    case round =>
      obtain ⟨k, hk, rfl, hm, hb⟩ := hrel
      have HMl := Lib.hid hm
      have HBl := Lib.hid hb
      have zb := hb.size
      have hml := MapAt.lt hm
      by_cases hlt : k < L.length
      · obtain ⟨ad, eA, hc⟩ := Ints.cell (HI1.out.fresh hb) hlt
        have hx := List.getElem?_eq_getElem hlt
        generalize L[k] = x at hx hc
        have hxL : x ∈ L := List.mem_of_getElem? hx
        obtain ⟨oa, oc, ob, od, hlk, hov⟩ := run_lookup_obj (HOBJ.out.fresh HBl.out) (get_objs H.ob hxL)
        have hlk0 := hlk wr rfl
        have HX := Lib.hid hx
        have HXL := Lib.hid hxL
        have HLT := Lib.hid (show k + 1 ≤ L.length from hlt)
        subst eA
        clear hlk hov hx hxL hb hm
        by_cases h7 : (H.ob x).op = 7
        · have H7 := Lib.hid h7
          rw [h7] at hlk0
          clear h7
          go_wp2_with fail
          refine (target_any _ wr b H.ob L x (HOBJ.out.fresh HBl.out) HCH.out HXL.out (fun k hk => by have := hk.2; omega)).mono ?_
          rintro e w2 ⟨rfl, hb2⟩
          have hnew : x ∉ (tos H.ob L (L.take k)).map (·.1) := by
            rw [tos_keys]
            exact fun e => take_nodup_new HCH.out.nd HX.out (List.mem_filter.1 e).1
          obtain ⟨w6, hrun, hm6, ht6, hs6⟩ := run_store_ints (IntMap.below HMl.out hb2) x (tgtL H.ob L x)
          have hsn := tos_snoc (f := H.ob) HX.out
          rw [if_pos H7.out] at hsn
          rw [put_new hnew, ← hsn] at hm6
          have HM6 := Lib.hid hm6
          have HB6 := Lib.hid ((below_then HBl.out zb hb2).trans (ht6.below (by have := hb2.size; omega) (fun q e => by omega)))
          clear hnew hb2 hm6 ht6 hs6 hsn hlk0 hc
          go_wp2_with fail
          go_roundw
          case rel => exact ⟨k + 1, HLT.out, by have := HLT.out; go_num, HM6.out, HB6.out⟩
          case measure => have := HLT.out; simp [intOf]; omega
        · have hb7 : ((H.ob x).op == 7) = false := by simpa using h7
          have hsn := tos_snoc (f := H.ob) HX.out
          rw [if_neg h7, List.append_nil] at hsn
          have HM6 := Lib.hid (show IntMap wr w1.heap.size (tos H.ob L (L.take (k + 1))) by rw [hsn]; exact HMl.out)
          clear h7 hsn
          go_wp2_with fail
          go_roundw
          case rel => exact ⟨k + 1, HLT.out, by have := HLT.out; go_num, HM6.out, HBl.out⟩
          case measure => have := HLT.out; simp [intOf]; omega
      · have he : k = L.length := by omega
        subst he
        rw [List.take_length] at hm
        obtain ⟨wa, hwa⟩ : ∃ W : World, W = wr := ⟨_, rfl⟩
        subst hwa
        have HMA := Lib.hid hm
        clear hm hb HMl
        have HAa := Lib.hid (HH.out.fresh (below_then HB1.out hz1 HBl.out))
        have HBa := Lib.hid (below_then HB1.out hz1 HBl.out)
        have HIa := Lib.hid (HI1.out.fresh HBl.out)
        have HOa := Lib.hid (HOBJ.out.fresh HBl.out)
        go_wp2_with fail
        go_loopw [45] (fun i wr => ∃ k : Nat, k ≤ L.length ∧ i = .int .i64 k ∧ HeapAt wr h y a (H.upd (tgtL H.ob L) (L.take k)) ∧ Turn (HB h y a) wa wr) (fun i _ => L.length - (intOf i).toNat)
        case atStart => exact ⟨0, Nat.zero_le _, rfl, by rw [List.take_zero, upd_nil]; exact HAa.out, Turn.refl _ _⟩
        case round =>
          obtain ⟨k, hk, rfl, hH, ht⟩ := hrel
          have HHr := Lib.hid hH
          have HT := Lib.hid ht
          have zt := ht.size
          have hnb : ∀ q, HB h y a q → q < w.heap.size := fun q e => by rcases e with e | e | e <;> omega
          have HNB := Lib.hid hnb
          have HIr := Lib.hid (HIa.out.turn ht (fun q hq e => by have := hnb q e; omega))
          have HMr := Lib.hid (show IntMap wr w1.heap.size (tos H.ob L L) by
            obtain ⟨es, cc, h1, h2⟩ := HMA.out
            exact ⟨es, cc, (ht.block _ hml (fun e => by have := hnb _ e; omega)).trans h1, h2⟩)
          have HOr := Lib.hid (HOa.out.turn ht (fun e => by have := hnb _ e; omega) (fun q hq e => by have := hnb _ e; omega))
          by_cases hlt : k < L.length
          · obtain ⟨ad, eA, hc⟩ := Ints.cell HIr.out hlt
            have hx := List.getElem?_eq_getElem hlt
            generalize L[k] = x at hx hc
            have hxL : x ∈ L := List.mem_of_getElem? hx
            obtain ⟨oa, oc, ob, od, hlk, hov⟩ := run_lookup_obj HOr.out (get_objs H.ob hxL)
            have hlk0 := hlk wr rfl
            have HOV := Lib.hid hov
            have HX := Lib.hid hx
            have HXL := Lib.hid hxL
            have HLT := Lib.hid (show k + 1 ≤ L.length from hlt)
            have htk : L.take (k + 1) = L.take k ++ [x] := by rw [List.take_add_one, hx]; rfl
            have HTK := Lib.hid htk
            have HHAS := Lib.hid ((live_has HLV.out).2.1 x hxL)
            obtain ⟨B, hB⟩ : ∃ B : Obj, Obj.cells #[.int .i64 (H.ob x).op, .int .i64 (H.ob x).n, .int .i64 (H.ob x).ar, .slice oa (H.ob x).refs.length oc, .slice ob (H.ob x).words.length od] 25 = B := ⟨_, rfl⟩
            have cb := cellsH (show (wr.alloc B).heap[wr.heap.size]? = _ by rw [new0, ← hB])
            subst eA
            clear hlk hov hx hxL hH ht htk hnb
            by_cases h7 : (H.ob x).op = 7
            · have hb7 : ((H.ob x).op == 7) = true := by simp [h7]
              have NEXT := Lib.hid (show HeapAt (wr.alloc B) h y a (H.upd (tgtL H.ob L) (L.take (k + 1))) by rw [HTK.out, upd_skip HW.out.nd HHAS.out h7]; exact HHr.out.alloc B)
              clear h7
              go_wp2_with fail
              go_roundw
              case rel => exact ⟨k + 1, HLT.out, by have := HLT.out; go_num, NEXT.out, HT.out.then ((Below.refl _ _).alloc (Nat.le_refl _) B)⟩
              case measure => have := HLT.out; simp [intOf]; omega
            · have hb7 : ((H.ob x).op == 7) = false := by simpa using h7
              have H7 := Lib.hid h7
              clear h7
              go_wp2_with fail
              obtain ⟨_, _, hev, hrf, hwd⟩ := HOV.out
              cases hev
              have hclos := (live_has HLV.out).2.2.2 x HXL.out
              have hmapv : (H.ob x).refs.map (via (tos H.ob L L)) = (H.ob x).refs.map (tgtL H.ob L) := List.map_congr_left fun q hq => via_tos (hclos q hq)
              have htwf : ∀ p ∈ tos H.ob L L, (Lit.int .i64 p.2).wf = true := by
                intro p hp
                obtain ⟨q, hq, rfl⟩ := List.mem_map.1 hp
                exact HWF.out _ (tgtL_last HCH.out (List.mem_filter.1 hq).1).1
              refine (replaced_any _ (wr.alloc B) _ (H.ob x).refs w1.heap.size (tos H.ob L L) (hrf.alloc B) (IntMap.below HMr.out ((Below.refl _ _).alloc (Nat.le_refl _) B)) htwf).mono ?_
              rintro e w4 ⟨u, rfl, hu, huw, hb4⟩
              rw [hmapv] at hu huw
              obtain ⟨Au, cu, rfl⟩ := row_shape hu
              have hz4 := hb4.size
              simp only [World.size_alloc] at hu hb4 hz4
              have hrb := rowB hb4 (new0 wr B) (by simp)
              rw [← hB] at hrb
              have hb04 : Below wr.heap.size wr w4 := below_then ((Below.refl _ _).alloc (Nat.le_refl _) B) (by simp) (by simpa using hb4)
              have T5 : Turn (fun k => k = wr.heap.size) w4 (w4.setCell ⟨wr.heap.size, 3, none⟩ (.slice Au (H.ob x).refs.length cu)) := turnSet _ _ _ _
              have hr5 := rowSet hrb 3 (.slice Au (H.ob x).refs.length cu)
              have hb05 : Below wr.heap.size wr (w4.setCell ⟨wr.heap.size, 3, none⟩ (.slice Au (H.ob x).refs.length cu)) := hb04.setCell (p := ⟨wr.heap.size, 3, none⟩) (Nat.le_refl _) _
              have hob5 : ObAt (fun _ => True) (w4.setCell ⟨wr.heap.size, 3, none⟩ (.slice Au (H.ob x).refs.length cu)) (.agg #[.int .i64 (H.ob x).op, .int .i64 (H.ob x).n, .int .i64 (H.ob x).ar, .slice Au (H.ob x).refs.length cu, .slice ob (H.ob x).words.length od]) { H.ob x with refs := (H.ob x).refs.map (tgtL H.ob L) } := by
                have hl1 : (H.ob x).refs.length = ((H.ob x).refs.map (tgtL H.ob L)).length := by simp
                have hrl := hrf.len
                have hu' : w4.ownsRow (wr.heap.size + 1) 3 1 (.slice Au (H.ob x).refs.length cu) ((H.ob x).refs.map (tgtL H.ob L)).length (((H.ob x).refs.map (tgtL H.ob L)).map (Value.int .i64)) := by rw [← hl1]; exact hu
                have hi := ints_row hu' (by rw [← hl1]; omega) huw
                refine ⟨_, _, rfl, ?_, ?_⟩
                · exact (hi.turn T5 fun k hk e => by omega).mono fun k _ hk => trivial
                · exact (hwd.fresh hb05).mono fun k _ hk => trivial
              have HOB5 := Lib.hid hob5
              have HB05 := Lib.hid hb05
              have c4 := cellsH hrb
              have f4 := freeH hrb
              have c5 := cellsH hr5
              clear hob5 hb05 hr5 T5 hb04 hrb hu hb4 hB cb hc hlk0 hrf hwd hclos hmapv htwf huw
              go_upto_region 17 with (fail)
              generalize w4.setCell ⟨wr.heap.size, 3, none⟩ (.slice Au (H.ob x).refs.length cu) = WW at *
              go_wp2_with fail
              refine (set_any _ WW h y a (H.upd (tgtL H.ob L) (L.take k)) x _ _ (HHr.out.fresh HB05.out) HOB5.out).mono ?_
              rintro e w6 ⟨rfl, hH6, ht6⟩
              rw [upd_set HW.out.nd HHAS.out H7.out (tgt_vld HW.out HLV.out x HXL.out), ← HTK.out] at hH6
              have NEXT := Lib.hid hH6
              have NT := Lib.hid ((HT.out.then HB05.out).trans ht6)
              clear hH6 ht6 c4 f4 c5
              go_wp2_with fail
              go_roundw
              case rel => exact ⟨k + 1, HLT.out, by have := HLT.out; go_num, NEXT.out, NT.out⟩
              case measure => have := HLT.out; simp [intOf]; omega
          · have he : k = L.length := by omega
            subst he
            rw [List.take_length] at hH
            have HHE := Lib.hid hH
            have hzb := HBa.out.size
            have HTr := Lib.hid ((below_turn HBa.out (HB h y a)).trans ht)
            have HRr := Lib.hid (HR.out.turn HTr.out (fun q hq => hq))
            obtain ⟨wb, hwb⟩ : ∃ W : World, W = wr := ⟨_, rfl⟩
            subst hwb
            have htwf : ∀ p ∈ tos H.ob L L, (Lit.int .i64 p.2).wf = true := by
              intro p hp
              obtain ⟨q, hq, rfl⟩ := List.mem_map.1 hp
              exact HWF.out _ (tgtL_last HCH.out (List.mem_filter.1 hq).1).1
            clear hk hH ht hnb
            go_wp2_with fail
            refine (replaced_any _ wb _ roots w1.heap.size (tos H.ob L L) HRr.out HMr.out htwf).mono ?_
            rintro e w4 ⟨u, rfl, hu, huw, hb4⟩
            have hmap : roots.map (via (tos H.ob L L)) = roots.map (tgtL H.ob L) := List.map_congr_left fun q hq => via_tos ((live_has HLV.out).2.2.1 q hq)
            rw [hmap] at hu huw
            obtain ⟨Au, cu, rfl⟩ := row_shape hu
            have hl1 : roots.length = (roots.map (tgtL H.ob L)).length := by simp
            have hrl := HRr.out.len
            have hu' : w4.ownsRow wb.heap.size 3 1 (.slice Au roots.length cu) (roots.map (tgtL H.ob L)).length ((roots.map (tgtL H.ob L)).map (Value.int .i64)) := by rw [← hl1]; exact hu
            have hi := (ints_row hu' (by rw [← hl1]; omega) huw).mono (ok' := (w.heap.size ≤ ·)) (fun k _ hk => by omega)
            have HI := Lib.hid hi
            have HT4 := Lib.hid (HTr.out.then hb4)
            have HH4 := Lib.hid (HHE.out.fresh hb4)
            have HOWN := Lib.hid hu
            have HBW := Lib.hid hb4
            clear hu hu' huw hi hb4 hl1 hmap htwf
            go_wp2_with fail
            go_ret2
            refine ⟨HT4.out, (fun e => by rw [HLV.out] at e; cases e), fun L' e => ?_⟩
            rw [HLV.out] at e
            cases e
            exact ⟨_, rfl, HI.out, HH4.out, wb, HTr.out, HHE.out, HBW.out, HOWN.out⟩
end Go.Proofs.Ytobniolmielikaa

/- The law level on lists: what is reachable behind Compress; no program in sight; no condition. -/
namespace Go.Proofs.Ytobniolmielikaa
open Go.RowKit

theorem bfs_total {E : List (Int × Ob)} {S : Int → Prop} (hd : (E.map (·.1)).Nodup) (hS : ∀ a, S a → ∃ o, get E a = some o ∧ ∀ x ∈ o.refs, S x) : ∀ (n : Nat) (out t : List Int), vol E out + t.length ≤ n → (∀ x ∈ t, S x) → ∃ L, bfs E (fun _ => true) n out t = some L
  | n, out, [], _, _ => ⟨out, bfs_nil _ _ _ _⟩
  | 0, out, a :: t, h, _ => by simp at h
  | n + 1, out, a :: t, h, ht => by
    simp only [List.length_cons] at h
    by_cases hm : a ∈ out
    · rw [bfs_skip (.inl hm)]
      exact bfs_total hd hS n out t (by omega) (fun x hx => ht x (by simp [hx]))
    · obtain ⟨o, ho, hr⟩ := hS a (ht a (by simp))
      rw [bfs_go hm rfl ho]
      have hv := vol_step hd (get_in_list ho) hm
      exact bfs_total hd hS n _ _ (by rw [List.length_append]; omega) (fun x hx => by
        rcases List.mem_append.1 hx with hx | hx
        · exact ht x (by simp [hx])
        · exact hr x hx)
theorem steps_same {f g : Int → Ob} (h : ∀ b, (f b).op = (g b).op ∧ ((g b).op = 7 → (f b).refs = (g b).refs)) : ∀ (n : Nat) (b : Int), (∀ m, (g (steps g m b)).op = 7) → steps f n b = steps g n b
  | 0, _, _ => rfl
  | n + 1, b, hb => by
    have h0 : (g b).op = 7 := hb 0
    have e : nx f b = nx g b := by unfold nx; rw [(h b).2 h0]
    rw [steps, steps, e]
    exact steps_same h n _ fun m => hb (m + 1)
theorem ring_same {f g : Int → Ob} (h : ∀ b, (f b).op = (g b).op ∧ ((g b).op = 7 → (f b).refs = (g b).refs)) {b : Int} (r : Ring g b) : Ring f b := by
  intro n
  rw [steps_same h n b r, (h _).1]
  exact r n
theorem ring_step {f : Int → Ob} {b : Int} (r : Ring f b) : Ring f (nx f b) := fun n => r (n + 1)
/-- Behind Compress: what is reachable, and what the references lead to. -/
structure IndAt (H' : HM) (roots L L' : List Int) (T : Int → Int) : Prop where
  live : H'.live (roots.map T) = some L'
  sub : ∀ a ∈ L', a ∈ L
  has : ∀ a ∈ L, H'.has a = true
  one : ∀ b ∈ L, (H'.ob b).op = 7 → (H'.ob b).refs.length = 1 ∧ nx H'.ob b ∈ L
  good : ∀ x ∈ L, T x ∈ L ∧ ((H'.ob (T x)).op ≠ 7 ∨ Ring H'.ob (T x))
  refs : ∀ a ∈ L, (H'.ob a).op ≠ 7 → ∃ l : List Int, (∀ z ∈ l, z ∈ L) ∧ (H'.ob a).refs = l.map T
  roots : ∀ x ∈ roots, x ∈ L
theorem ind_at {H : HM} (hW : Wel H) {roots L : List Int} (hl : H.live roots = some L) : ∃ L', IndAt (H.upd (tgtL H.ob L) L) roots L L' (tgtL H.ob L) := by
  obtain ⟨h1, h2, h3, h4⟩ := live_has hl
  have hc := live_chn hW hl
  have hs := upd_same H (tgtL H.ob L) L
  have has' : ∀ a ∈ L, (H.upd (tgtL H.ob L) L).has a = true := fun a ha => by rw [upd_has]; exact h2 a ha
  have hob : ∀ a ∈ L, (H.ob a).op ≠ 7 → (H.upd (tgtL H.ob L) L).ob a = { H.ob a with refs := (H.ob a).refs.map (tgtL H.ob L) } := by
    intro a ha h7
    rw [upd_ob H _ _ (h2 a ha)]
    unfold cpr
    rw [if_pos ⟨ha, h7⟩]
  have hrefs : ∀ a ∈ L, ∀ x ∈ ((H.upd (tgtL H.ob L) L).ob a).refs, x ∈ L := by
    intro a ha x hx
    by_cases h7 : (H.ob a).op = 7
    · rw [(hs a).2 h7] at hx
      exact h4 a ha x hx
    · rw [hob a ha h7] at hx
      obtain ⟨z, hz, rfl⟩ := List.mem_map.1 hx
      exact (tgtL_last hc (h4 a ha z hz)).1
  have hS : ∀ a, a ∈ L → ∃ o, get (H.upd (tgtL H.ob L) L).all a = some o ∧ ∀ x ∈ o.refs, x ∈ L := fun a ha => ⟨_, HM.get_some (has' a ha), hrefs a ha⟩
  have hnd : ((H.upd (tgtL H.ob L) L).all.map (·.1)).Nodup := by rw [upd_all, cpr_keys]; exact hW.nd
  have hT : ∀ x ∈ roots.map (tgtL H.ob L), x ∈ L := by
    intro x hx
    obtain ⟨z, hz, rfl⟩ := List.mem_map.1 hx
    exact (tgtL_last hc (h3 z hz)).1
  obtain ⟨L', hb⟩ := bfs_total (S := (· ∈ L)) hnd hS ((H.upd (tgtL H.ob L) L).fuel (roots.map (tgtL H.ob L))) [] (roots.map (tgtL H.ob L)) (by simp [HM.fuel]) hT
  have hall : (roots.map (tgtL H.ob L)).all (H.upd (tgtL H.ob L) L).has = true := List.all_eq_true.2 fun x hx => has' x (hT x hx)
  refine ⟨L', ⟨by unfold HM.live; rw [if_pos hall]; exact hb, ?_, has', ?_, ?_, ?_, h3⟩⟩
  · refine (bfs_found _ _ _ _ hb).least (· ∈ L) (by simp) hT ?_
    intro a ha _ o ho x hx
    have : o = (H.upd (tgtL H.ob L) L).ob a := by
      have h5 := HM.get_some (has' a ha)
      rw [ho] at h5
      exact Option.some.inj h5
    subst this
    exact hrefs a ha x hx
  · intro b hb7 h7
    rw [(hs b).1] at h7
    have e := (hs b).2 h7
    have e2 : nx (H.upd (tgtL H.ob L) L).ob b = nx H.ob b := by unfold nx; rw [e]
    rw [e, e2]
    exact ⟨hc.one b hb7 h7, hc.step b hb7 h7⟩
  · intro x hx
    obtain ⟨k1, k2⟩ := tgtL_last hc hx
    refine ⟨k1, ?_⟩
    rcases k2 with k2 | ⟨k2, k3⟩
    · left
      rw [(hs _).1]
      exact k2
    · right
      rw [k2]
      exact ring_same hs k3
  · intro a ha h7
    rw [(hs a).1] at h7
    exact ⟨(H.ob a).refs, fun z hz => h4 a ha z hz, by rw [hob a ha h7]⟩
end Go.Proofs.Ytobniolmielikaa

/- The walk of the law CollectIndirections; no condition. -/
namespace Go.Proofs.Ytobniolmielikaa
open Go.RowKit

theorem wrapS {k : Nat} (h : k ≤ 1000000) : wrap64 ((k : Int) + 1) = ((k + 1 : Nat) : Int) := by unfold wrap64; omega
theorem wrapM {k n : Nat} (h : k ≤ 1000000) (hk : k + 1 ≤ n) : n - (intOf (Value.int .i64 (wrap64 ((k : Int) + 1)))).toNat < n - (intOf (Value.int .i64 (k : Int))).toNat := by
  rw [wrapS h]
  simp only [intOf]
  omega
theorem wpList_append_at {P : Program} (w : World) {ops : Array Oper} {rest : List Oper} {o : Oper} {a : Act} {Q : Exit → Act → World → Prop} (hgd : o.guard = none) (s x : Operand) (t : TypeId)
    (ho : o.op = .call { callee := .builtin .append, args := #[s, x], argTypes := #[t, t] }) (base : Nat) (e : TypeId) (ht : P.underlying t = some (.slice e))
    (hinfo : (P.info? e).map (fun i => (i.zero, i.size, i.bytes)) = some (some (.int .i64 0), 1, 8))
    (v : Value) (n : Nat) (xs : List Int) (hs : a.eval s = v) (hown : w.ownsRow base e 1 v n (xs.map (Value.int .i64))) (ok : Nat → Prop) (u : Value) (ys : List Int) (hx : a.eval x = u) (hu : Ints ok w u ys)
    (hbytes : (n + ys.length) * 8 ≤ 140737488355328) (hbase : base ≤ w.heap.size)
    (h : ∀ v' w', w'.ownsRow base e 1 v' (n + ys.length) ((xs ++ ys).map (Value.int .i64)) → w.grownBy w' v.ownBlock → (v'.ownBlock = v.ownBlock ∨ v'.ownBlock = some w.heap.size) → wpList P ops Q rest (a.put o.dst v') w') : wpList P ops Q (o :: rest) a w := by
  obtain ⟨i, hi, hz0, hz1, hz2⟩ := info_parts hinfo
  obtain ⟨A, cap, rfl, h1, h2, h3, h4, h5⟩ := hu
  cases A with
  | none =>
    have hc := h3 rfl
    subst hc
    have hy : ys = [] := List.eq_nil_of_length_eq_zero (by omega)
    subst hy
    refine wpList_append_own_none hgd s x t ho base e i 1 ht hi v n _ hs hown hx ?_
    refine h v w (by simpa using hown) (World.grownBy.refl _ _) (.inl rfl)
  | some ad =>
    obtain ⟨v', w', hr, r1, r2, -, r3⟩ := run_append_own_at (P := P) (w := w) base t o.type e i (.int .i64 0) 1 8 ht hi hz0 hz1 hz2 rfl (by decide) v n _ hown ad ys.length cap (ys.map (Value.int .i64)) (by simp) (by
      intro j y hj
      simp only [List.getElem?_map, Option.map_eq_some_iff] at hj
      obtain ⟨z, hz, rfl⟩ := hj
      obtain ⟨ad', e1, _, _, hc⟩ := h4 (by have := (List.getElem?_eq_some_iff.1 hz).1; omega)
      cases e1
      exact hc j z hz) (ints_oneCell _ _) (by unfold maxLen; omega) hbytes hbase
    refine wpList_append_run w hgd s x t ho v _ hs hx v' w' hr ?_
    exact h v' w' (by rw [List.map_append]; exact r1) r2 r3
theorem mem_srt {l : List Int} {x : Int} : x ∈ srt l ↔ x ∈ l := List.mem_mergeSort
theorem srt_len (l : List Int) : (srt l).length = l.length := (List.mergeSort_perm _ _).length_eq
/-- Where the first loop stands. -/
structure IndL (wc : World) (L M : List Int) (T : Int → Int) (v5 : Value) (k : Nat) (N : List Int) (v : Value) (W : World) : Prop where
  own : W.ownsRow wc.heap.size 3 1 v N.length (N.map (Value.int .i64))
  tgt : ∀ x ∈ N, ∃ z ∈ L, x = T z
  wf : ∀ x ∈ N, (Lit.int .i64 x).wf = true
  len : N.length ≤ 20 + 10 * k
  aft : Ints (fun q => v.ownBlock ≠ some q) W v5 M
  bel : Below wc.heap.size wc W
theorem IndL.fresh {wc W W' : World} {L M : List Int} {T : Int → Int} {v5 v : Value} {k : Nat} {N : List Int} (h : IndL wc L M T v5 k N v W) (hb : Below W.heap.size W W') : IndL wc L M T v5 k N v W' :=
  ⟨own_keep h.own (fun g hg => hb.block g (by obtain ⟨_, _, _, hr⟩ := own_row h.own hg; exact heap_lt hr)), h.tgt, h.wf, h.len, h.aft.fresh hb, below_then h.bel h.bel.size hb⟩

set_option maxRecDepth 100000 in
set_option maxHeartbeats 8000000 in
theorem collectIndirections_law (w : World) (n o : Int) (v1 v2 rv : Value) (l1 l2 : List It) (roots : List Int) (hi : HeapIn w v1 v2 l1 l2) (hr : Ints (· < w.heap.size) w rv roots) :
    Calls Try.prog 14 #[.agg #[.int .i64 n, .int .i64 o, v1, v2], rv] w fun e w' => e = .returned (.bool true) ∧ Below w.heap.size w w' := by
  obtain ⟨A1, c1, rfl⟩ := hi.r1.shape
  obtain ⟨A2, c2, rfl⟩ := hi.r2.shape
  obtain ⟨A, c, rfl⟩ := hr.shape
  have HI := Lib.hid hi
  have HR := Lib.hid hr
  clear hi hr
  obtain ⟨X0, hX0⟩ : ∃ X : Obj, Obj.cells #[.int .i64 n, .int .i64 o, .slice A1 l1.length c1, .slice A2 l2.length c2] 62 = X := ⟨_, rfl⟩
  have B0 := Lib.hid ((Below.refl w.heap.size w).alloc (Nat.le_refl _) X0)
  have X62 := Lib.hid (show (w.alloc X0).heap[w.heap.size]? = some (.cells #[.int .i64 n, .int .i64 o, .slice A1 l1.length c1, .slice A2 l2.length c2] 62) by rw [hX0]; exact new0 _ _)
  have zx : (w.alloc X0).heap.size = w.heap.size + 1 := by simp
  go_enter Try.func14, Try.ntmps14
  go_upto_region 1 with (fail)
  clear hX0
  generalize w.alloc X0 = wx at *
  have cx := box62 X62.out
  go_wp2_with fail
  refine (made34_any (· < w.heap.size) wx n o _ _ l1 l2 (HI.out.r1.fresh B0.out) (HI.out.r2.fresh B0.out) (fun x hx => (HI.out.o1 x hx).fresh B0.out) (fun x hx => (HI.out.o2 x hx).fresh B0.out) (fun k hk => by omega) HI.out.room).mono ?_
  intro e w1 hm
  unfold MadeEnd at hm
  obtain ⟨hb1, hc⟩ := hm
  have B1 := Lib.hid (below_then B0.out B0.out.size hb1)
  have Y62 := Lib.hid (rowB hb1 X62.out (heap_lt X62.out))
  have D1 := Lib.hid hb1
  have zz1 := hb1.size
  clear hb1 cx
  have cy := box62 Y62.out
  have HC := Lib.hid hc
  clear hc
  rcases HC.out with ⟨rfl, -⟩ | ⟨h, y, a, r, NV, AV, H, R, rfl, m⟩
  · clear HC
    go_wp2_with fail
    refine (small35_any (· < w.heap.size) (· < w.heap.size) w1 n o _ _ _ l1 l2 roots (HI.out.r1.fresh B1.out) (HI.out.r2.fresh B1.out) (HR.out.fresh B1.out)).mono ?_
    rintro e w2 ⟨hb2, b, rfl, -⟩
    have B2 := Lib.hid (below_then B1.out B1.out.size hb2)
    clear hb2 cy
    cases b <;>
    · go_wp2_with fail
      refine (awake_any _).mono ?_
      rintro e w3 ⟨rfl, hb3⟩
      have B3 := Lib.hid (below_then B2.out B2.out.size hb3)
      clear hb3
      go_wp2_with fail
      go_ret
      exact ⟨rfl, B3.out⟩
  have M := Lib.hid m
  clear HC m
  go_wp2_with fail
  refine (small35_any (· < w.heap.size) (· < w.heap.size) w1 n o _ _ _ l1 l2 roots (HI.out.r1.fresh B1.out) (HI.out.r2.fresh B1.out) (HR.out.fresh B1.out)).mono ?_
  rintro e w2 ⟨hb2, b, rfl, hsm⟩
  have B2 := Lib.hid (below_then B1.out B1.out.size hb2)
  have D2 := Lib.hid hb2
  have SM := Lib.hid hsm
  clear hb2 cy hsm
  cases b with
  | false =>
    go_wp2_with fail
    refine (awake_any _).mono ?_
    rintro e w3 ⟨rfl, hb3⟩
    have B3 := Lib.hid (below_then B2.out B2.out.size hb3)
    clear hb3
    go_wp2_with fail
    go_ret
    exact ⟨rfl, B3.out⟩
  | true =>
  have P2 := Lib.hid ((M.out.pair (SM.out rfl)).fresh D2.out)
  have RL := Lib.hid (SM.out rfl).c
  have zz2 := D2.out.size
  have zb2 := B2.out.size
  have HR2 := Lib.hid (HR.out.fresh B2.out)
  clear SM M HI X62 Y62 HR B0 B1 D1 D2
  go_wp2_with fail
  refine (reach_any _ w2 h y a H _ roots P2.out.two.p HR2.out P2.out.wel.n1 P2.out.wel.nd (by have := P2.out.bnd.fuel RL.out; omega)).mono ?_
  rintro e w3 ⟨hb3, hno3, hy3⟩
  have D3 := Lib.hid hb3
  have B3 := Lib.hid (below_then B2.out B2.out.size hb3)
  have HR3 := Lib.hid (HR2.out.fresh hb3)
  have zz3 := hb3.size
  clear hb3
  cases hl : H.live roots with
  | none =>
    have he := hno3 hl
    subst he
    clear hno3 hy3 hl
    go_wp2_with fail
    refine (awake_any _).mono ?_
    rintro e wq ⟨rfl, hbq⟩
    have BQ := Lib.hid (below_then B3.out B3.out.size hbq)
    clear hbq
    go_wp2_with fail
    go_ret
    exact ⟨rfl, BQ.out⟩
  | some L =>
  obtain ⟨v3, rfl, i3⟩ := hy3 L hl
  obtain ⟨A3, c3, rfl⟩ := i3.shape
  have HLV := Lib.hid hl
  obtain ⟨L', ia⟩ := ind_at P2.out.wel hl
  have IA := Lib.hid ia
  have I3 := Lib.hid i3
  have BN := Lib.hid (upd_bnd P2.out.bnd (tgtL H.ob L) L)
  have WL := Lib.hid (upd_wel P2.out.wel (T := tgtL H.ob L) (S := L) (fun x hx _ => tgt_vld P2.out.wel hl x hx))
  have LB := Lib.hid (show ∀ k, HB h y a k → wx.heap.size ≤ k ∧ k < w2.heap.size from P2.out.lowH)
  clear hno3 hy3 i3 ia hl
  go_wp2_with fail
  refine (compress_any _ w3 h y a H _ roots (P2.out.two.p.fresh D3.out) P2.out.wel HR3.out (fun k hk e => by have := LB.out k e; omega) (by have := P2.out.bnd.fuel RL.out; omega)).mono ?_
  intro e w4 hq
  obtain ⟨-, -, hq⟩ := hq
  obtain ⟨v4, rfl, i4, hh4, wc, tc, hc, bc, o4⟩ := hq L HLV.out
  obtain ⟨A4, c4, rfl⟩ := row_shape o4
  have hrm : (roots.map (tgtL H.ob L)).length = roots.length := by simp
  have RM' := Lib.hid (show (roots.map (tgtL H.ob L)).length ≤ 20 by rw [hrm]; exact RL.out)
  generalize hup : H.upd (tgtL H.ob L) L = H5 at *
  have HC := Lib.hid hc
  have BC := Lib.hid bc
  have O4 := Lib.hid o4
  have I4 := Lib.hid i4
  have I3c := Lib.hid ((I3.out.turn tc (fun k hk e => by have := LB.out k e; have hk2 : w2.heap.size ≤ k := hk; omega)).mono (ok' := fun _ => True) (fun _ _ _ => trivial))
  have B4 := Lib.hid (B3.out.trans ((tc.below (by have := B3.out.size; omega) (fun k e => by have := LB.out k e; omega)).trans (bc.mono (by have := B3.out.size; have := tc.size; omega))))
  have zc := tc.size
  have ZC := Lib.hid (show w.heap.size ≤ wc.heap.size by have := B3.out.size; omega)
  have BWC := Lib.hid (tc.below (B := w.heap.size) (by have := B3.out.size; omega) (fun k e => by have := LB.out k e; omega))
  have z4 := bc.size
  clear i4 hh4 tc hc bc o4 hq hup hrm
  go_wp2_with fail
  refine (reach_any _ w4 h y a H5 _ (roots.map (tgtL H.ob L)) (HC.out.fresh BC.out) I4.out WL.out.n1 WL.out.nd (by have := BN.out.fuel RM'.out; omega)).mono ?_
  rintro e w5 ⟨hb5, -, hy5⟩
  obtain ⟨v5, rfl, i5⟩ := hy5 L' IA.out.live
  obtain ⟨A5, c5, rfl⟩ := i5.shape
  have D5 := Lib.hid (below_then BC.out z4 hb5)
  have B5 := Lib.hid (below_then B4.out B4.out.size hb5)
  have zz5 := hb5.size
  have ST := Lib.hid (show IndL wc L (srt L') (tgtL H.ob L) (.slice A5 (srt L').length c5) 0 (roots.map (tgtL H.ob L)) (.slice A4 roots.length c4) w5 from by
    refine ⟨?_, ?_, I4.out.wf, ?_, ?_, D5.out⟩
    · have := own_keep O4.out (fun g hg => hb5.block g (by obtain ⟨_, _, _, hr⟩ := own_row O4.out hg; exact heap_lt hr))
      rw [List.length_map]
      exact this
    · intro x hx
      obtain ⟨z, hz, rfl⟩ := List.mem_map.1 hx
      exact ⟨z, IA.out.roots z hz, rfl⟩
    · have := RM'.out
      omega
    · refine i5.mono fun q hq1 hq2 e => ?_
      obtain ⟨_, _, _, hr⟩ := own_row O4.out e
      have h1 := heap_lt hr
      have h2 : w4.heap.size ≤ q := hq2
      omega)
  have LL := Lib.hid (show L'.length ≤ 420 from by
    have h1 := bfs_len _ _ _ _ (live_found IA.out.live).2
    have h2 := BN.out.fuel RM'.out
    have h3 : ([] : List Int).length = 0 := rfl
    omega)
  have LM := Lib.hid (show L.length ≤ 420 from by
    have h1 := bfs_len _ _ _ _ (live_found HLV.out).2
    have h2 := P2.out.bnd.fuel RL.out
    have h3 : ([] : List Int).length = 0 := rfl
    omega)
  clear hy5 hb5 i5
  generalize hM : srt L' = M at *
  generalize hBf : srt L = Bf at *
  have MM := Lib.hid (show ∀ x ∈ M, x ∈ L from fun x hx => IA.out.sub x (mem_srt.1 (hM ▸ hx)))
  have MB := Lib.hid (show ∀ x ∈ L, x ∈ Bf from fun x hx => hBf ▸ mem_srt.2 hx)
  have I3f := Lib.hid (I3c.out.fresh D5.out)
  have ML := Lib.hid (show M.length ≤ 420 by rw [← hM, srt_len]; exact LL.out)
  have BL := Lib.hid (show Bf.length ≤ 420 by rw [← hBf, srt_len]; exact LM.out)
  clear hM hBf
  go_wp2_with fail
  go_loopw [9, 13] (fun v i wr => ∃ (k : Nat) (N : List Int), k ≤ M.length ∧ i = .int .i64 k ∧ IndL wc L M (tgtL H.ob L) (.slice A5 M.length c5) k N v wr) (fun _ i _ => M.length - (intOf i).toNat)
  case atStart => exact ⟨0, _, Nat.zero_le _, rfl, ST.out⟩
  case round =>
    obtain ⟨k, N, hk, rfl, hil⟩ := hrel
    obtain ⟨AN, cN, rfl⟩ := row_shape hil.own
    have IL := Lib.hid hil
    have hcr := hil.bel.size
    have HC1 := Lib.hid (HC.out.fresh hil.bel)
    clear hil
    by_cases hlt : k < M.length
    · have KL := Lib.hid (show k + 1 ≤ M.length from hlt)
      obtain ⟨ad5, e5, h5c⟩ := Ints.cell IL.out.aft hlt
      have hx := List.getElem?_eq_getElem hlt
      generalize M[k] = x at hx h5c
      have HXL := Lib.hid (MM.out x (List.mem_of_getElem? hx))
      have hl5 := World.block_lt_of_cell? _ _ h5c
      rw [addr_block] at hl5
      subst e5
      obtain ⟨wa, hwa⟩ : ∃ W : World, W = wr := ⟨_, rfl⟩
      subst hwa
      have I3a := Lib.hid (I3c.out.fresh IL.out.bel)
      have H5C := Lib.hid h5c
      clear hx h5c
      go_wp2_with fail
      go_loopw [14, 15] (fun fv jv wr => ∃ j : Nat, j ≤ Bf.length ∧ jv = .int .i64 j ∧ fv = .bool (decide (x ∈ Bf.take j)) ∧ Below wa.heap.size wa wr) (fun _ jv _ => Bf.length - (intOf jv).toNat)
      case atStart => exact ⟨0, Nat.zero_le _, rfl, by simp, Below.refl _ _⟩
      case round =>
        obtain ⟨j, hj, rfl, rfl, hb⟩ := hrel
        have HBl := Lib.hid hb
        have zb := hb.size
        have hc5r := cellBelow H5C.out hb (by rw [addr_block]; exact hl5)
        by_cases hjl : j < Bf.length
        · have JL := Lib.hid (show j + 1 ≤ Bf.length from hjl)
          obtain ⟨ad3, e3, h3c⟩ := Ints.cell (I3a.out.fresh hb) hjl
          have hy := List.getElem?_eq_getElem hjl
          generalize Bf[j] = q at hy h3c
          have HY := Lib.hid hy
          have htk : Bf.take (j + 1) = Bf.take j ++ [q] := by rw [List.take_add_one, hy]; rfl
          have HTK := Lib.hid htk
          subst e3
          clear hy htk hb
          cases hf : decide (x ∈ Bf.take j) with
          | true =>
            have NF := Lib.hid (show decide (x ∈ Bf.take (j + 1)) = true by
              rw [HTK.out]
              have := of_decide_eq_true hf
              exact decide_eq_true (List.mem_append_left _ this))
            clear hf
            go_upto_region 18 with (fail)
            go_quiet (fail)
            go_wp2_with fail
            go_roundw
            case rel => exact ⟨j + 1, JL.out, (congrArg (Value.int .i64) (wrapS (by have := JL.out; have := BL.out; omega))), by rw [NF.out], below_drewN HBl.out _⟩
            case measure => exact wrapM (by have := JL.out; have := BL.out; omega) JL.out
          | false =>
            have NF := Lib.hid (show decide (x ∈ Bf.take (j + 1)) = (q == x) by
              rw [HTK.out, Bool.eq_iff_iff, decide_eq_true_eq, beq_iff_eq, List.mem_append]
              have h0 := of_decide_eq_false hf
              simp only [List.mem_singleton]
              exact ⟨fun h1 => h1.elim (fun h2 => absurd h2 h0) (fun h2 => h2.symm), fun h1 => .inr h1.symm⟩)
            clear hf
            go_upto_region 18 with (fail)
            go_quiet (fail)
            go_wp2_with fail
            go_roundw
            case rel => exact ⟨j + 1, JL.out, (congrArg (Value.int .i64) (wrapS (by have := JL.out; have := BL.out; omega))), by rw [NF.out], below_drewN HBl.out _⟩
            case measure => exact wrapM (by have := JL.out; have := BL.out; omega) JL.out
        · have he : j = Bf.length := by omega
          subst he
          rw [List.take_length]
          have HF := Lib.hid (show decide (x ∈ Bf) = true from decide_eq_true (MB.out x HXL.out))
          rw [HF.out]
          clear hj hb
          obtain ⟨wb, hwb⟩ : ∃ W : World, W = wr := ⟨_, rfl⟩
          subst hwb
          have HASx := IA.out.has x HXL.out
          go_wp2_with fail
          refine (get_any wb h y a H5 x (HC1.out.fresh HBl.out)).mono ?_
          rintro e w12 ⟨v12, rfl, hob, hb12⟩
          rw [HM.get_ob] at hob
          obtain ⟨oa, oc, ob, od, rfl⟩ := hob.open
          have HOB := Lib.hid hob
          have HB12 := Lib.hid hb12
          have z12 := hb12.size
          have B12 := Lib.hid (below_then HBl.out zb hb12)
          obtain ⟨X, hX⟩ : ∃ X : Obj, Obj.cells #[.int .i64 (H5.ob x).op, .int .i64 (H5.ob x).n, .int .i64 (H5.ob x).ar, .slice oa (H5.ob x).refs.length oc, .slice ob (H5.ob x).words.length od] 25 = X := ⟨_, rfl⟩
          have cb := cellsH (show (w12.alloc X).heap[w12.heap.size]? = _ by rw [new0, ← hX])
          have BX := Lib.hid (B12.out.alloc B12.out.size X)
          have IX := Lib.hid (IL.out.fresh BX.out)
          clear hob hb12 hc5r HASx
          by_cases h7 : (H5.ob x).op = 7
          · have hb7 : ((H5.ob x).op == 7) = true := by simp [h7]
            clear h7
            go_wp2_with fail
            go_roundw
            case rel => exact ⟨k + 1, N, KL.out, (congrArg (Value.int .i64) (wrapS (by have := KL.out; have := ML.out; omega))), ⟨IX.out.own, IX.out.tgt, IX.out.wf, by have := IX.out.len; omega, IX.out.aft, IX.out.bel⟩⟩
            case measure => exact wrapM (by have := KL.out; have := ML.out; omega) KL.out
          · have hb7 : ((H5.ob x).op == 7) = false := by simpa using h7
            have H7 := Lib.hid h7
            obtain ⟨_, _, hev, hrf, -⟩ := HOB.out.at
            cases hev
            have hrl := BN.out.refs (x, H5.ob x) (get_in_list (HM.get_some (IA.out.has x HXL.out)))
            dsimp only at hrl
            have HRL := Lib.hid hrl
            have HRF := Lib.hid (hrf.alloc X)
            clear h7 hrf hrl
            go_wp2_with (at_builtin; refine wpList_append_at _ rfl _ _ 23 rfl wc.heap.size 3 Try.underlying23 info3 _ N.length N rfl IX.out.own _ _ (H5.ob x).refs rfl HRF.out (by have := IX.out.len; have := HRL.out; have := KL.out; have := ML.out; omega) (by have := IX.out.bel.size; simpa using this) ?_; intro st' w20 hown' hg' hat'; have HO := Lib.hid hown'; have HG := Lib.hid hg'; have HAT := Lib.hid hat'; clear hown' hg' hat')
            have HLN := Lib.hid (show N.length + (H5.ob x).refs.length = (N ++ (H5.ob x).refs).length by rw [List.length_append])
            obtain ⟨l0, hl0, hl1⟩ := IA.out.refs x HXL.out H7.out
            have NEXT := Lib.hid (show IndL wc L M (tgtL H.ob L) (.slice (some ad5) M.length c5) (k + 1) (N ++ (H5.ob x).refs) st' w20 from by
              refine ⟨by have := HO.out; rw [HLN.out] at this; exact this, ?_, ?_, by rw [← HLN.out]; have := IX.out.len; have := HRL.out; omega, ?_, IX.out.bel.grown HG.out IX.out.bel.size (fun q hq => (own_row IX.out.own hq).1)⟩
              · intro z hz
                rcases List.mem_append.1 hz with hz | hz
                · exact IX.out.tgt z hz
                · rw [hl1] at hz
                  obtain ⟨q, hq, rfl⟩ := List.mem_map.1 hz
                  exact ⟨q, hl0 q hq, rfl⟩
              · intro z hz
                rcases List.mem_append.1 hz with hz | hz
                · exact IX.out.wf z hz
                · exact HRF.out.wf z hz
              · have h1 := (IX.out.aft.mono (ok' := fun q => (Value.slice AN N.length cN).ownBlock ≠ some q ∧ q < (w12.alloc X).heap.size) (fun q hq1 hq2 => ⟨hq2, hq1⟩)).turn (turn_grown HG.out) (fun q hq e => hq.1 e)
                refine h1.mono fun q _ hq e => ?_
                rcases HAT.out with e1 | e1
                · rw [e1] at e; exact hq.1 e
                · rw [e1] at e
                  have : (w12.alloc X).heap.size = q := by simpa using e
                  omega)
            clear hl1 hl0
            go_roundw
            case rel => exact ⟨k + 1, _, KL.out, (congrArg (Value.int .i64) (wrapS (by have := KL.out; have := ML.out; omega))), NEXT.out⟩
            case measure => exact wrapM (by have := KL.out; have := ML.out; omega) KL.out
    · have he : k = M.length := by omega
      subst he
      obtain ⟨w6, hw6⟩ : ∃ W : World, W = wr := ⟨_, rfl⟩
      subst hw6
      clear hk
      have NB := Lib.hid (show N.length ≤ 4220 by have := IL.out.len; have := ML.out; omega)
      have IN := Lib.hid (ints_of_row IL.out.own (by have := NB.out; omega) IL.out.wf)
      have B6 := Lib.hid (B3.out.trans ((show Below w.heap.size w3 w6 from by
        have := B3.out.size
        exact (BWC.out).trans (IL.out.bel.mono (by have := ZC.out; omega)))))
      go_wp2_with fail
      go_loopw [18] (fun i wr => ∃ k : Nat, k ≤ N.length ∧ i = .int .i64 k ∧ Below w6.heap.size w6 wr) (fun i _ => N.length - (intOf i).toNat)
      case atStart => exact ⟨0, Nat.zero_le _, rfl, Below.refl _ _⟩
      case round =>
        obtain ⟨k, hk, rfl, hb⟩ := hrel
        have HBl := Lib.hid hb
        have zb := hb.size
        by_cases hlt : k < N.length
        · have KL := Lib.hid (show k + 1 ≤ N.length from hlt)
          obtain ⟨adN, eN, hNc⟩ := Ints.cell (IN.out.fresh hb) hlt
          have hx := List.getElem?_eq_getElem hlt
          generalize N[k] = x at hx hNc
          obtain ⟨z, hzL, hzx⟩ := IL.out.tgt x (List.mem_of_getElem? hx)
          obtain ⟨hxL, hxg⟩ := IA.out.good z hzL
          rw [← hzx] at hxL hxg
          have HXL := Lib.hid hxL
          have hadN := World.block_lt_of_cell? _ _ hNc
          rw [addr_block] at hadN
          have HNC := Lib.hid hNc
          have HASX := Lib.hid (IA.out.has x hxL)
          subst eN
          clear hx hzL hzx hxL hb
          go_wp2_with fail
          refine (get_any wr h y a H5 x (HC.out.fresh (below_then IL.out.bel IL.out.bel.size HBl.out))).mono ?_
          rintro e w12 ⟨v12, rfl, hob, hb12⟩
          rw [HM.get_ob] at hob
          obtain ⟨oa, oc, ob, od, rfl⟩ := hob.open
          have HOB := Lib.hid hob
          have z12 := hb12.size
          obtain ⟨X, hX⟩ : ∃ X : Obj, Obj.cells #[.int .i64 (H5.ob x).op, .int .i64 (H5.ob x).n, .int .i64 (H5.ob x).ar, .slice oa (H5.ob x).refs.length oc, .slice ob (H5.ob x).words.length od] 25 = X := ⟨_, rfl⟩
          have hboxX : (w12.alloc X).heap[w12.heap.size]? = some (.cells #[.int .i64 (H5.ob x).op, .int .i64 (H5.ob x).n, .int .i64 (H5.ob x).ar, .slice oa (H5.ob x).refs.length oc, .slice ob (H5.ob x).words.length od] 25) := by rw [new0, ← hX]
          have BOX := Lib.hid hboxX
          have zw12 := Lib.hid z12
          have zw6 := Lib.hid (show w6.heap.size ≤ w12.heap.size by omega)
          have B12 := Lib.hid (below_then HBl.out zb hb12)
          have BX := Lib.hid (B12.out.alloc B12.out.size X)
          have hcX := cellBelow hNc (hb12.alloc hb12.size X) (by rw [addr_block]; exact hadN)
          have HCX := Lib.hid hcX
          have HADN := Lib.hid hadN
          have HRF := Lib.hid (show Ints (fun b => b ≠ w12.heap.size) (w12.alloc X) (.slice oa (H5.ob x).refs.length oc) (H5.ob x).refs from by
            obtain ⟨_, _, hev, hrf, -⟩ := HOB.out.at
            cases hev
            exact (hrf.mono (ok' := fun b => b ≠ w12.heap.size) (fun b hb _ => by omega)).alloc X)
          clear hob hb12 hboxX hNc hadN
          go_upto_region 28 with (fail)
          clear hX hcX
          generalize hwq : w12.alloc X = wq at *
          have zq : wq.heap.size = w12.heap.size + 1 := by rw [← hwq]; simp
          clear hwq
          by_cases h7 : (H5.ob x).op = 7
          · have HRING := Lib.hid (show Ring H5.ob x from hxg.elim (fun h => absurd h7 h) id)
            have H7 := Lib.hid h7
            clear h7 hxg
            go_wp2_with fail
            go_loopw [21] (fun i wr => ∃ (j : Nat) (q : Int) (ra : Option Addr) (rc : Nat) (wA : Option Addr) (wC : Nat), j ≤ 50 ∧ i = .int .i64 j ∧ q ∈ L ∧ Ring H5.ob q ∧ wr.heap[w12.heap.size]? = some (.cells #[.int .i64 (H5.ob q).op, .int .i64 (H5.ob q).n, .int .i64 (H5.ob q).ar, .slice ra (H5.ob q).refs.length rc, .slice wA (H5.ob q).words.length wC] 25) ∧ Ints (fun b => b ≠ w12.heap.size) wr (.slice ra (H5.ob q).refs.length rc) (H5.ob q).refs ∧ Below w6.heap.size w6 wr ∧ wr.cell? (adN.add k) = some (.int .i64 x)) (fun i _ => 50 - (intOf i).toNat)
            case atStart => exact ⟨0, x, oa, oc, ob, od, by omega, rfl, HXL.out, HRING.out, BOX.out, HRF.out, BX.out, HCX.out⟩
            case round =>
              obtain ⟨j, q, ra, rc, wA, wC, hj, rfl, hqL, hring, hrow, hrf, hb6, hcN⟩ := hrel
              have q7 : (H5.ob q).op = 7 := hring 0
              obtain ⟨q1, qn⟩ := IA.out.one q hqL q7
              have Q1 := Lib.hid q1
              have QN := Lib.hid qn
              have RG := Lib.hid (ring_step hring)
              have BD := Lib.hid hb6
              have zd := hb6.size
              have HCN := Lib.hid hcN
              have hbl := heap_lt hrow
              obtain ⟨ad, eA, hadne, hadl, hadc⟩ := ints_head hrf q1
              have hadc' : wr.cell? ad = some (.int .i64 (nx H5.ob q)) := by
                have e0 : ad.add 0 = ad := by unfold Addr.add; simp
                rw [e0] at hadc
                exact hadc
              subst eA
              rw [q7, q1] at hrow
              have HROW := Lib.hid hrow
              have cb := cellsH hrow
              have fb := freeH hrow
              have HASN := Lib.hid (IA.out.has _ qn)
              clear hadc hrf hb6 hring hqL hrow qn q1 q7
              by_cases hj5 : j < 50
              · have JL := Lib.hid (show j + 1 ≤ 50 from hj5)
                clear hcN
                go_wp2_with fail
                refine (get_any wr h y a H5 (nx H5.ob q) (HC.out.fresh (below_then IL.out.bel IL.out.bel.size BD.out))).mono ?_
                rintro e w13 ⟨v13, rfl, hob3, hb13⟩
                rw [HM.get_ob] at hob3
                obtain ⟨oa3, oc3, ob3, od3, rfl⟩ := hob3.open
                have HROW3 := Lib.hid (rowB hb13 HROW.out (heap_lt HROW.out))
                have z13 := hb13.size
                have B13 := Lib.hid (below_then BD.out zd hb13)
                obtain ⟨w14, hws, ht14⟩ : ∃ W, W = set5 w13 w12.heap.size (.int .i64 (H5.ob (nx H5.ob q)).op) (.int .i64 (H5.ob (nx H5.ob q)).n) (.int .i64 (H5.ob (nx H5.ob q)).ar) (.slice oa3 (H5.ob (nx H5.ob q)).refs.length oc3) (.slice ob3 (H5.ob (nx H5.ob q)).words.length od3) ∧ Turn (fun k => k = w12.heap.size) w13 W := ⟨_, rfl, set5_turn (S := fun k => k = w12.heap.size) (Turn.refl _ _) rfl _ _ _ _ _⟩
                have hrow14 : w14.heap[w12.heap.size]? = some (.cells #[.int .i64 (H5.ob (nx H5.ob q)).op, .int .i64 (H5.ob (nx H5.ob q)).n, .int .i64 (H5.ob (nx H5.ob q)).ar, .slice oa3 (H5.ob (nx H5.ob q)).refs.length oc3, .slice ob3 (H5.ob (nx H5.ob q)).words.length od3] 25) := by rw [hws]; exact set5_row HROW3.out _ _ _ _ _
                have cb3 := cellsH HROW3.out
                have fb3 := freeH HROW3.out
                have hrf3 : Ints (fun b => b ≠ w12.heap.size) w14 (.slice oa3 (H5.ob (nx H5.ob q)).refs.length oc3) (H5.ob (nx H5.ob q)).refs := by
                  obtain ⟨_, _, hev, hrf, -⟩ := hob3.at
                  cases hev
                  exact (hrf.mono (ok' := fun b => b ≠ w12.heap.size) (fun b _ hb => by have h1 : wr.heap.size ≤ b := hb.1; omega)).turn ht14 (fun k hk => hk)
                have hcN14 : w14.cell? (adN.add k) = some (.int .i64 x) := by
                  have h1 := cellBelow HCN.out hb13 (by rw [addr_block]; have := HADN.out; have := zw12.out; omega)
                  refine (World.cell?_of_block (a := adN.add k) ?_).trans h1
                  rw [addr_block]
                  exact ht14.block _ (by have := HADN.out; have := zw12.out; omega) (by have := HADN.out; have := zw12.out; omega)
                have B14 := Lib.hid (B13.out.trans (ht14.below (by omega) (fun k e => by have := zw6.out; omega)))
                unfold set5 at hws
                have HROW14 := Lib.hid hrow14
                have HRF14 := Lib.hid hrf3
                have HCN14 := Lib.hid hcN14
                clear hob3 hb13 ht14 hrow14 hrf3 hcN14
                go_upto_region 30 with (fail)
                rw [← hws]
                clear hws cb fb cb3 fb3 hadc'
                go_wp2_with fail
                go_roundw
                case rel => exact ⟨j + 1, nx H5.ob q, oa3, oc3, ob3, od3, JL.out, congrArg (Value.int .i64) (by omega), QN.out, RG.out, HROW14.out, HRF14.out, B14.out, HCN14.out⟩
                case measure => have := JL.out; simp only [intOf]; omega
              · have he : j = 50 := by omega
                subst he
                obtain ⟨wd, hwd⟩ : ∃ W : World, W = wr := ⟨_, rfl⟩
                subst hwd
                have BOXD := Lib.hid HROW.out
                have hb7 : ((H5.ob x).op == 7) = true := by simp [H7.out]
                clear hj
                have hcd := hcN
                clear hcN hadc' fb
                go_wp2_with fail
                refine (get_any wd h y a H5 x (HC.out.fresh (below_then IL.out.bel IL.out.bel.size BD.out))).mono ?_
                rintro e w16 ⟨v16, rfl, hob16, hb16⟩
                rw [HM.get_ob] at hob16
                obtain ⟨oa6, oc6, ob6, od6, rfl⟩ := hob16.open
                have B16 := Lib.hid (below_then BD.out BD.out.size hb16)
                obtain ⟨Y, hY⟩ : ∃ X : Obj, Obj.cells #[.int .i64 (H5.ob x).op, .int .i64 (H5.ob x).n, .int .i64 (H5.ob x).ar, .slice oa6 (H5.ob x).refs.length oc6, .slice ob6 (H5.ob x).words.length od6] 25 = X := ⟨_, rfl⟩
                have cy := cellsH (show (w16.alloc Y).heap[w16.heap.size]? = _ by rw [new0, ← hY])
                have BY := Lib.hid (B16.out.alloc B16.out.size Y)
                have cbx := cellsH (old1 (rowB hb16 BOXD.out (heap_lt BOXD.out)) Y)
                clear hob16 hb16 cb
                go_wp2_with fail
                go_roundw
                case rel => exact ⟨k + 1, KL.out, congrArg (Value.int .i64) (wrapS (by have := KL.out; have := NB.out; omega)), BY.out⟩
                case measure => exact wrapM (by have := KL.out; have := NB.out; omega) KL.out
          · have hb7 : ((H5.ob x).op == 7) = false := by simpa using h7
            clear h7 hxg
            go_wp2_with fail
            go_loopw [21] (fun i wr => i = .int .i64 0 ∧ Below wq.heap.size wq wr) (fun _ _ => 0)
            case atStart => exact ⟨rfl, Below.refl _ _⟩
            case round =>
              obtain ⟨rfl, hbq⟩ := hrel
              obtain ⟨wd, hwd⟩ : ∃ W : World, W = wr := ⟨_, rfl⟩
              subst hwd
              have BD := Lib.hid (below_then BX.out BX.out.size hbq)
              have BOXD := Lib.hid (rowB hbq BOX.out (heap_lt BOX.out))
              have cb := cellsH BOXD.out
              have hcd := cellBelow HCX.out hbq (by rw [addr_block]; have := HADN.out; omega)
              clear hbq
              go_wp2_with fail
              refine (get_any wd h y a H5 x (HC.out.fresh (below_then IL.out.bel IL.out.bel.size BD.out))).mono ?_
              rintro e w16 ⟨v16, rfl, hob16, hb16⟩
              rw [HM.get_ob] at hob16
              obtain ⟨oa6, oc6, ob6, od6, rfl⟩ := hob16.open
              have B16 := Lib.hid (below_then BD.out BD.out.size hb16)
              obtain ⟨Y, hY⟩ : ∃ X : Obj, Obj.cells #[.int .i64 (H5.ob x).op, .int .i64 (H5.ob x).n, .int .i64 (H5.ob x).ar, .slice oa6 (H5.ob x).refs.length oc6, .slice ob6 (H5.ob x).words.length od6] 25 = X := ⟨_, rfl⟩
              have cy := cellsH (show (w16.alloc Y).heap[w16.heap.size]? = _ by rw [new0, ← hY])
              have BY := Lib.hid (B16.out.alloc B16.out.size Y)
              skip
              clear hob16 hb16
              go_wp2_with fail
              go_roundw
              case rel => exact ⟨k + 1, KL.out, congrArg (Value.int .i64) (wrapS (by have := KL.out; have := NB.out; omega)), BY.out⟩
              case measure => exact wrapM (by have := KL.out; have := NB.out; omega) KL.out
        · clear hk
          have BE := Lib.hid (B6.out.trans (HBl.out.mono (by have := B6.out.size; omega)))
          go_wp2_with fail
          refine (awake_any _).mono ?_
          rintro e wq ⟨rfl, hbq⟩
          have BQ := Lib.hid (below_then BE.out BE.out.size hbq)
          clear hbq
          go_wp2_with fail
          go_ret
          exact ⟨rfl, BQ.out⟩
end Go.Proofs.Ytobniolmielikaa

/- The statement CollectIndirections, where what it reads is of bulk at most 1048576: for every heap and roots the call answers true and turns nothing; no other condition. -/
namespace Go.Proofs.Ytobniolmielikaa
open Go.ChangeShapes Go.WideShapes Go.ChangeAt Go.RowKit Go.Joins

set_option maxRecDepth 100000 in
theorem collectIndirections_lifted (os : Os) (started : os.Started) (H : Type) (enc : TypeId × Value → H) (F : Stop.Interp) :
    ReturnsInHanded {} Try.checked os 14 .any ((Rows.OpenSpec.upto Rows.collectIndirectionsSpec).pre6 enc Try.prog Try.f14 Rows.collectIndirectionsUptoRow.domain false) (((Rows.OpenSpec.upto Rows.collectIndirectionsSpec).at F).post enc Try.prog Try.f14 false true false false) :=
  law_upto (s := Rows.collectIndirectionsSpec) os started enc F (by kernel_rfl) Try.func14 rfl Try.underlying4 (by kernel_rfl) rfl
    (fun ds h => by match ds, h with | [_, _], _ => rfl)
    (OpenSpec.witness (enc := enc) (C := Try.checked) (s := Rows.OpenSpec.upto Rows.collectIndirectionsSpec) (k := Rows.uptoSmall) rfl false ⟨#[], #[.agg #[.int .i64 0, .int .i64 0, .slice none 0 0, .slice none 0 0], .slice none 0 0], []⟩ 8 (by kernel_rfl) (by kernel_rfl) (by kernel_rfl)
      (x := ([.agg [.agg [.lit (.int .i64 0), .lit (.int .i64 0)], .nil, .nil], .nil], [], [])) (by kernel_rfl) rfl (by kernel_rfl))
    (fun W base args ds p hval hA hsz hb => by
      rw [Try.params14] at hA hval hsz
      obtain ⟨v0, vs0, d0, ds0, p0, q0, hargs, rfl, rfl, h0, r0⟩ := trodAll_cons hA
      obtain ⟨v1, vs1, d1, ds1, p1, q1, rfl, rfl, rfl, h1, r1⟩ := trodAll_cons r0
      obtain ⟨rfl, rfl, rfl⟩ := trodAll_nil r1
      obtain rfl : args = #[v0, v1] := by cases args; simp_all
      obtain ⟨cs, rfl, hcs⟩ := okWide_struct Try.underlying62 (hval 0 62 v0 rfl rfl)
      obtain ⟨f0, hf0⟩ := h0
      obtain ⟨f1, hf1⟩ := h1
      have hw : ∀ n ∈ DataW.weightsEach Try.prog [62, 23] [d0, d1], n ≤ reachBytes := by simpa using hsz
      simp only [Rows.uptoBulkAll] at hb
      obtain ⟨n, o, v2, v3, l1, l2, e, hi⟩ := heap_of_trod hf0 (fits_each (j := 0) hw rfl rfl) (show Rows.uptoBulk d0 ≤ 1048576 by omega)
      obtain ⟨v, xs, e1, hr⟩ := roots_of_trod hf1 (fits_each (j := 1) hw rfl rfl)
      obtain rfl : cs = #[.int .i64 n, .int .i64 o, v2, v3] := by
        cases cs
        simpa [Value.cells] using e
      obtain ⟨A, len, c, rfl⟩ := okWide_slice Try.underlying23 (hval 1 23 v1 rfl rfl)
      obtain rfl : v = .slice A len c := by simpa [Value.cells] using e1.symm
      exact collectIndirections_law W n o v2 v3 _ l1 l2 xs hi hr)

theorem collectIndirections_holds : Rows.CollectIndirectionsUptoSaid :=
  OpenClaim.holds_of_cond 14 Try.f14 rfl rfl rfl rfl rfl rfl rfl ⟨rfl, rfl, rfl, rfl, rfl⟩ rfl rfl rfl rfl rfl (by kernel_rfl) Try.func14 (by kernel_rfl)
    (of_decide_eq_true (by kernel_rfl)) (by unfold Func.isWrapper; rw [if_neg (of_decide_eq_false (by kernel_rfl))]; exact ⟨rfl, rfl⟩)
    (fun os started H enc _ F => collectIndirections_lifted os started H enc F)

#print axioms collectIndirections_holds
end Go.Proofs.Ytobniolmielikaa

