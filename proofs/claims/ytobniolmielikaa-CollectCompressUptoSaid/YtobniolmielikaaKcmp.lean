/- The statement CollectCompress, where what it reads is of bulk at most 1048576: for every heap and roots the call answers true and turns nothing; no other condition. -/
import Derived.Test.YtobniolmielikaaZar
import Derived.Test.YtobniolmielikaaZaq
import Derived.Test.YtobniolmielikaaZao
import Derived.Test.YtobniolmielikaaZas
import Derived.Test.YtobniolmielikaaZat
import Derived.Lib.SmallJoins
/- The law level on lists: where an indirection leads, and a heap without them; no program in sight; no condition. -/
namespace Go.Proofs.Ytobniolmielikaa
open Go.RowKit

def nx (f : Int → Ob) (b : Int) : Int := (f b).refs.headD 0
def tgt (f : Int → Ob) (a : Int) : Nat → List Int → Int → Int
  | 0, _, _ => a
  | n + 1, seen, b => if (f b).op = 7 then (if b ∈ seen then a else tgt f a n (seen ++ [b]) (nx f b)) else b
def tgtL (f : Int → Ob) (L : List Int) (a : Int) : Int := tgt f a (L.length + 1) [] a
/-- What may be followed. -/
structure Chn (f : Int → Ob) (L : List Int) : Prop where
  nd : L.Nodup
  one : ∀ b ∈ L, (f b).op = 7 → (f b).refs.length = 1
  step : ∀ b ∈ L, (f b).op = 7 → nx f b ∈ L
/-- Where a search of a target stands. -/
structure TgtAt (f : Int → Ob) (L : List Int) (a : Int) (seen : List Int) (b : Int) : Prop where
  nd : seen.Nodup
  sub : ∀ x ∈ seen, x ∈ L
  mem : b ∈ L
  val : tgt f a (L.length + 1 - seen.length) seen b = tgtL f L a
  ind : ∀ x ∈ seen, (f x).op = 7
  path : ∀ x ∈ seen, nx f x ∈ seen ∨ nx f x = b
  orig : a ∈ seen ∨ b = a
theorem TgtAt.start {f : Int → Ob} {L : List Int} {a : Int} (h : a ∈ L) : TgtAt f L a [] a := ⟨by simp, by simp, h, rfl, by simp, by simp, .inr rfl⟩
theorem TgtAt.len {f : Int → Ob} {L : List Int} {a b : Int} {seen : List Int} (t : TgtAt f L a seen b) : seen.length ≤ L.length := nodup_le t.nd t.sub
theorem TgtAt.fuel {f : Int → Ob} {L : List Int} {a b : Int} {seen : List Int} (t : TgtAt f L a seen b) : L.length + 1 - seen.length = (L.length - seen.length) + 1 := by
  have := t.len
  omega
theorem TgtAt.done {f : Int → Ob} {L : List Int} {a b : Int} {seen : List Int} (t : TgtAt f L a seen b) (h : (f b).op ≠ 7) : tgtL f L a = b := by
  rw [← t.val, t.fuel, tgt, if_neg h]
theorem TgtAt.ring {f : Int → Ob} {L : List Int} {a b : Int} {seen : List Int} (t : TgtAt f L a seen b) (h : (f b).op = 7) (hb : b ∈ seen) : tgtL f L a = a := by
  rw [← t.val, t.fuel, tgt, if_pos h, if_pos hb]
theorem TgtAt.go {f : Int → Ob} {L : List Int} {a b : Int} {seen : List Int} (c : Chn f L) (t : TgtAt f L a seen b) (h : (f b).op = 7) (hb : b ∉ seen) : TgtAt f L a (seen ++ [b]) (nx f b) := by
  have hs : ∀ x ∈ seen ++ [b], x ∈ L := fun x hx => by
    rcases List.mem_append.1 hx with hx | hx
    · exact t.sub x hx
    · simp at hx; subst hx; exact t.mem
  have hn : (seen ++ [b]).Nodup := by
    rw [List.nodup_append]
    refine ⟨t.nd, by simp, ?_⟩
    intro x hx y hy e
    simp at hy
    subst hy
    exact hb (e ▸ hx)
  have hl := nodup_le hn hs
  rw [List.length_append] at hl
  simp only [List.length_cons, List.length_nil] at hl
  refine ⟨hn, hs, c.step b t.mem h, ?_, ?_, ?_, ?_⟩
  · have := t.val
    rw [t.fuel, tgt, if_pos h, if_neg hb] at this
    rw [← this, List.length_append]
    congr 1
    simp only [List.length_cons, List.length_nil]
    omega
  · intro x hx
    rcases List.mem_append.1 hx with hx | hx
    · exact t.ind x hx
    · simp at hx; subst hx; exact h
  · intro x hx
    rcases List.mem_append.1 hx with hx | hx
    · rcases t.path x hx with h1 | h1
      · exact .inl (List.mem_append_left _ h1)
      · rw [h1]; exact .inl (by simp)
    · simp at hx; subst hx; exact .inr rfl
  · rcases t.orig with h1 | h1
    · exact .inl (List.mem_append_left _ h1)
    · subst h1; exact .inl (by simp)
/-- A ring of indirections. -/
def steps (f : Int → Ob) : Nat → Int → Int
  | 0, b => b
  | n + 1, b => steps f n (nx f b)
def Ring (f : Int → Ob) (a : Int) : Prop := ∀ n, (f (steps f n a)).op = 7
theorem TgtAt.last {f : Int → Ob} {L : List Int} {a : Int} (c : Chn f L) : ∀ (n : Nat) {seen : List Int} {b : Int}, TgtAt f L a seen b → L.length - seen.length ≤ n → tgtL f L a ∈ L ∧ ((f (tgtL f L a)).op ≠ 7 ∨ (tgtL f L a = a ∧ Ring f a))
  | n, seen, b, t, hn => by
    by_cases h : (f b).op = 7
    · by_cases hb : b ∈ seen
      · have hcl : ∀ x ∈ seen, nx f x ∈ seen := fun x hx => by
          rcases t.path x hx with h1 | h1
          · exact h1
          · rw [h1]; exact hb
        have ha : a ∈ seen := by
          rcases t.orig with h1 | h1
          · exact h1
          · rw [← h1]; exact hb
        have hr : ∀ (m : Nat) (x : Int), x ∈ seen → (f (steps f m x)).op = 7 := by
          intro m
          induction m with
          | zero => exact fun x hx => t.ind x hx
          | succ m ih => exact fun x hx => ih _ (hcl x hx)
        rw [t.ring h hb]
        exact ⟨t.sub a ha, .inr ⟨rfl, fun m => hr m a ha⟩⟩
      · have t' := t.go c h hb
        have hl := t'.len
        rw [List.length_append] at hl
        simp only [List.length_cons, List.length_nil] at hl
        match n, hn with
        | 0, hn => omega
        | n + 1, hn =>
          exact TgtAt.last c n t' (by rw [List.length_append]; simp only [List.length_cons, List.length_nil]; omega)
    · rw [t.done h]
      exact ⟨t.mem, .inl h⟩
theorem tgtL_last {f : Int → Ob} {L : List Int} (c : Chn f L) {a : Int} (ha : a ∈ L) : tgtL f L a ∈ L ∧ ((f (tgtL f L a)).op ≠ 7 ∨ (tgtL f L a = a ∧ Ring f a)) := TgtAt.last c _ (TgtAt.start ha) (Nat.le_refl _)
theorem tgtL_id {f : Int → Ob} {L : List Int} {a : Int} (h : (f a).op ≠ 7) : tgtL f L a = a := by
  unfold tgtL
  rw [tgt, if_neg h]
theorem tgt_congr {f g : Int → Ob} (h : ∀ b, (f b).op = (g b).op ∧ ((g b).op = 7 → (f b).refs = (g b).refs)) (a : Int) : ∀ (n : Nat) (seen : List Int) (b : Int), tgt f a n seen b = tgt g a n seen b
  | 0, _, _ => rfl
  | n + 1, seen, b => by
    rw [tgt, tgt, (h b).1]
    by_cases h7 : (g b).op = 7
    · rw [if_pos h7, if_pos h7]
      have : nx f b = nx g b := by unfold nx; rw [(h b).2 h7]
      rw [this, tgt_congr h a n]
    · rw [if_neg h7, if_neg h7]
theorem tgtL_congr {f g : Int → Ob} (h : ∀ b, (f b).op = (g b).op ∧ ((g b).op = 7 → (f b).refs = (g b).refs)) (L : List Int) (a : Int) : tgtL f L a = tgtL g L a := tgt_congr h a _ _ _

/-! ### the heap without them -/
def cpr (T : Int → Int) (S : List Int) (p : Int × Ob) : Int × Ob := if p.1 ∈ S ∧ p.2.op ≠ 7 then (p.1, { p.2 with refs := p.2.refs.map T }) else p
theorem cpr_key (T : Int → Int) (S : List Int) (p : Int × Ob) : (cpr T S p).1 = p.1 := by unfold cpr; split <;> rfl
theorem cpr_op (T : Int → Int) (S : List Int) (p : Int × Ob) : (cpr T S p).2.op = p.2.op := by unfold cpr; split <;> rfl
theorem cpr_len (T : Int → Int) (S : List Int) (p : Int × Ob) : (cpr T S p).2.refs.length = p.2.refs.length := by unfold cpr; split <;> simp
theorem cpr_ind (T : Int → Int) (S : List Int) {p : Int × Ob} (h : p.2.op = 7) : cpr T S p = p := by unfold cpr; rw [if_neg (by simp [h])]
def HM.upd (H : HM) (T : Int → Int) (S : List Int) : HM := { H with ly := H.ly.map (cpr T S), la := H.la.map (cpr T S) }
theorem upd_all (H : HM) (T : Int → Int) (S : List Int) : (H.upd T S).all = H.all.map (cpr T S) := by
  unfold HM.all HM.upd
  rw [List.map_append]
theorem cpr_keys (T : Int → Int) (S : List Int) (l : List (Int × Ob)) : (l.map (cpr T S)).map (·.1) = l.map (·.1) := by
  rw [List.map_map]
  apply List.map_congr_left
  intro p _
  exact cpr_key T S p
theorem get_cpr (T : Int → Int) (S : List Int) : ∀ (l : List (Int × Ob)) (x : Int), get (l.map (cpr T S)) x = (get l x).map fun o => (cpr T S (x, o)).2
  | [], x => rfl
  | p :: l, x => by
    rw [List.map_cons, get_cons, get_cons, cpr_key]
    by_cases h : x = p.1
    · rw [if_pos h, if_pos h]
      subst h
      rfl
    · rw [if_neg h, if_neg h, get_cpr T S l x]
theorem upd_has (H : HM) (T : Int → Int) (S : List Int) (x : Int) : (H.upd T S).has x = H.has x := by
  unfold HM.has
  rw [upd_all, get_cpr]
  cases get H.all x <;> rfl
theorem upd_ob (H : HM) (T : Int → Int) (S : List Int) {x : Int} (h : H.has x = true) : (H.upd T S).ob x = (cpr T S (x, H.ob x)).2 := by
  have hg := HM.get_some h
  unfold HM.ob
  rw [upd_all, get_cpr]
  cases hx : get H.all x with
  | none => unfold HM.has at h; rw [hx] at h; cases h
  | some o => rfl
theorem upd_ob_out (H : HM) (T : Int → Int) (S : List Int) {x : Int} (h : H.has x = false) : (H.upd T S).ob x = H.ob x := by
  have hg := HM.get_none' h
  unfold HM.ob
  rw [upd_all, get_cpr, hg]
  rfl
theorem upd_same (H : HM) (T : Int → Int) (S : List Int) (x : Int) : ((H.upd T S).ob x).op = (H.ob x).op ∧ ((H.ob x).op = 7 → ((H.upd T S).ob x).refs = (H.ob x).refs) := by
  cases hx : H.has x with
  | true =>
    rw [upd_ob H T S hx]
    exact ⟨cpr_op T S _, fun h => by rw [cpr_ind T S h]⟩
  | false =>
    rw [upd_ob_out H T S hx]
    exact ⟨rfl, fun _ => rfl⟩
theorem upd_nil (H : HM) (T : Int → Int) : H.upd T [] = H := by
  have : ∀ l : List (Int × Ob), l.map (cpr T []) = l := fun l => by
    conv => rhs; rw [← List.map_id l]
    apply List.map_congr_left
    intro p _
    unfold cpr
    simp
  unfold HM.upd
  rw [this, this]
theorem cpr_snoc {T : Int → Int} {S : List Int} {x : Int} {p : Int × Ob} (h : p.1 ≠ x ∨ p.2.op = 7) : cpr T (S ++ [x]) p = cpr T S p := by
  unfold cpr
  rcases h with h | h
  · have : p.1 ∈ S ++ [x] ↔ p.1 ∈ S := by simp [h]
    simp only [this]
  · rw [if_neg (by simp [h]), if_neg (by simp [h])]
theorem Sim.upd {H G : HM} (s : Sim H G) (T : Int → Int) (S : List Int) : Sim (H.upd T S) (G.upd T S) :=
  ⟨s.nur, s.eld, s.ly.map _, s.la.map _, by rw [upd_all, cpr_keys]; exact s.nd⟩
theorem upd_skip {H : HM} (hn : (H.all.map (·.1)).Nodup) {T : Int → Int} {S : List Int} {x : Int} (h : H.has x = true) (h7 : (H.ob x).op = 7) : H.upd T (S ++ [x]) = H.upd T S := by
  have hp : ∀ p ∈ H.all, cpr T (S ++ [x]) p = cpr T S p := by
    intro p hp
    refine cpr_snoc ?_
    by_cases e : p.1 = x
    · right
      have h1 : get H.all p.1 = some p.2 := (get_mem hn).2 hp
      rw [e, HM.get_some h] at h1
      rw [← Option.some.inj h1]
      exact h7
    · exact .inl e
  unfold HM.upd
  congr 1
  · exact List.map_congr_left fun p hq => hp p (List.mem_append_left _ hq)
  · exact List.map_congr_left fun p hq => hp p (List.mem_append_right _ hq)
theorem upd_set {H : HM} (hn : (H.all.map (·.1)).Nodup) {T : Int → Int} {S : List Int} {x : Int} (h : H.has x = true) (h7 : (H.ob x).op ≠ 7) (hv : vld { H.ob x with refs := (H.ob x).refs.map T } = true) :
    (H.upd T S).set x { H.ob x with refs := (H.ob x).refs.map T } = (0, H.upd T (S ++ [x])) := by
  have hg := HM.get_some h
  have hob : ∀ p ∈ H.all, p.1 = x → cpr T (S ++ [x]) p = (x, { H.ob x with refs := (H.ob x).refs.map T }) := by
    intro p hp e
    have h1 : get H.all p.1 = some p.2 := (get_mem hn).2 hp
    rw [e, hg] at h1
    have h2 := Option.some.inj h1
    unfold cpr
    rw [← h2, if_pos ⟨by simp [e], h7⟩, e]
  have hne : ∀ p : Int × Ob, p.1 ≠ x → cpr T (S ++ [x]) p = cpr T S p := fun p e => cpr_snoc (.inl e)
  have hput : ∀ l : List (Int × Ob), (∀ p ∈ l, p ∈ H.all) → (l.map (·.1)).Nodup → x ∈ l.map (·.1) → put (l.map (cpr T S)) x { H.ob x with refs := (H.ob x).refs.map T } = l.map (cpr T (S ++ [x])) := by
    intro l hl hnd hx
    rw [put_map (by rw [cpr_keys]; exact hnd) (by rw [cpr_keys]; exact hx), List.map_map]
    apply List.map_congr_left
    intro p hp
    show (if (cpr T S p).1 = x then _ else cpr T S p) = _
    rw [cpr_key]
    by_cases e : p.1 = x
    · rw [if_pos e, hob p (hl p hp) e]
    · rw [if_neg e, hne p e]
  have hout : ∀ l : List (Int × Ob), x ∉ l.map (·.1) → l.map (cpr T S) = l.map (cpr T (S ++ [x])) := by
    intro l hx
    apply List.map_congr_left
    intro p hp
    exact (hne p (fun e => hx (e ▸ List.mem_map_of_mem (f := (·.1)) hp))).symm
  have hsplit := hn
  unfold HM.all at hsplit
  rw [List.map_append, List.nodup_append] at hsplit
  obtain ⟨n1, n2, n3⟩ := hsplit
  have hgy : Go.Proofs.Ytobniolmielikaa.get (H.upd T S).ly x = (Go.Proofs.Ytobniolmielikaa.get H.ly x).map fun o => (cpr T S (x, o)).2 := get_cpr T S H.ly x
  have hga : Go.Proofs.Ytobniolmielikaa.get (H.upd T S).la x = (Go.Proofs.Ytobniolmielikaa.get H.la x).map fun o => (cpr T S (x, o)).2 := get_cpr T S H.la x
  unfold HM.set
  rw [if_pos hv, hgy, hga]
  cases hy : Go.Proofs.Ytobniolmielikaa.get H.ly x with
  | some o =>
    have hx : x ∈ H.ly.map (·.1) := List.mem_map_of_mem (f := (·.1)) (get_in_list hy)
    simp only [Option.map_some]
    congr 1
    unfold HM.upd
    rw [hput H.ly (fun p hp => List.mem_append_left _ hp) n1 hx]
    have : x ∉ H.la.map (·.1) := fun h2 => n3 x hx x h2 rfl
    rw [hout H.la this]
  | none =>
    have hx : x ∉ H.ly.map (·.1) := get_none.1 hy
    unfold HM.all at hg
    rw [get_append, hy] at hg
    simp only at hg
    simp only [hg, Option.map_none, Option.map_some]
    congr 1
    unfold HM.upd
    rw [hput H.la (fun p hp => List.mem_append_right _ hp) n2 (List.mem_map_of_mem (f := (·.1)) (get_in_list hg)), hout H.ly hx]
theorem vld_map {o : Ob} {T : Int → Int} (hv : vld o = true) (hT : ∀ r ∈ o.refs, 0 ≤ T r) : vld { o with refs := o.refs.map T } = true := by
  unfold vld at hv ⊢
  simp only [Bool.and_eq_true, List.all_eq_true, decide_eq_true_eq] at hv ⊢
  obtain ⟨⟨h1, h2⟩, h3⟩ := hv
  refine ⟨⟨h1, ?_⟩, ?_⟩
  · intro r hr
    obtain ⟨z, hz, rfl⟩ := List.mem_map.1 hr
    exact hT z hz
  · simpa using h3
theorem Wel.pos {H : HM} (h : Wel H) {a : Int} (ha : H.has a = true) : 0 ≤ a := (h.key (get_in_list (HM.get_some ha))).1
theorem live_chn {H : HM} (hW : Wel H) {roots L : List Int} (hl : H.live roots = some L) : Chn H.ob L := by
  obtain ⟨h1, h2, h3, h4⟩ := live_has hl
  have one : ∀ b ∈ L, (H.ob b).op = 7 → (H.ob b).refs.length = 1 := by
    intro b hb h7
    have hv := hW.vld (h2 b hb)
    unfold Go.Proofs.Ytobniolmielikaa.vld at hv
    simp only [Bool.and_eq_true] at hv
    have h5 := hv.2
    unfold vTail at h5
    rw [h7] at h5
    simp at h5
    exact Int.ofNat.inj h5.2
  refine ⟨h1, one, fun b hb h7 => ?_⟩
  have h5 := one b hb h7
  unfold nx
  cases hr : (H.ob b).refs with
  | nil => rw [hr] at h5; simp at h5
  | cons r t => exact h4 b hb r (by rw [hr]; simp)
theorem upd_wel {H : HM} (hW : Wel H) {T : Int → Int} {S : List Int} (hv : ∀ x ∈ S, H.has x = true → vld { H.ob x with refs := (H.ob x).refs.map T } = true) : Wel (H.upd T S) := by
  have hfit : ∀ p ∈ H.all, fit1 (cpr T S p) = true := by
    intro p hp
    have h1 := hW.fall p hp
    unfold cpr
    split
    · rename_i hc
      have h2 : get H.all p.1 = some p.2 := (get_mem hW.nd).2 hp
      have h3 : H.has p.1 = true := by unfold HM.has; rw [h2]; rfl
      have h4 := hv p.1 hc.1 h3
      have h5 : H.ob p.1 = p.2 := by unfold HM.ob; rw [h2]; rfl
      rw [h5] at h4
      unfold fit1 at h1 ⊢
      rw [h4]
      simp only [Bool.and_eq_true] at h1 ⊢
      exact ⟨h1.1, trivial⟩
    · exact h1
  refine ⟨hW.n1, hW.n2, hW.e1, hW.e2, by show ((H.ly.map (cpr T S)).length : Int) ≤ _; rw [List.length_map]; exact hW.ly, by show ((H.la.map (cpr T S)).length : Int) ≤ _; rw [List.length_map]; exact hW.la, by rw [upd_all, cpr_keys]; exact hW.nd, ?_, ?_⟩
  · refine List.all_eq_true.2 fun q hq => ?_
    obtain ⟨p, hp, rfl⟩ := List.mem_map.1 hq
    exact hfit p (List.mem_append_left _ hp)
  · refine List.all_eq_true.2 fun q hq => ?_
    obtain ⟨p, hp, rfl⟩ := List.mem_map.1 hq
    exact hfit p (List.mem_append_right _ hp)
theorem upd_bnd {H : HM} (hB : Bnd H) (T : Int → Int) (S : List Int) : Bnd (H.upd T S) := by
  refine ⟨by rw [upd_all, List.length_map]; exact hB.len, fun q hq => ?_⟩
  rw [upd_all] at hq
  obtain ⟨p, hp, rfl⟩ := List.mem_map.1 hq
  rw [cpr_len]
  exact hB.refs p hp
end Go.Proofs.Ytobniolmielikaa

/- The collector's target; no condition. -/
namespace Go.Proofs.Ytobniolmielikaa
open Go.RowKit

theorem ints_head {ok : Nat → Prop} {w : World} {A : Option Addr} {n c : Nat} {xs : List Int} (h : Ints ok w (.slice A n c) xs) (h1 : xs.length = 1) : ∃ ad, A = some ad ∧ ok ad.block ∧ ad.block < w.heap.size ∧ w.cell? (ad.add 0) = some (.int .i64 (xs.headD 0)) := by
  obtain ⟨A', cap, e, -, -, -, h4, -⟩ := h
  cases e
  obtain ⟨ad, rfl, ho, hlt, hc⟩ := h4 (by omega)
  refine ⟨ad, rfl, ho, hlt, hc 0 _ ?_⟩
  cases xs with
  | nil => simp at h1
  | cons x t => rfl

theorem fld0 (W : World) (x n ar : Int) (rv wv : Value) : (Instr.field 25 (.agg #[.int .i64 x, .int .i64 n, .int .i64 ar, rv, wv]) 0).run Try.prog W = .ok (.int .i64 x) W := by kernel_rfl
theorem fld3 (W : World) (x n ar : Int) (A : Option Addr) (c d : Nat) (wv : Value) : (Instr.field 25 (.agg #[.int .i64 x, .int .i64 n, .int .i64 ar, .slice A c d, wv]) 3).run Try.prog W = .ok (.slice A c d) W := by kernel_rfl

set_option maxRecDepth 100000 in
set_option maxHeartbeats 2000000 in
theorem target_any (ok : Nat → Prop) (w : World) (b : Nat) (f : Int → Ob) (L : List Int) (x : Int) (hm : ObjMapO ok w b (L.map fun a => (a, f a))) (hc : Chn f L) (hx : x ∈ L) (hok : ∀ k, ok k → k < w.heap.size) :
    Calls Try.prog 90 #[.map (some b), .int .i64 x] w fun e w' => e = .returned (.int .i64 (tgtL f L x)) ∧ Below w.heap.size w w' := by
  have hbl := ObjMapO.lt hm
  have HM := Lib.hid hm
  have HC := Lib.hid hc
  have HX := Lib.hid hx
  have hmm := @run_makeMap Try.prog
  have hf0 := fld0
  have hf3 := fld3
  clear hm hc hx
  go_enter Try.func90, Try.ntmps90
  go_wp2_with fail
  go_loopg [6] L.length (fun g v wr => ∃ (y : Int) (seen : List Int), g = L.length - seen.length ∧ v = .int .i64 y ∧ TgtAt f L x seen y ∧ MapAt wr w.heap.size (seenL seen) ∧ Below w.heap.size w wr ∧ w.heap.size < wr.heap.size)
  case atStart => exact ⟨x, [], rfl, rfl, TgtAt.start HX.out, ⟨#[], 0, new0 _ _, ⟨rfl, by simp, by simp, by simp [seenL]⟩⟩, (Below.refl _ _).alloc (Nat.le_refl _) _, by simp⟩
  case round =>
    obtain ⟨y, seen, rfl, rfl, ht, hmap, hb, hsz⟩ := hrel
    have HT := Lib.hid ht
    have HB := Lib.hid hb
    have HO := Lib.hid (HM.out.fresh hb)
    obtain ⟨oa, oc, ob, od, hlk, hov⟩ := run_lookup_obj HO.out (get_objs f ht.mem)
    have hlk0 := hlk wr rfl
    have HLK := Lib.hid hlk
    have HOV := Lib.hid hov
    clear hlk hov
    by_cases h7 : (f y).op = 7
    · have h7' : ((f y).op == 7) = true := by simp [h7]
      have H7 := Lib.hid h7
      have lk := run_lookup_map (P := Try.prog) (t := 139) (k := 3) (e := 4) Try.underlying139 Try.underlying3 (zero4 _) hmap y false
      rw [get_seen] at lk
      simp only [Bool.false_eq_true, if_false] at lk
      by_cases hy : y ∈ seen
      · simp only [if_pos hy, Option.getD_some] at lk
        have HR := Lib.hid (ht.ring h7 hy)
        rw [h7] at hlk0
        clear ht hmap hb h7 hy h7'
        go_wp2_with fail
        go_ret
        exact ⟨by rw [HR.out]; rfl, HB.out⟩
      · simp only [if_neg hy, Option.getD_none] at lk
        have HN := Lib.hid (ht.go HC.out h7 hy)
        have H1 := Lib.hid (HC.out.one y ht.mem h7)
        obtain ⟨W6, hrun6, hm6, ht6, hs6⟩ := run_update_map (P := Try.prog) (t := 139) (k := 3) (e := 4) Try.underlying139 Try.underlying3 hmap y (.bool true)
        rw [put_seen hy] at hm6
        have hbl' := ObjMapO.lt HO.out
        have hlk6 := HLK.out W6 (ht6.block b hbl' (by omega))
        obtain ⟨_, _, hev, hrf, -⟩ := HOV.out
        cases hev
        obtain ⟨ad, eA, hao, hal, hc⟩ := ints_head hrf H1.out
        subst eA
        have hal2 := hok _ hao
        have hc6 : W6.cell? (ad.add 0) = some (.int .i64 (nx f y)) := (World.cell?_of_block (a := ad.add 0) (by rw [addr_block]; exact ht6.block _ hal (by omega))).trans hc
        have hc6' : W6.cell? ad = some (.int .i64 (nx f y)) := by
          have e0 : ad.add 0 = ad := by unfold Addr.add; simp
          rw [← e0]; exact hc6
        have HM6 := Lib.hid hm6
        have HB6 := Lib.hid (hb.trans (ht6.below (Nat.le_of_lt hsz) (fun k e => by omega)))
        have hlen := HN.out.len
        rw [List.length_append] at hlen
        simp only [List.length_cons, List.length_nil] at hlen
        have HLEN := Lib.hid hlen
        have H1' := H1.out
        have hs6' : w.heap.size < W6.heap.size := by omega
        rw [h7] at hlk0 hlk6
        rw [H1'] at hlk0 hlk6
        clear ht hmap hb h7 hy h7' hm6 ht6 hrf hc hlen H1' hao hal
        go_wp2_with fail
        go_roundg (L.length - (seen ++ [y]).length)
        case rel => exact ⟨nx f y, seen ++ [y], rfl, rfl, HN.out, HM6.out, HB6.out, hs6'⟩
        case measure => have := HLEN.out; rw [List.length_append]; simp only [List.length_cons, List.length_nil]; omega
    · have h7' : ((f y).op == 7) = false := by simpa using h7
      have HD := Lib.hid (ht.done h7)
      clear ht hmap hb h7
      go_wp2_with fail
      go_ret
      exact ⟨by rw [HD.out]; rfl, HB.out⟩
end Go.Proofs.Ytobniolmielikaa

/- The collector's Compress; no condition. -/
namespace Go.Proofs.Ytobniolmielikaa
open Go.RowKit

/-- The targets that are laid aside. -/
def tos (f : Int → Ob) (L S : List Int) : List (Int × Int) := (S.filter fun a => (f a).op == 7).map fun a => (a, tgtL f L a)
theorem tos_keys (f : Int → Ob) (L S : List Int) : (tos f L S).map (·.1) = S.filter fun a => (f a).op == 7 := by
  unfold tos
  rw [List.map_map]
  conv => rhs; rw [← List.map_id (S.filter fun a => (f a).op == 7)]
  rfl
theorem tos_snoc {f : Int → Ob} {L : List Int} {k : Nat} {x : Int} (hx : L[k]? = some x) : tos f L (L.take (k + 1)) = tos f L (L.take k) ++ if (f x).op = 7 then [(x, tgtL f L x)] else [] := by
  unfold tos
  rw [List.take_add_one, hx, List.filter_append, List.map_append]
  congr 1
  by_cases h : (f x).op = 7
  · simp [h]
  · simp [h]
theorem get_map_self {β : Type} (g : Int → β) : ∀ (l : List Int) (x : Int), get (l.map fun a => (a, g a)) x = if x ∈ l then some (g x) else none
  | [], x => rfl
  | a :: l, x => by
    rw [List.map_cons, get_cons, get_map_self g l x]
    by_cases h : x = a
    · subst h; simp
    · simp [h]
theorem via_tos {f : Int → Ob} {L : List Int} {x : Int} (hx : x ∈ L) : via (tos f L L) x = tgtL f L x := by
  unfold via tos
  rw [get_map_self (tgtL f L)]
  by_cases h : (f x).op = 7
  · rw [if_pos (List.mem_filter.2 ⟨hx, by simp [h]⟩)]
    rfl
  · rw [if_neg (fun e => h (by simpa using (List.mem_filter.1 e).2)), tgtL_id h]
    rfl
/-- How Compress ends. -/
def CmpEnd (w : World) (h y a : Nat) (H : HM) (roots : List Int) (e : Ending) (w' : World) : Prop :=
  Turn (HB h y a) w w' ∧ (H.live roots = none → e = .returned (.tuple #[.slice none 0 0, .int .i64 35]) ∧ HeapAt w' h y a H) ∧
  ∀ L, H.live roots = some L → ∃ v, e = .returned (.tuple #[v, .int .i64 0]) ∧ Ints (w.heap.size ≤ ·) w' v (roots.map (tgtL H.ob L)) ∧ HeapAt w' h y a (H.upd (tgtL H.ob L) L)
theorem tgt_vld {H : HM} (hW : Wel H) {roots L : List Int} (hl : H.live roots = some L) : ∀ x ∈ L, vld { H.ob x with refs := (H.ob x).refs.map (tgtL H.ob L) } = true := by
  intro x hx
  obtain ⟨h1, h2, h3, h4⟩ := live_has hl
  refine vld_map (hW.vld (h2 x hx)) fun r hr => ?_
  exact hW.pos (h2 _ (tgtL_last (live_chn hW hl) (h4 x hx r hr)).1)

set_option maxRecDepth 100000 in
set_option maxHeartbeats 4000000 in
theorem compress_any (ok : Nat → Prop) (w : World) (h y a : Nat) (H : HM) (rv : Value) (roots : List Int) (hh : HeapAt w h y a H) (hW : Wel H) (hr : Ints ok w rv roots) (hok : ∀ k, ok k → ¬ HB h y a k) (hvol : H.fuel roots ≤ 1000000) :
    Calls Try.prog 50 #[.pointer (some ⟨h, 0, none⟩), rv] w (CmpEnd w h y a H roots) := by
  obtain ⟨A, c, rfl⟩ := hr.shape
  have HLA := Lib.hid (live_any ok w h y a H _ roots hh hr hW.n1 hW.nd hvol)
  have hlen := Lib.hid (show ∀ L, H.live roots = some L → L.length ≤ 1000000 from fun L hl => by
    have := bfs_len _ _ _ _ (live_found hl).2
    simp at this
    omega)
  have HH := Lib.hid hh
  have HR := Lib.hid (hr.mono (ok' := fun k => ¬ HB h y a k) (fun k _ hk => hok k hk))
  have HW := Lib.hid hW
  have hhl := hh.lt
  have hmm := @run_makeMap Try.prog
  have hf0 := fld0
  clear hh hr hok hvol
  go_enter Try.func50, Try.ntmps50
  go_wp2_with fail
  refine HLA.out.mono ?_
  rintro e w1 ⟨hb1, hno, hyes⟩
  have HB1 := Lib.hid hb1
  have hz1 := hb1.size
  cases hl : H.live roots with
  | none =>
    have he := hno hl
    subst he
    have HLV := Lib.hid hl
    clear hno hyes hl hb1
    go_wp2_with fail
    go_ret2
    exact ⟨below_turn HB1.out _, fun _ => ⟨rfl, HH.out.fresh HB1.out⟩, fun L e => by rw [HLV.out] at e; cases e⟩
  | some L =>
    obtain ⟨v, b, he, hown, hwf, hobj, hbb⟩ := hyes L hl
    subst he
    obtain ⟨Ao, co, rfl⟩ := row_shape hown
    have hll := hlen.out L hl
    have HI1 := Lib.hid (ints_row hown (by omega) hwf)
    have HOBJ := Lib.hid hobj
    have HLV := Lib.hid hl
    have HWF := Lib.hid hwf
    have HCH := Lib.hid (live_chn hW hl)
    have hbl := ObjMapO.lt hobj
    clear hno hyes hl hb1 hown hwf hobj
    go_wp2_with fail
    go_loopw [28] (fun i wr => ∃ k : Nat, k ≤ L.length ∧ i = .int .i64 k ∧ IntMap wr w1.heap.size (tos H.ob L (L.take k)) ∧ Below w1.heap.size w1 wr) (fun i _ => L.length - (intOf i).toNat)
    case atStart => exact ⟨0, Nat.zero_le _, rfl, ⟨#[], 0, new0 _ _, ⟨rfl, by simp, by simp, by simp [tos, vals]⟩⟩, (Below.refl _ _).alloc (Nat.le_refl _) _⟩
    case round =>
      obtain ⟨k, hk, rfl, hm, hb⟩ := hrel
      have HMl := Lib.hid hm
      have HBl := Lib.hid hb
      have zb := hb.size
      have hml := MapAt.lt hm
      by_cases hlt : k < L.length
      · obtain ⟨ad, eA, hc⟩ := Ints.cell (HI1.out.fresh hb) hlt
        have hx := List.getElem?_eq_getElem hlt
        generalize L[k] = x at hx hc
        have hxL : x ∈ L := List.mem_of_getElem? hx
        obtain ⟨oa, oc, ob, od, hlk, hov⟩ := run_lookup_obj (HOBJ.out.fresh HBl.out) (get_objs H.ob hxL)
        have hlk0 := hlk wr rfl
        have HX := Lib.hid hx
        have HXL := Lib.hid hxL
        have HLT := Lib.hid (show k + 1 ≤ L.length from hlt)
        subst eA
        clear hlk hov hx hxL hb hm
        by_cases h7 : (H.ob x).op = 7
        · have H7 := Lib.hid h7
          rw [h7] at hlk0
          clear h7
          go_wp2_with fail
          refine (target_any _ wr b H.ob L x (HOBJ.out.fresh HBl.out) HCH.out HXL.out (fun k hk => by have := hk.2; omega)).mono ?_
          rintro e w2 ⟨rfl, hb2⟩
          have hnew : x ∉ (tos H.ob L (L.take k)).map (·.1) := by
            rw [tos_keys]
            exact fun e => take_nodup_new HCH.out.nd HX.out (List.mem_filter.1 e).1
          obtain ⟨w6, hrun, hm6, ht6, hs6⟩ := run_store_ints (IntMap.below HMl.out hb2) x (tgtL H.ob L x)
          have hsn := tos_snoc (f := H.ob) HX.out
          rw [if_pos H7.out] at hsn
          rw [put_new hnew, ← hsn] at hm6
          have HM6 := Lib.hid hm6
          have HB6 := Lib.hid ((below_then HBl.out zb hb2).trans (ht6.below (by have := hb2.size; omega) (fun q e => by omega)))
          clear hnew hb2 hm6 ht6 hs6 hsn hlk0 hc
          go_wp2_with fail
          go_roundw
          case rel => exact ⟨k + 1, HLT.out, by have := HLT.out; go_num, HM6.out, HB6.out⟩
          case measure => have := HLT.out; simp [intOf]; omega
        · have hb7 : ((H.ob x).op == 7) = false := by simpa using h7
          have hsn := tos_snoc (f := H.ob) HX.out
          rw [if_neg h7, List.append_nil] at hsn
          have HM6 := Lib.hid (show IntMap wr w1.heap.size (tos H.ob L (L.take (k + 1))) by rw [hsn]; exact HMl.out)
          clear h7 hsn
          go_wp2_with fail
          go_roundw
          case rel => exact ⟨k + 1, HLT.out, by have := HLT.out; go_num, HM6.out, HBl.out⟩
          case measure => have := HLT.out; simp [intOf]; omega
      · have he : k = L.length := by omega
        subst he
        rw [List.take_length] at hm
        obtain ⟨wa, hwa⟩ : ∃ W : World, W = wr := ⟨_, rfl⟩
        subst hwa
        have HMA := Lib.hid hm
        clear hm hb HMl
        have HAa := Lib.hid (HH.out.fresh (below_then HB1.out hz1 HBl.out))
        have HBa := Lib.hid (below_then HB1.out hz1 HBl.out)
        have HIa := Lib.hid (HI1.out.fresh HBl.out)
        have HOa := Lib.hid (HOBJ.out.fresh HBl.out)
        go_wp2_with fail
        go_loopw [45] (fun i wr => ∃ k : Nat, k ≤ L.length ∧ i = .int .i64 k ∧ HeapAt wr h y a (H.upd (tgtL H.ob L) (L.take k)) ∧ Turn (HB h y a) wa wr) (fun i _ => L.length - (intOf i).toNat)
        case atStart => exact ⟨0, Nat.zero_le _, rfl, by rw [List.take_zero, upd_nil]; exact HAa.out, Turn.refl _ _⟩
        case round =>
          obtain ⟨k, hk, rfl, hH, ht⟩ := hrel
          have HHr := Lib.hid hH
          have HT := Lib.hid ht
          have zt := ht.size
          have hnb : ∀ q, HB h y a q → q < w.heap.size := fun q e => by rcases e with e | e | e <;> omega
          have HNB := Lib.hid hnb
          have HIr := Lib.hid (HIa.out.turn ht (fun q hq e => by have := hnb q e; omega))
          have HMr := Lib.hid (show IntMap wr w1.heap.size (tos H.ob L L) by
            obtain ⟨es, cc, h1, h2⟩ := HMA.out
            exact ⟨es, cc, (ht.block _ hml (fun e => by have := hnb _ e; omega)).trans h1, h2⟩)
          have HOr := Lib.hid (HOa.out.turn ht (fun e => by have := hnb _ e; omega) (fun q hq e => by have := hnb _ e; omega))
          by_cases hlt : k < L.length
          · obtain ⟨ad, eA, hc⟩ := Ints.cell HIr.out hlt
            have hx := List.getElem?_eq_getElem hlt
            generalize L[k] = x at hx hc
            have hxL : x ∈ L := List.mem_of_getElem? hx
            obtain ⟨oa, oc, ob, od, hlk, hov⟩ := run_lookup_obj HOr.out (get_objs H.ob hxL)
            have hlk0 := hlk wr rfl
            have HOV := Lib.hid hov
            have HX := Lib.hid hx
            have HXL := Lib.hid hxL
            have HLT := Lib.hid (show k + 1 ≤ L.length from hlt)
            have htk : L.take (k + 1) = L.take k ++ [x] := by rw [List.take_add_one, hx]; rfl
            have HTK := Lib.hid htk
            have HHAS := Lib.hid ((live_has HLV.out).2.1 x hxL)
            obtain ⟨B, hB⟩ : ∃ B : Obj, Obj.cells #[.int .i64 (H.ob x).op, .int .i64 (H.ob x).n, .int .i64 (H.ob x).ar, .slice oa (H.ob x).refs.length oc, .slice ob (H.ob x).words.length od] 25 = B := ⟨_, rfl⟩
            have cb := cellsH (show (wr.alloc B).heap[wr.heap.size]? = _ by rw [new0, ← hB])
            subst eA
            clear hlk hov hx hxL hH ht htk hnb
            by_cases h7 : (H.ob x).op = 7
            · have hb7 : ((H.ob x).op == 7) = true := by simp [h7]
              have NEXT := Lib.hid (show HeapAt (wr.alloc B) h y a (H.upd (tgtL H.ob L) (L.take (k + 1))) by rw [HTK.out, upd_skip HW.out.nd HHAS.out h7]; exact HHr.out.alloc B)
              clear h7
              go_wp2_with fail
              go_roundw
              case rel => exact ⟨k + 1, HLT.out, by have := HLT.out; go_num, NEXT.out, HT.out.then ((Below.refl _ _).alloc (Nat.le_refl _) B)⟩
              case measure => have := HLT.out; simp [intOf]; omega
            · have hb7 : ((H.ob x).op == 7) = false := by simpa using h7
              have H7 := Lib.hid h7
              clear h7
              go_wp2_with fail
              obtain ⟨_, _, hev, hrf, hwd⟩ := HOV.out
              cases hev
              have hclos := (live_has HLV.out).2.2.2 x HXL.out
              have hmapv : (H.ob x).refs.map (via (tos H.ob L L)) = (H.ob x).refs.map (tgtL H.ob L) := List.map_congr_left fun q hq => via_tos (hclos q hq)
              have htwf : ∀ p ∈ tos H.ob L L, (Lit.int .i64 p.2).wf = true := by
                intro p hp
                obtain ⟨q, hq, rfl⟩ := List.mem_map.1 hp
                exact HWF.out _ (tgtL_last HCH.out (List.mem_filter.1 hq).1).1
              refine (replaced_any _ (wr.alloc B) _ (H.ob x).refs w1.heap.size (tos H.ob L L) (hrf.alloc B) (IntMap.below HMr.out ((Below.refl _ _).alloc (Nat.le_refl _) B)) htwf).mono ?_
              rintro e w4 ⟨u, rfl, hu, huw, hb4⟩
              rw [hmapv] at hu huw
              obtain ⟨Au, cu, rfl⟩ := row_shape hu
              have hz4 := hb4.size
              simp only [World.size_alloc] at hu hb4 hz4
              have hrb := rowB hb4 (new0 wr B) (by simp)
              rw [← hB] at hrb
              have hb04 : Below wr.heap.size wr w4 := below_then ((Below.refl _ _).alloc (Nat.le_refl _) B) (by simp) (by simpa using hb4)
              have T5 : Turn (fun k => k = wr.heap.size) w4 (w4.setCell ⟨wr.heap.size, 3, none⟩ (.slice Au (H.ob x).refs.length cu)) := turnSet _ _ _ _
              have hr5 := rowSet hrb 3 (.slice Au (H.ob x).refs.length cu)
              have hb05 : Below wr.heap.size wr (w4.setCell ⟨wr.heap.size, 3, none⟩ (.slice Au (H.ob x).refs.length cu)) := hb04.setCell (p := ⟨wr.heap.size, 3, none⟩) (Nat.le_refl _) _
              have hob5 : ObAt (fun _ => True) (w4.setCell ⟨wr.heap.size, 3, none⟩ (.slice Au (H.ob x).refs.length cu)) (.agg #[.int .i64 (H.ob x).op, .int .i64 (H.ob x).n, .int .i64 (H.ob x).ar, .slice Au (H.ob x).refs.length cu, .slice ob (H.ob x).words.length od]) { H.ob x with refs := (H.ob x).refs.map (tgtL H.ob L) } := by
                have hl1 : (H.ob x).refs.length = ((H.ob x).refs.map (tgtL H.ob L)).length := by simp
                have hrl := hrf.len
                have hu' : w4.ownsRow (wr.heap.size + 1) 3 1 (.slice Au (H.ob x).refs.length cu) ((H.ob x).refs.map (tgtL H.ob L)).length (((H.ob x).refs.map (tgtL H.ob L)).map (Value.int .i64)) := by rw [← hl1]; exact hu
                have hi := ints_row hu' (by rw [← hl1]; omega) huw
                refine ⟨_, _, rfl, ?_, ?_⟩
                · exact (hi.turn T5 fun k hk e => by omega).mono fun k _ hk => trivial
                · exact (hwd.fresh hb05).mono fun k _ hk => trivial
              have HOB5 := Lib.hid hob5
              have HB05 := Lib.hid hb05
              have c4 := cellsH hrb
              have f4 := freeH hrb
              have c5 := cellsH hr5
              clear hob5 hb05 hr5 T5 hb04 hrb hu hb4 hB cb hc hlk0 hrf hwd hclos hmapv htwf huw
              go_upto_region 17 with (fail)
              generalize w4.setCell ⟨wr.heap.size, 3, none⟩ (.slice Au (H.ob x).refs.length cu) = WW at *
              go_wp2_with fail
              refine (set_any _ WW h y a (H.upd (tgtL H.ob L) (L.take k)) x _ _ (HHr.out.fresh HB05.out) HOB5.out).mono ?_
              rintro e w6 ⟨rfl, hH6, ht6⟩
              rw [upd_set HW.out.nd HHAS.out H7.out (tgt_vld HW.out HLV.out x HXL.out), ← HTK.out] at hH6
              have NEXT := Lib.hid hH6
              have NT := Lib.hid ((HT.out.then HB05.out).trans ht6)
              clear hH6 ht6 c4 f4 c5
              go_wp2_with fail
              go_roundw
              case rel => exact ⟨k + 1, HLT.out, by have := HLT.out; go_num, NEXT.out, NT.out⟩
              case measure => have := HLT.out; simp [intOf]; omega
          · have he : k = L.length := by omega
            subst he
            rw [List.take_length] at hH
            have HHE := Lib.hid hH
            have hzb := HBa.out.size
            have HTr := Lib.hid ((below_turn HBa.out (HB h y a)).trans ht)
            have HRr := Lib.hid (HR.out.turn HTr.out (fun q hq => hq))
            obtain ⟨wb, hwb⟩ : ∃ W : World, W = wr := ⟨_, rfl⟩
            subst hwb
            have htwf : ∀ p ∈ tos H.ob L L, (Lit.int .i64 p.2).wf = true := by
              intro p hp
              obtain ⟨q, hq, rfl⟩ := List.mem_map.1 hp
              exact HWF.out _ (tgtL_last HCH.out (List.mem_filter.1 hq).1).1
            clear hk hH ht hnb
            go_wp2_with fail
            refine (replaced_any _ wb _ roots w1.heap.size (tos H.ob L L) HRr.out HMr.out htwf).mono ?_
            rintro e w4 ⟨u, rfl, hu, huw, hb4⟩
            have hmap : roots.map (via (tos H.ob L L)) = roots.map (tgtL H.ob L) := List.map_congr_left fun q hq => via_tos ((live_has HLV.out).2.2.1 q hq)
            rw [hmap] at hu huw
            obtain ⟨Au, cu, rfl⟩ := row_shape hu
            have hl1 : roots.length = (roots.map (tgtL H.ob L)).length := by simp
            have hrl := HRr.out.len
            have hu' : w4.ownsRow wb.heap.size 3 1 (.slice Au roots.length cu) (roots.map (tgtL H.ob L)).length ((roots.map (tgtL H.ob L)).map (Value.int .i64)) := by rw [← hl1]; exact hu
            have hi := (ints_row hu' (by rw [← hl1]; omega) huw).mono (ok' := (w.heap.size ≤ ·)) (fun k _ hk => by omega)
            have HI := Lib.hid hi
            have HT4 := Lib.hid (HTr.out.then hb4)
            have HH4 := Lib.hid (HHE.out.fresh hb4)
            clear hu hu' huw hi hb4 hl1 hmap htwf
            go_wp2_with fail
            go_ret2
            refine ⟨HT4.out, (fun e => by rw [HLV.out] at e; cases e), fun L' e => ?_⟩
            rw [HLV.out] at e
            cases e
            exact ⟨_, rfl, HI.out, HH4.out⟩
end Go.Proofs.Ytobniolmielikaa

/- The reference collector: target, targets; no condition. -/
namespace Go.Proofs.Ytobniolmielikaa
open Go.RowKit

set_option maxRecDepth 100000 in
set_option maxHeartbeats 2000000 in
theorem rtarget_any (base : Nat) (w : World) (r : Nat) (NV AV : Value) (R : RM) (L : List Int) (x : Int) (hh : RHeapAt base w r NV AV R) (hc : Chn R.abs.ob L) (hx : x ∈ L) (hwf : ∀ z ∈ L, (Lit.int .i64 z).wf = true) (hl : L.length ≤ 1000000) :
    Calls Try.prog 108 #[.pointer (some ⟨r, 0, none⟩), .int .i64 x] w fun e w' => e = .returned (.int .i64 (tgtL R.abs.ob L x)) ∧ Below w.heap.size w w' := by
  have HH := Lib.hid hh
  have HC := Lib.hid hc
  have HX := Lib.hid hx
  have HWF := Lib.hid hwf
  clear hh hc hx hwf
  go_enter Try.func108, Try.ntmps108
  go_wp2_with fail
  go_loopg [5, 6] L.length (fun g u v wr => ∃ (y : Int) (seen : List Int), g = L.length - seen.length ∧ v = .int .i64 y ∧ TgtAt R.abs.ob L x seen y ∧ wr.ownsRow w.heap.size 3 1 u seen.length (seen.map (Value.int .i64)) ∧ Below w.heap.size w wr)
  case atStart => exact ⟨x, [], rfl, rfl, TgtAt.start HX.out, row_of_nil _ _ _, Below.refl _ _⟩
  case round =>
    obtain ⟨y, seen, rfl, rfl, ht, hown, hb⟩ := hrel
    obtain ⟨Au, cu, rfl⟩ := own_shape hown
    have HT := Lib.hid ht
    have HBl := Lib.hid hb
    have OWN := Lib.hid hown
    have zb := hb.size
    have hsl := ht.len
    have HSI := Lib.hid (ints_of_row (base := w.heap.size) hown (by omega) (fun z hz => HWF.out z (ht.sub z hz)))
    have HYW := Lib.hid (HWF.out y ht.mem)
    by_cases hy : y ∈ seen
    · have hd : decide (0 ≤ atL seen y) = true := by rw [mem_atL]; simpa using hy
      have HR := Lib.hid (ht.ring (ht.ind y hy) hy)
      clear ht hown hb hy
      go_wp2_with fail
      refine (has_any _ wr _ seen y HSI.out).mono ?_
      rintro e w2 ⟨rfl, rfl⟩
      rw [hd]
      go_wp2_with fail
      go_ret
      exact ⟨by rw [HR.out]; rfl, HBl.out⟩
    · have hd : decide (0 ≤ atL seen y) = false := by rw [mem_atL]; simpa using hy
      have HN := Lib.hid hy
      clear hown hb hy
      go_wp2_with fail
      refine (has_any _ wr _ seen y HSI.out).mono ?_
      rintro e w2 ⟨rfl, rfl⟩
      rw [hd]
      clear hd
      go_wp2_with fail
      refine (rget_any base w2 r NV AV R y (HH.out.fresh HBl.out)).mono ?_
      rintro e w3 ⟨v3, rfl, hob, hb3⟩
      rw [rob_abs] at hob
      obtain ⟨oa, oc, ob, od, rfl⟩ := hob.open
      have HOB := Lib.hid hob
      have HB3 := Lib.hid hb3
      clear hob hb3
      by_cases h7 : (R.abs.ob y).op = 7
      · have h7' : ((R.abs.ob y).op == 7) = true := by simp [h7]
        have NEXT := Lib.hid (HT.out.go HC.out h7 HN.out)
        have H1 := Lib.hid (HC.out.one y HT.out.mem h7)
        rw [H1.out]
        obtain ⟨_, _, hev, hrf, -⟩ := HOB.out
        cases hev
        obtain ⟨ad, eA, hao, hal, hc⟩ := ints_head hrf H1.out
        have hao2 : w2.heap.size ≤ ad.block := hao.1
        subst eA
        have HCA := Lib.hid (And.intro hal hc)
        obtain ⟨B, hB⟩ : ∃ B : Obj, Obj.cells #[.int .i64 (R.abs.ob y).op, .int .i64 (R.abs.ob y).n, .int .i64 (R.abs.ob y).ar, .slice (some ad) 1 oc, .slice ob (R.abs.ob y).words.length od] 25 = B := ⟨_, rfl⟩
        have cb := cellsH (show (w3.alloc B).heap[w3.heap.size]? = _ by rw [new0, ← hB])
        have HBB := Lib.hid (HB3.out.alloc HB3.out.size B)
        have hown2 : ∀ g, (Value.slice Au seen.length cu).ownBlock = some g → g < w2.heap.size := fun g hg => by obtain ⟨_, _, _, hr⟩ := own_row OWN.out hg; exact heap_lt hr
        have HO2 := Lib.hid hown2
        have hz3 := HB3.out.size
        have HBOX := Lib.hid (show (w3.alloc B).heap[w3.heap.size]? = some (.cells #[.int .i64 (R.abs.ob y).op, .int .i64 (R.abs.ob y).n, .int .i64 (R.abs.ob y).ar, .slice (some ad) 1 oc, .slice ob (R.abs.ob y).words.length od] 25) by rw [new0, ← hB])
        have hlen := NEXT.out.len
        rw [List.length_append] at hlen
        simp only [List.length_cons, List.length_nil] at hlen
        have HLEN := Lib.hid hlen
        have OWN3 := Lib.hid (own_keep OWN.out (fun g hg => HBB.out.block g (hown2 g hg)))
        clear ht h7 hrf hc hlen hown2 hao
        go_wp2_with (at_builtin; refine wpList_append_ints _ rfl _ _ 23 rfl w.heap.size 3 Try.underlying23 info3 _ seen.length seen rfl (OWN3.out.alloc _) (fun _ => True) _ [y] rfl (ints_oneAt (new21 _ _ _) HYW.out) (by have := HLEN.out; simp; omega) (by have := HBB.out.size; simp at this ⊢; omega) ?_; intro st' w10 hown' hg'; have HO := Lib.hid hown'; have HG := Lib.hid hg'; have hbx := rowT (turn_grown hg') (old1 HBOX.out _) (fun e => by have := HO2.out _ e; omega); have cx := cellsH hbx; have hc10 : w10.cell? (ad.add 0) = some (.int .i64 (nx R.abs.ob y)) := (World.cell?_of_block (a := ad.add 0) (by rw [addr_block]; exact (turn_grown hg').block _ (by have := HCA.out.1; simp; omega) (fun e => by have := HO2.out _ e; omega))).trans (cellBelow HCA.out.2 (((Below.refl w3.heap.size w3).alloc (Nat.le_refl _) B).alloc (by simp) _) (by rw [addr_block]; exact HCA.out.1)); have e0 : ad.add 0 = ad := (by unfold Addr.add; simp); rw [e0] at hc10; clear hown' hg' hbx e0)
        go_roundg (L.length - (seen ++ [y]).length)
        case rel => exact ⟨nx R.abs.ob y, seen ++ [y], rfl, rfl, NEXT.out, by simpa using HO.out, ((below_then HBl.out zb HBB.out).alloc (by have := HBB.out.size; simp at this ⊢; omega) _).grown HG.out (by have := HBB.out.size; simp at this ⊢; omega) (fun q hq => (OWN.out.lt q hq).1)⟩
        case measure => have := HLEN.out; rw [List.length_append]; simp only [List.length_cons, List.length_nil]; omega
      · have h7' : ((R.abs.ob y).op == 7) = false := by simpa using h7
        obtain ⟨B, hB⟩ : ∃ B : Obj, Obj.cells #[.int .i64 (R.abs.ob y).op, .int .i64 (R.abs.ob y).n, .int .i64 (R.abs.ob y).ar, .slice oa (R.abs.ob y).refs.length oc, .slice ob (R.abs.ob y).words.length od] 25 = B := ⟨_, rfl⟩
        have cb := cellsH (show (w3.alloc B).heap[w3.heap.size]? = _ by rw [new0, ← hB])
        have HBB := Lib.hid (HB3.out.alloc HB3.out.size B)
        have HD := Lib.hid (HT.out.done h7)
        have BE := Lib.hid (below_then HBl.out zb HBB.out)
        clear ht h7
        go_wp2_with fail
        go_ret
        exact ⟨by rw [HD.out]; rfl, BE.out⟩

set_option maxRecDepth 100000 in
set_option maxHeartbeats 2000000 in
theorem rtargets_any (base : Nat) (ok : Nat → Prop) (w : World) (r : Nat) (NV AV : Value) (R : RM) (L : List Int) (v : Value) (xs : List Int) (hh : RHeapAt base w r NV AV R) (hc : Chn R.abs.ob L) (hv : Ints ok w v xs) (hx : ∀ x ∈ xs, x ∈ L) (hwf : ∀ z ∈ L, (Lit.int .i64 z).wf = true) (hl : L.length ≤ 1000000) :
    Calls Try.prog 91 #[.pointer (some ⟨r, 0, none⟩), v] w fun e w' => ∃ z, e = .returned z ∧ w'.ownsRow w.heap.size 3 1 z xs.length ((xs.map (tgtL R.abs.ob L)).map (Value.int .i64)) ∧ (∀ x ∈ xs.map (tgtL R.abs.ob L), (Lit.int .i64 x).wf = true) ∧ Below w.heap.size w w' := by
  obtain ⟨A, c, rfl⟩ := hv.shape
  have hlen := hv.len
  have HH := Lib.hid hh
  have HC := Lib.hid hc
  have HV := Lib.hid hv
  have HX := Lib.hid hx
  have HWF := Lib.hid hwf
  have HTW := Lib.hid (show ∀ x ∈ xs.map (tgtL R.abs.ob L), (Lit.int .i64 x).wf = true from fun x hxm => by
    obtain ⟨q, hq, rfl⟩ := List.mem_map.1 hxm
    exact hwf _ (tgtL_last hc (hx q hq)).1)
  clear hh hc hv hx hwf
  go_enter Try.func91, Try.ntmps91
  go_wp2_with fail
  go_loopw [5, 6] (fun z i wr => ∃ k : Nat, k ≤ xs.length ∧ i = .int .i64 k ∧ wr.ownsRow w.heap.size 3 1 z k (((xs.take k).map (tgtL R.abs.ob L)).map (Value.int .i64)) ∧ Below w.heap.size w wr) (fun _ i _ => xs.length - (intOf i).toNat)
  case atStart => exact ⟨0, Nat.zero_le _, rfl, row_of_nil _ _ _, Below.refl _ _⟩
  case round =>
    obtain ⟨k, hk, rfl, ho, hb1⟩ := hrel
    obtain ⟨Az, cz, rfl⟩ := own_shape ho
    have OWN := Lib.hid ho
    have HBl := Lib.hid hb1
    have zb := hb1.size
    by_cases hlt : k < xs.length
    · obtain ⟨ad, eA, hcl⟩ := Ints.cell (HV.out.fresh hb1) hlt
      have hx := List.getElem?_eq_getElem hlt
      generalize xs[k] = x at hcl hx
      have HXX := Lib.hid hx
      have HXM := Lib.hid (HX.out x (List.mem_of_getElem? hx))
      have HLT := Lib.hid (show k + 1 ≤ xs.length from hlt)
      subst eA
      clear hx ho hb1
      go_wp2_with fail
      refine (rtarget_any base wr r NV AV R L x (HH.out.fresh HBl.out) HC.out HXM.out HWF.out hl).mono ?_
      rintro e w2 ⟨rfl, hb2⟩
      have OWN2 := Lib.hid (own_keep OWN.out (fun g hg => hb2.block g (by obtain ⟨_, _, _, hr⟩ := own_row OWN.out hg; exact heap_lt hr)))
      have HB2 := Lib.hid (below_then HBl.out zb hb2)
      have HW2 := Lib.hid (HWF.out _ (tgtL_last HC.out HXM.out).1)
      clear hb2 hcl
      go_wp2_with (at_builtin; refine wpList_append_ints _ rfl _ _ 23 rfl w.heap.size 3 Try.underlying23 info3 _ k ((xs.take k).map (tgtL R.abs.ob L)) rfl (OWN2.out.alloc _) (fun _ => True) _ [tgtL R.abs.ob L x] rfl (ints_oneAt (new0 _ _) HW2.out) (by have := HLT.out; simp; omega) (by have := HB2.out.size; simp; omega) ?_; intro st' w10 hown' hg'; have HO := Lib.hid hown'; have HG := Lib.hid hg'; clear hown' hg')
      go_roundw
      case rel => exact ⟨k + 1, HLT.out, by have := HLT.out; go_num, by rw [take_map_snoc _ HXX.out]; exact HO.out, (HB2.out.alloc HB2.out.size _).grown HG.out (by have := HB2.out.size; simp; omega) (fun q hq => (OWN.out.lt q hq).1)⟩
      case measure => have := HLT.out; simp [intOf]; omega
    · have he : k = xs.length := by omega
      subst he
      rw [List.take_length] at ho
      have HO := Lib.hid ho
      clear ho hb1
      go_wp2_with fail
      go_ret
      exact ⟨_, rfl, HO.out, HTW.out, HBl.out⟩
end Go.Proofs.Ytobniolmielikaa

/- The reference collector: Compress; no condition. -/
namespace Go.Proofs.Ytobniolmielikaa
open Go.RowKit

theorem chn_congr {f g : Int → Ob} (h : ∀ b, (f b).op = (g b).op ∧ ((g b).op = 7 → (f b).refs = (g b).refs)) {L : List Int} (c : Chn g L) : Chn f L := by
  refine ⟨c.nd, fun b hb h7 => ?_, fun b hb h7 => ?_⟩
  · have h8 : (g b).op = 7 := by rw [← (h b).1]; exact h7
    rw [(h b).2 h8]; exact c.one b hb h8
  · have h8 : (g b).op = 7 := by rw [← (h b).1]; exact h7
    have : nx f b = nx g b := by unfold nx; rw [(h b).2 h8]
    rw [this]; exact c.step b hb h8
theorem upd_chn {H : HM} {T : Int → Int} {S L : List Int} (c : Chn H.ob L) : Chn (H.upd T S).ob L := chn_congr (fun b => upd_same H T S b) c
theorem upd_tgt (H : HM) (T : Int → Int) (S L : List Int) (x : Int) : tgtL (H.upd T S).ob L x = tgtL H.ob L x := tgtL_congr (fun b => upd_same H T S b) L x
theorem upd_ob_new {H : HM} {T : Int → Int} {S : List Int} {x : Int} (h : H.has x = true) (hx : x ∉ S) : (H.upd T S).ob x = H.ob x := by
  rw [upd_ob H T S h]
  unfold cpr
  rw [if_neg (by simp [hx])]
/-- How the reference's Compress ends. -/
def RCmpEnd (base : Nat) (w : World) (r : Nat) (NV AV : Value) (R : RM) (roots : List Int) (e : Ending) (w' : World) : Prop :=
  Turn (RB r NV AV) w w' ∧ (R.abs.live roots = none → e = .returned (.tuple #[.slice none 0 0, .int .i64 35]) ∧ RHeapAt base w' r NV AV R) ∧
  ∀ L, R.abs.live roots = some L → ∃ v R', e = .returned (.tuple #[v, .int .i64 0]) ∧ Ints (w.heap.size ≤ ·) w' v (roots.map (tgtL R.abs.ob L)) ∧ RHeapAt base w' r NV AV R' ∧ R'.abs = R.abs.upd (tgtL R.abs.ob L) L

set_option maxRecDepth 100000 in
set_option maxHeartbeats 4000000 in
theorem rcompress_any (base : Nat) (ok : Nat → Prop) (w : World) (r : Nat) (NV AV : Value) (R : RM) (rv : Value) (roots : List Int) (hh : RHeapAt base w r NV AV R) (hW : RWel R) (hr : Ints ok w rv roots) (hok : ∀ k, ok k → ¬ RB r NV AV k) (hvol : R.abs.fuel roots ≤ 1000000) :
    Calls Try.prog 51 #[.pointer (some ⟨r, 0, none⟩), rv] w (RCmpEnd base w r NV AV R roots) := by
  have HRN := Lib.hid (hr.mono (ok' := fun k => ¬ RB r NV AV k) (fun k _ hk => hok k hk))
  have LOW := Lib.hid (show ∀ k, RB r NV AV k → k < w.heap.size from fun k e => by
    rcases e with rfl | e | e
    · exact hh.lt
    · exact (hh.nown.lt k e).2
    · exact (hh.aown.lt k e).2)
  clear hok
  obtain ⟨A, c, rfl⟩ := hr.shape
  have HH := Lib.hid hh
  have HR := Lib.hid hr
  have HW := Lib.hid hW
  have HV := Lib.hid hvol
  have hs0 : 1 ≤ R.s0 := hW.wel.n1
  have HS0 := Lib.hid hs0
  have hrl := hh.lt
  clear hh hr hvol hs0
  go_enter Try.func51, Try.ntmps51
  go_wp2_with fail
  refine (rlive_any base w r NV AV R HH.out HS0.out).mono ?_
  rintro e w1 ⟨rfl, hww⟩
  subst hww
  go_wp2_with fail
  refine (rstart_any ok _ roots _ HR.out).mono ?_
  rintro e w2 ⟨u, rfl, hu, hb2⟩
  obtain ⟨Au, cu, rfl⟩ := own_shape hu
  have HB2 := Lib.hid hb2
  have hq2 : Que 0 w2 (.slice Au roots.length cu) roots := by
    have := que_of_row hu HR.out.wf
    rcases this with h | ⟨g, off, cc, cs, e, _, r⟩
    · exact .inl h
    · exact .inr ⟨g, off, cc, cs, e, Nat.zero_le _, r⟩
  have HQ2 := Lib.hid hq2
  clear hq2 hu hb2
  go_wp2_with fail
  refine (order_false base w2 r NV AV R _ roots (HH.out.fresh HB2.out) HQ2.out HW.out.wel.nd HV.out).mono ?_
  rintro e w3 ⟨hb3, hno, hyes⟩
  rw [ordR_live HW.out.wel] at hno hyes
  have HB3 := Lib.hid (below_then HB2.out HB2.out.size hb3)
  clear hb3
  cases hl : R.abs.live roots with
  | none =>
    have he := hno hl
    subst he
    have HNL := Lib.hid hl
    clear hno hyes hl
    go_wp2_with fail
    go_ret2
    exact ⟨below_turn HB3.out _, fun _ => ⟨rfl, HH.out.fresh HB3.out⟩, fun L hL => by rw [HNL.out] at hL; cases hL⟩
  | some L =>
    obtain ⟨v, he, hown, hwf⟩ := hyes L hl
    subst he
    obtain ⟨Ao, co, rfl⟩ := own_shape hown
    have hlen := bfs_len _ _ _ _ (live_found hl).2
    have hll : L.length ≤ 1000000 := by have := HV.out; simp at hlen; omega
    have HI3 := Lib.hid ((ints_row hown (by omega) hwf).mono (ok' := fun k => w1.heap.size ≤ k) (fun k _ hk => by have := HB2.out.size; omega))
    have HLV := Lib.hid hl
    have HLL := Lib.hid hll
    have HWF := Lib.hid hwf
    clear hno hyes hl hown hwf hlen
    have HCH := Lib.hid (live_chn HW.out.wel HLV.out)
    have HBa := Lib.hid HB3.out
    have zb3 := HB3.out.size
    go_wp2_with fail
    go_loopw [8] (fun i wr => ∃ (k : Nat) (Rk : RM), k ≤ L.length ∧ i = .int .i64 k ∧ RHeapAt base wr r NV AV Rk ∧ Rk.abs = R.abs.upd (tgtL R.abs.ob L) (L.take k) ∧ Turn (RB r NV AV) w3 wr) (fun i _ => L.length - (intOf i).toNat)
    case atStart => exact ⟨0, R, Nat.zero_le _, rfl, HH.out.fresh HB3.out, by rw [List.take_zero, upd_nil], Turn.refl _ _⟩
    case round =>
      obtain ⟨k, Rk, hk, rfl, hRk, hab, ht⟩ := hrel
      have HK := Lib.hid hRk
      have HAB := Lib.hid hab
      have HT := Lib.hid ht
      have zt := ht.size
      have HIr := Lib.hid (HI3.out.turn ht (fun q hq e => by have := LOW.out q e; have hq2 : w1.heap.size ≤ q := hq; omega))
      have HCk := Lib.hid (show Chn Rk.abs.ob L by rw [hab]; exact upd_chn HCH.out)
      have HTk := Lib.hid (show ∀ x, tgtL Rk.abs.ob L x = tgtL R.abs.ob L x from fun x => by rw [hab]; exact upd_tgt _ _ _ _ _)
      by_cases hlt : k < L.length
      · obtain ⟨ad, eA, hc⟩ := Ints.cell HIr.out hlt
        have hx := List.getElem?_eq_getElem hlt
        generalize L[k] = x at hx hc
        have hxL : x ∈ L := List.mem_of_getElem? hx
        have htk : L.take (k + 1) = L.take k ++ [x] := by rw [List.take_add_one, hx]; rfl
        have HTK := Lib.hid htk
        have HXL := Lib.hid hxL
        have HHAS := Lib.hid ((live_has HLV.out).2.1 x hxL)
        have HLT := Lib.hid (show k + 1 ≤ L.length from hlt)
        have hobx : Rk.abs.ob x = R.abs.ob x := by rw [hab]; exact upd_ob_new HHAS.out (take_nodup_new HCH.out.nd hx)
        have HOBX := Lib.hid hobx
        have hadl := World.block_lt_of_cell? _ _ hc
        rw [addr_block] at hadl
        have HC0 := Lib.hid hc
        have HADN := Lib.hid (show ¬ RB r NV AV ad.block from fun e => by
          obtain ⟨A', cap', e', -, -, -, h4', -⟩ := HIr.out
          cases e'
          obtain ⟨ad', ea, ho', -, -⟩ := h4' (by omega)
          rw [eA] at ea
          cases ea
          have := LOW.out _ e
          have ho2 : w1.heap.size ≤ ad.block := ho'
          omega)
        subst eA
        clear hx hxL htk hobx hRk hab ht
        go_wp2_with fail
        refine (rget_any base wr r NV AV Rk x HK.out).mono ?_
        rintro e w4 ⟨v4, rfl, hob, hb4⟩
        rw [rob_abs, HOBX.out] at hob
        obtain ⟨oa, oc, ob, od, rfl⟩ := hob.open
        have HOB := Lib.hid hob
        have HB4 := Lib.hid hb4
        have hz4 := hb4.size
        obtain ⟨B, hB⟩ : ∃ B : Obj, Obj.cells #[.int .i64 (R.abs.ob x).op, .int .i64 (R.abs.ob x).n, .int .i64 (R.abs.ob x).ar, .slice oa (R.abs.ob x).refs.length oc, .slice ob (R.abs.ob x).words.length od] 25 = B := ⟨_, rfl⟩
        have cb := cellsH (show (w4.alloc B).heap[w4.heap.size]? = _ by rw [new0, ← hB])
        have HBB := Lib.hid (HB4.out.alloc hz4 B)
        clear hob hb4 hc
        by_cases h7 : (R.abs.ob x).op = 7
        · have hb7 : ((R.abs.ob x).op == 7) = true := by simp [h7]
          have NEXT := Lib.hid (show Rk.abs = R.abs.upd (tgtL R.abs.ob L) (L.take (k + 1)) by rw [HTK.out, upd_skip HW.out.wel.nd HHAS.out h7]; exact HAB.out)
          clear h7
          go_wp2_with fail
          go_roundw
          case rel => exact ⟨k + 1, Rk, HLT.out, by have := HLT.out; go_num, HK.out.fresh HBB.out, NEXT.out, HT.out.then HBB.out⟩
          case measure => have := HLT.out; simp [intOf]; omega
        · have hb7 : ((R.abs.ob x).op == 7) = false := by simpa using h7
          have H7 := Lib.hid h7
          clear h7
          go_wp2_with fail
          obtain ⟨_, _, hev, hrf, hwd⟩ := HOB.out.at
          cases hev
          have hclos := (live_has HLV.out).2.2.2 x HXL.out
          refine (rtargets_any base _ (w4.alloc B) r NV AV Rk L _ (R.abs.ob x).refs (HK.out.fresh HBB.out) HCk.out (hrf.alloc B) hclos HWF.out HLL.out).mono ?_
          rintro e w5 ⟨u, rfl, hu, huw, hb5⟩
          have hmapv : (R.abs.ob x).refs.map (tgtL Rk.abs.ob L) = (R.abs.ob x).refs.map (tgtL R.abs.ob L) := List.map_congr_left fun q _ => HTk.out q
          rw [hmapv] at hu huw
          obtain ⟨Au, cu, rfl⟩ := own_shape hu
          have hz5 := hb5.size
          simp only [World.size_alloc] at hu hb5 hz5
          have hrb := rowB hb5 (new0 w4 B) (by simp)
          rw [← hB] at hrb
          have hb05 : Below wr.heap.size wr w5 := below_then HBB.out HBB.out.size (by simpa using hb5)
          have T5 : Turn (fun k => k = w4.heap.size) w5 (w5.setCell ⟨w4.heap.size, 3, none⟩ (.slice Au (R.abs.ob x).refs.length cu)) := turnSet _ _ _ _
          have hr5 := rowSet hrb 3 (.slice Au (R.abs.ob x).refs.length cu)
          have hb06 : Below wr.heap.size wr (w5.setCell ⟨w4.heap.size, 3, none⟩ (.slice Au (R.abs.ob x).refs.length cu)) := hb05.setCell (p := ⟨w4.heap.size, 3, none⟩) hz4 _
          have hob5 : ObAt (fun _ => True) (w5.setCell ⟨w4.heap.size, 3, none⟩ (.slice Au (R.abs.ob x).refs.length cu)) (.agg #[.int .i64 (R.abs.ob x).op, .int .i64 (R.abs.ob x).n, .int .i64 (R.abs.ob x).ar, .slice Au (R.abs.ob x).refs.length cu, .slice ob (R.abs.ob x).words.length od]) { R.abs.ob x with refs := (R.abs.ob x).refs.map (tgtL R.abs.ob L) } := by
            have hl1 : (R.abs.ob x).refs.length = ((R.abs.ob x).refs.map (tgtL R.abs.ob L)).length := by simp
            have hrl := hrf.len
            have hu' : w5.ownsRow (w4.heap.size + 1) 3 1 (.slice Au (R.abs.ob x).refs.length cu) ((R.abs.ob x).refs.map (tgtL R.abs.ob L)).length (((R.abs.ob x).refs.map (tgtL R.abs.ob L)).map (Value.int .i64)) := by rw [← hl1]; exact hu
            have hi := ints_row hu' (by rw [← hl1]; omega) huw
            refine ⟨_, _, rfl, ?_, ?_⟩
            · exact (hi.turn T5 fun k hk e => by omega).mono fun k _ hk => trivial
            · have hwd1 := hwd.mono (ok' := fun k => k < w4.heap.size) (fun k hk _ => hk)
              exact ((((hwd1.alloc B).fresh (by simpa using hb5)).turn T5 (fun k hk e => by omega))).mono fun k _ hk => trivial
          have HOB5 := Lib.hid hob5
          have HB06 := Lib.hid hb06
          have c4 := cellsH hrb
          have f4 := freeH hrb
          have HR5 := Lib.hid hr5
          have hc6 := cellBelow HC0.out hb06 (by rw [addr_block]; exact hadl)
          clear hob5 hb06 hr5 T5 hb05 hrb hu hb5 hB cb hrf hwd hclos hmapv huw
          go_upto_region 12 with (fail)
          generalize w5.setCell ⟨w4.heap.size, 3, none⟩ (.slice Au (R.abs.ob x).refs.length cu) = WW at *
          clear c4 f4
          have i0 := boxCells (show WW.drew.heap[w4.heap.size]? = _ from HR5.out)
          have m0 : WW.drew.cell? (ad.add k) = some (.int .i64 x) := hc6
          clear hc6
          have hne : ¬ RB r NV AV w4.heap.size := fun e => by have := LOW.out _ e; omega
          have hne2 : ¬ RB r NV AV ad.block := HADN.out
          go_region_held3 (fun w' => (w'.cell? ⟨w4.heap.size, 0, none⟩ = some (.int .i64 (R.abs.ob x).op) ∧ w'.cell? ⟨w4.heap.size, 1, none⟩ = some (.int .i64 (R.abs.ob x).n) ∧ w'.cell? ⟨w4.heap.size, 2, none⟩ = some (.int .i64 (R.abs.ob x).ar) ∧ w'.cell? ⟨w4.heap.size, 3, none⟩ = some (.slice Au (R.abs.ob x).refs.length cu) ∧ w'.cell? ⟨w4.heap.size, 4, none⟩ = some (.slice ob (R.abs.ob x).words.length od)) ∧ w'.cell? (ad.add k) = some (.int .i64 x))
            (first | with_reducible exact ⟨i0, m0⟩ | with_reducible exact ⟨i1, m1⟩)
            (first
              | (go_at_call 92; refine (rset_any base _ WW.drew r NV AV Rk x _ _ ((HK.out.fresh HB06.out).fresh (Below.refl _ _).drew) (HOB5.out.fresh (Below.refl _ _).drew)).mono ?_; rintro e w6 ⟨rfl, R6, hR6, hab6, ht6⟩; have NR6 := Lib.hid hR6; have NA6 := Lib.hid hab6; have NT6 := Lib.hid ((below_turn (Below.refl WW.heap.size WW).drew (RB r NV AV)).trans ht6); have i1 := boxCells (rowT ht6 (show WW.drew.heap[w4.heap.size]? = _ from HR5.out) hne); have m1 : w6.cell? (ad.add k) = some (.int .i64 x) := (World.cell?_of_block (a := ad.add k) (by rw [addr_block]; exact ht6.block _ (by have h1 := World.block_lt_of_cell? _ _ m0; rw [addr_block] at h1; exact h1) hne2)).trans m0; clear hR6 hab6 ht6))
          clear i0 m0 i1 m1
          rename_i hHeld
          clear hHeld
          have hfin : R6.abs = R.abs.upd (tgtL R.abs.ob L) (L.take (k + 1)) := by
            rw [NA6.out, HAB.out, upd_set HW.out.wel.nd HHAS.out H7.out (tgt_vld HW.out.wel HLV.out x HXL.out), HTK.out]
          have NEXT := Lib.hid hfin
          have NTT := Lib.hid ((HT.out.then HB06.out).trans NT6.out)
          clear hfin
          go_wp2_with fail
          go_roundw
          case rel => exact ⟨k + 1, R6, HLT.out, by have := HLT.out; go_num, NR6.out, NEXT.out, NTT.out⟩
          case measure => have := HLT.out; simp [intOf]; omega
      · have he : k = L.length := by omega
        subst he
        rw [List.take_length] at hab
        have HAE := Lib.hid hab
        have HTr := Lib.hid ((below_turn HB3.out (RB r NV AV)).trans ht)
        have HRr := Lib.hid (HRN.out.turn HTr.out (fun q hq => hq))
        clear hk hRk hab ht
        go_wp2_with fail
        refine (rtargets_any base _ wr r NV AV Rk L _ roots HK.out HCk.out HRr.out (live_has HLV.out).2.2.1 HWF.out HLL.out).mono ?_
        rintro e w6 ⟨u, rfl, hu, huw, hb6⟩
        have hmapv : roots.map (tgtL Rk.abs.ob L) = roots.map (tgtL R.abs.ob L) := List.map_congr_left fun q _ => HTk.out q
        rw [hmapv] at hu huw
        obtain ⟨Az, cz, rfl⟩ := own_shape hu
        have hl1 : roots.length = (roots.map (tgtL R.abs.ob L)).length := by simp
        have hrl := HRr.out.len
        have hu' : w6.ownsRow wr.heap.size 3 1 (.slice Az roots.length cz) (roots.map (tgtL R.abs.ob L)).length ((roots.map (tgtL R.abs.ob L)).map (Value.int .i64)) := by rw [← hl1]; exact hu
        have hi := (ints_row hu' (by rw [← hl1]; omega) huw).mono (ok' := (w1.heap.size ≤ ·)) (fun k _ hk => by omega)
        have HI := Lib.hid hi
        have HT6 := Lib.hid (HTr.out.then hb6)
        have HK6 := Lib.hid (HK.out.fresh hb6)
        clear hu hu' huw hi hb6 hl1 hmapv
        go_wp2_with fail
        go_ret2
        refine ⟨HT6.out, (fun e => by rw [HLV.out] at e; cases e), fun L' e => ?_⟩
        rw [HLV.out] at e
        cases e
        exact ⟨_, Rk, rfl, HI.out, HK6.out, HAE.out⟩
end Go.Proofs.Ytobniolmielikaa

/- The walk of the law CollectCompress; no condition. -/
namespace Go.Proofs.Ytobniolmielikaa
open Go.RowKit

/-- What both Compress answer and leave. -/
def cmpX (f : Int → Ob) (roots : List Int) (o : Option (List Int)) : List Int := match o with | none => [] | some L => roots.map (tgtL f L)
def cmpE (o : Option (List Int)) : Int := match o with | none => 35 | some _ => 0
def cmpH (H : HM) (f : Int → Ob) (o : Option (List Int)) : HM := match o with | none => H | some L => H.upd (tgtL f L) L
theorem cmpP_of {w w' : World} {h y a : Nat} {H : HM} {roots : List Int} {e : Ending} (c : CmpEnd w h y a H roots e w') : Turn (HB h y a) w w' ∧ HeapAt w' h y a (cmpH H H.ob (H.live roots)) ∧ ∃ v, e = .returned (.tuple #[v, .int .i64 (cmpE (H.live roots))]) ∧ Ints (w.heap.size ≤ ·) w' v (cmpX H.ob roots (H.live roots)) := by
  obtain ⟨ht, hno, hy⟩ := c
  refine ⟨ht, ?_⟩
  cases hl : H.live roots with
  | none => exact ⟨(hno hl).2, _, (hno hl).1, Ints.nil _ _⟩
  | some L =>
    obtain ⟨v, e1, i, hh⟩ := hy L hl
    exact ⟨hh, v, e1, i⟩
theorem cmpQ_of {base : Nat} {w w' : World} {r : Nat} {NV AV : Value} {R : RM} {roots : List Int} {e : Ending} (c : RCmpEnd base w r NV AV R roots e w') : Turn (RB r NV AV) w w' ∧ ∃ v R', RHeapAt base w' r NV AV R' ∧ R'.abs = cmpH R.abs R.abs.ob (R.abs.live roots) ∧ e = .returned (.tuple #[v, .int .i64 (cmpE (R.abs.live roots))]) ∧ Ints (w.heap.size ≤ ·) w' v (cmpX R.abs.ob roots (R.abs.live roots)) := by
  obtain ⟨ht, hno, hy⟩ := c
  refine ⟨ht, ?_⟩
  cases hl : R.abs.live roots with
  | none => exact ⟨_, R, (hno hl).2, rfl, (hno hl).1, Ints.nil _ _⟩
  | some L =>
    obtain ⟨v, R', e1, i, hh, ha⟩ := hy L hl
    exact ⟨v, R', hh, ha, e1, i⟩
theorem cmp_alike {H : HM} {R R' : RM} {roots : List Int} (s : Sim H R.abs) (hW : Wel H) (hR : RWel R) (ha : R'.abs = cmpH R.abs R.abs.ob (R.abs.live roots)) : Alike (cmpH H H.ob (H.live roots)) R' := by
  rw [← s.live, ← s.ob] at ha
  have s' : Sim (cmpH H H.ob (H.live roots)) R'.abs := by
    rw [ha]
    cases H.live roots with
    | none => exact s
    | some L => exact s.upd _ _
  have hW' : Wel (cmpH H H.ob (H.live roots)) := by
    cases hl : H.live roots with
    | none => exact hW
    | some L => exact upd_wel hW (fun x hx _ => tgt_vld hW hl x hx)
  refine s'.alike hW' ⟨s'.wel hW', ?_, ?_, ?_⟩
  · show Asc R'.abs.ly
    rw [ha]
    cases H.live roots with
    | none => exact hR.sy
    | some L => exact asc_map _ (fun p => cpr_key _ _ p) hR.sy
  · show Asc R'.abs.la
    rw [ha]
    cases H.live roots with
    | none => exact hR.sa
    | some L => exact asc_map _ (fun p => cpr_key _ _ p) hR.sa
  · show 0 ≤ R'.abs.next
    rw [ha]
    cases H.live roots with
    | none => exact hR.nx
    | some L => exact hR.nx

set_option maxRecDepth 100000 in
set_option maxHeartbeats 8000000 in
theorem collectCompress_law (w : World) (n o : Int) (v1 v2 rv : Value) (l1 l2 : List It) (roots : List Int) (hi : HeapIn w v1 v2 l1 l2) (hr : Ints (· < w.heap.size) w rv roots) :
    Calls Try.prog 13 #[.agg #[.int .i64 n, .int .i64 o, v1, v2], rv] w fun e w' => e = .returned (.bool true) ∧ Below w.heap.size w w' := by
  obtain ⟨A1, c1, rfl⟩ := hi.r1.shape
  obtain ⟨A2, c2, rfl⟩ := hi.r2.shape
  obtain ⟨A, c, rfl⟩ := hr.shape
  have HI := Lib.hid hi
  have HR := Lib.hid hr
  clear hi hr
  obtain ⟨X0, hX0⟩ : ∃ X : Obj, Obj.cells #[.int .i64 n, .int .i64 o, .slice A1 l1.length c1, .slice A2 l2.length c2] 62 = X := ⟨_, rfl⟩
  have B0 := Lib.hid ((Below.refl w.heap.size w).alloc (Nat.le_refl _) X0)
  have X62 := Lib.hid (show (w.alloc X0).heap[w.heap.size]? = some (.cells #[.int .i64 n, .int .i64 o, .slice A1 l1.length c1, .slice A2 l2.length c2] 62) by rw [hX0]; exact new0 _ _)
  have zx : (w.alloc X0).heap.size = w.heap.size + 1 := by simp
  go_enter Try.func13, Try.ntmps13
  go_upto_region 1 with (fail)
  clear hX0
  generalize w.alloc X0 = wx at *
  have cx := box62 X62.out
  go_wp2_with fail
  refine (made34_any (· < w.heap.size) wx n o _ _ l1 l2 (HI.out.r1.fresh B0.out) (HI.out.r2.fresh B0.out) (fun x hx => (HI.out.o1 x hx).fresh B0.out) (fun x hx => (HI.out.o2 x hx).fresh B0.out) (fun k hk => by omega) HI.out.room).mono ?_
  intro e w1 hm
  unfold MadeEnd at hm
  obtain ⟨hb1, hc⟩ := hm
  have B1 := Lib.hid (below_then B0.out B0.out.size hb1)
  have Y62 := Lib.hid (rowB hb1 X62.out (heap_lt X62.out))
  have D1 := Lib.hid hb1
  have zz1 := hb1.size
  clear hb1 cx
  have cy := box62 Y62.out
  have HC := Lib.hid hc
  clear hc
  rcases HC.out with ⟨rfl, -⟩ | ⟨h, y, a, r, NV, AV, H, R, rfl, m⟩
  · clear HC
    go_wp2_with fail
    refine (small35_any (· < w.heap.size) (· < w.heap.size) w1 n o _ _ _ l1 l2 roots (HI.out.r1.fresh B1.out) (HI.out.r2.fresh B1.out) (HR.out.fresh B1.out)).mono ?_
    rintro e w2 ⟨hb2, b, rfl, -⟩
    have B2 := Lib.hid (below_then B1.out B1.out.size hb2)
    clear hb2 cy
    cases b <;>
    · go_wp2_with fail
      refine (awake_any _).mono ?_
      rintro e w3 ⟨rfl, hb3⟩
      have B3 := Lib.hid (below_then B2.out B2.out.size hb3)
      clear hb3
      go_wp2_with fail
      go_ret
      exact ⟨rfl, B3.out⟩
  have M := Lib.hid m
  clear HC m
  go_wp2_with fail
  refine (small35_any (· < w.heap.size) (· < w.heap.size) w1 n o _ _ _ l1 l2 roots (HI.out.r1.fresh B1.out) (HI.out.r2.fresh B1.out) (HR.out.fresh B1.out)).mono ?_
  rintro e w2 ⟨hb2, b, rfl, hsm⟩
  have B2 := Lib.hid (below_then B1.out B1.out.size hb2)
  have D2 := Lib.hid hb2
  have SM := Lib.hid hsm
  clear hb2 cy hsm
  cases b with
  | false =>
    go_wp2_with fail
    refine (awake_any _).mono ?_
    rintro e w3 ⟨rfl, hb3⟩
    have B3 := Lib.hid (below_then B2.out B2.out.size hb3)
    clear hb3
    go_wp2_with fail
    go_ret
    exact ⟨rfl, B3.out⟩
  | true =>
  have P2 := Lib.hid ((M.out.pair (SM.out rfl)).fresh D2.out)
  have RL := Lib.hid (SM.out rfl).c
  have zz2 := D2.out.size
  have zb2 := B2.out.size
  have HR2 := Lib.hid (HR.out.fresh B2.out)
  clear SM M HI X62 Y62 HR B0 B1 D1 D2
  go_wp2_with fail
  refine (compress_any _ w2 h y a H _ roots P2.out.two.p P2.out.wel HR2.out (fun k hk e => by have := P2.out.lowH k e; omega) (by have := P2.out.bnd.fuel RL.out; omega)).mono ?_
  intro e w3 hq
  obtain ⟨ht3, hh3, v3, rfl, i3⟩ := cmpP_of hq
  obtain ⟨A3, c3, rfl⟩ := i3.shape
  have T3 := Lib.hid (P2.out.two.prog ht3 hh3)
  have I3 := Lib.hid i3
  have B3 := Lib.hid (B2.out.trans ((P2.out.two.pb ht3 (by omega)).mono (by omega)))
  have HR3 := Lib.hid (HR2.out.turn ht3 (fun k hk e => by have := P2.out.lowH k e; omega))
  have zz3 := ht3.size
  clear hq ht3 hh3 i3
  go_wp2_with fail
  refine (rcompress_any wx.heap.size _ w3 r NV AV R _ roots T3.out.q P2.out.rwel HR3.out (fun k hk e => by have := P2.out.lowR k e; omega) (by rw [← P2.out.sim.fuel]; have := P2.out.bnd.fuel RL.out; omega)).mono ?_
  intro e w4 hq
  obtain ⟨ht4, v4, R4, hh4, ha4, he4, i4⟩ := cmpQ_of hq
  have AL := Lib.hid (cmp_alike P2.out.sim P2.out.wel P2.out.rwel ha4)
  rw [← P2.out.sim.live] at he4 i4
  rw [← P2.out.sim.ob] at i4
  subst he4
  obtain ⟨A4, c4, rfl⟩ := i4.shape
  have T4 := Lib.hid (T3.out.ref ht4 hh4)
  have I4 := Lib.hid i4
  have I34 := Lib.hid (I3.out.turn ht4 (fun k hk e => by have := P2.out.lowR k e; have hk2 : w2.heap.size ≤ k := hk; omega))
  have B4 := Lib.hid (B3.out.trans ((T3.out.rb ht4 (by omega)).mono (by omega)))
  clear hq ht4 hh4 ha4 i4
  go_wp2_with fail
  refine (sameInts_any _ _ w4 _ _ _ I34.out I4.out).mono ?_
  rintro e w7 ⟨rfl, n7, rfl⟩
  have D7 := Lib.hid (below_drewN (Below.refl w4.heap.size w4) n7)
  generalize w4.drewN n7 = w7 at *
  have T7 := Lib.hid (T4.out.fresh D7.out)
  have B7 := Lib.hid (below_then B4.out B4.out.size D7.out)
  go_wp2_with fail
  refine (like_any _ w7 h y a r NV AV _ R4 T7.out AL.out).mono ?_
  rintro e w8 ⟨rfl, hb8⟩
  have B8 := Lib.hid (below_then B7.out B7.out.size hb8)
  clear hb8
  go_wp2_with fail
  refine (awake_any _).mono ?_
  rintro e w9 ⟨rfl, hb9⟩
  have B9 := Lib.hid (below_then B8.out B8.out.size hb9)
  clear hb9
  go_wp2_with fail
  go_ret
  exact ⟨rfl, B9.out⟩
end Go.Proofs.Ytobniolmielikaa

/- The statement CollectCompress, where what it reads is of bulk at most 1048576: for every heap and roots the call answers true and turns nothing; no other condition. -/
namespace Go.Proofs.Ytobniolmielikaa
open Go.ChangeShapes Go.WideShapes Go.ChangeAt Go.RowKit Go.Joins

set_option maxRecDepth 100000 in
theorem collectCompress_lifted (os : Os) (started : os.Started) (H : Type) (enc : TypeId × Value → H) (F : Stop.Interp) :
    ReturnsInHanded {} Try.checked os 13 .any ((Rows.OpenSpec.upto Rows.collectCompressSpec).pre6 enc Try.prog Try.f13 Rows.collectCompressUptoRow.domain false) (((Rows.OpenSpec.upto Rows.collectCompressSpec).at F).post enc Try.prog Try.f13 false true false false) :=
  law_upto (s := Rows.collectCompressSpec) os started enc F (by kernel_rfl) Try.func13 rfl Try.underlying4 (by kernel_rfl) rfl
    (fun ds h => by match ds, h with | [_, _], _ => rfl)
    (OpenSpec.witness (enc := enc) (C := Try.checked) (s := Rows.OpenSpec.upto Rows.collectCompressSpec) (k := Rows.uptoSmall) rfl false ⟨#[], #[.agg #[.int .i64 0, .int .i64 0, .slice none 0 0, .slice none 0 0], .slice none 0 0], []⟩ 8 (by kernel_rfl) (by kernel_rfl) (by kernel_rfl)
      (x := ([.agg [.agg [.lit (.int .i64 0), .lit (.int .i64 0)], .nil, .nil], .nil], [], [])) (by kernel_rfl) rfl (by kernel_rfl))
    (fun W base args ds p hval hA hsz hb => by
      rw [Try.params13] at hA hval hsz
      obtain ⟨v0, vs0, d0, ds0, p0, q0, hargs, rfl, rfl, h0, r0⟩ := trodAll_cons hA
      obtain ⟨v1, vs1, d1, ds1, p1, q1, rfl, rfl, rfl, h1, r1⟩ := trodAll_cons r0
      obtain ⟨rfl, rfl, rfl⟩ := trodAll_nil r1
      obtain rfl : args = #[v0, v1] := by cases args; simp_all
      obtain ⟨cs, rfl, hcs⟩ := okWide_struct Try.underlying62 (hval 0 62 v0 rfl rfl)
      obtain ⟨f0, hf0⟩ := h0
      obtain ⟨f1, hf1⟩ := h1
      have hw : ∀ n ∈ DataW.weightsEach Try.prog [62, 23] [d0, d1], n ≤ reachBytes := by simpa using hsz
      simp only [Rows.uptoBulkAll] at hb
      obtain ⟨n, o, v2, v3, l1, l2, e, hi⟩ := heap_of_trod hf0 (fits_each (j := 0) hw rfl rfl) (show Rows.uptoBulk d0 ≤ 1048576 by omega)
      obtain ⟨v, xs, e1, hr⟩ := roots_of_trod hf1 (fits_each (j := 1) hw rfl rfl)
      obtain rfl : cs = #[.int .i64 n, .int .i64 o, v2, v3] := by
        cases cs
        simpa [Value.cells] using e
      obtain ⟨A, len, c, rfl⟩ := okWide_slice Try.underlying23 (hval 1 23 v1 rfl rfl)
      obtain rfl : v = .slice A len c := by simpa [Value.cells] using e1.symm
      exact collectCompress_law W n o v2 v3 _ l1 l2 xs hi hr)

theorem collectCompress_holds : Rows.CollectCompressUptoSaid :=
  OpenClaim.holds_of_cond 13 Try.f13 rfl rfl rfl rfl rfl rfl rfl ⟨rfl, rfl, rfl, rfl, rfl⟩ rfl rfl rfl rfl rfl (by kernel_rfl) Try.func13 (by kernel_rfl)
    (of_decide_eq_true (by kernel_rfl)) (by unfold Func.isWrapper; rw [if_neg (of_decide_eq_false (by kernel_rfl))]; exact ⟨rfl, rfl⟩)
    (fun os started H enc _ F => collectCompress_lifted os started H enc F)

#print axioms collectCompress_holds
end Go.Proofs.Ytobniolmielikaa

